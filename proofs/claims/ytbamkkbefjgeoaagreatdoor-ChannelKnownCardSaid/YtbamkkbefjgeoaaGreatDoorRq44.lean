/- A part of the law ChannelKnown. Written by a program of ours. -/
import Derived.Test.YtbamkkbefjgeoaaGreatDoorRq41
import Derived.Test.YtbamkkbefjgeoaaGreatDoorRq42
import Derived.Test.YtbamkkbefjgeoaaGreatDoorRq43
import Derived.Test.YtbamkkbefjgeoaaGreatDoorRows
import Derived.Test.YtbamkkbefjgeoaaGreatDoorRq13
import Derived.OpenShut
import Derived.MakeChecks
import Derived.ChangeArms
namespace Go.Rq.Cl
open Go Go.Proofs Go.Rq Go.Rq.Sm
set_option maxRecDepth 1000000 in
theorem run29 : runK PR e5 313 2000 2 (dropK 27 bd5) st27 = some st29 := by kernel_rfl
end Go.Rq.Cl

/- A part of the law ChannelKnown. Written by a program of ours. -/
namespace Go.Rq.Cl
open Go Go.Proofs Go.Rq Go.Rq.Sm
set_option maxRecDepth 1000000 in
theorem run30 : runK PR e5 313 2000 1 (dropK 29 bd5) st29 = some st30 := by kernel_rfl
end Go.Rq.Cl

/- A part of the law ChannelKnown. Written by a program of ours. -/
namespace Go.Rq.Cl
open Go Go.Proofs Go.Rq Go.Rq.Sm
set_option maxRecDepth 1000000 in
theorem run32 : runK PR e5 313 2000 2 (dropK 30 bd5) st30 = some st32 := by kernel_rfl
end Go.Rq.Cl

/- The law ChannelKnown, its parts together. Written by a program of ours. -/
namespace Go.Rq.Cl
open Go Go.Proofs Go.Rq Go.Rq.Sm
theorem to0 : crun PR e5 313 2000 bd5 st0 = crun PR e5 313 2000 (dropK 0 bd5) st0 := rfl
theorem to6 : crun PR e5 313 2000 bd5 st0 = crun PR e5 313 2000 (dropK 6 bd5) st6 := runK_next 6 6 to0 run6 (by kernel_rfl)
theorem to10 : crun PR e5 313 2000 bd5 st0 = crun PR e5 313 2000 (dropK 10 bd5) st10 := runK_next 4 10 to6 run10 (by kernel_rfl)
theorem to11 : crun PR e5 313 2000 bd5 st0 = crun PR e5 313 2000 (dropK 11 bd5) st11 := runK_next 1 11 to10 run11 (by kernel_rfl)
theorem to16 : crun PR e5 313 2000 bd5 st0 = crun PR e5 313 2000 (dropK 16 bd5) st16 := runK_next 5 16 to11 run16 (by kernel_rfl)
theorem to20 : crun PR e5 313 2000 bd5 st0 = crun PR e5 313 2000 (dropK 20 bd5) st20 := runK_next 4 20 to16 run20 (by kernel_rfl)
theorem to27 : crun PR e5 313 2000 bd5 st0 = crun PR e5 313 2000 (dropK 27 bd5) st27 := runK_next 7 27 to20 run27 (by kernel_rfl)
theorem to29 : crun PR e5 313 2000 bd5 st0 = crun PR e5 313 2000 (dropK 29 bd5) st29 := runK_next 2 29 to27 run29 (by kernel_rfl)
theorem to30 : crun PR e5 313 2000 bd5 st0 = crun PR e5 313 2000 (dropK 30 bd5) st30 := runK_next 1 30 to29 run30 (by kernel_rfl)
theorem to32 : crun PR e5 313 2000 bd5 st0 = crun PR e5 313 2000 (dropK 32 bd5) st32 := runK_next 2 32 to30 run32 (by kernel_rfl)
set_option maxRecDepth 1000000 in
theorem ends : crun PR e5 313 2000 (dropK 32 bd5) st32 = some (.ret, st32) := by kernel_rfl
set_option maxRecDepth 1000000 in
theorem answers : resAllC PR 313 st32.t st32.h Go.Proofs.Tryz.f5.results.toList = some [.v (.bool true)] := by kernel_rfl
theorem law_pure : PureOk PR 5 g5 := inlineC_ok cx5 rfl rfl
theorem law_run : g5 [] = some (true, .v (.bool true)) :=
  inlineC_of (fn := Go.Proofs.Tryz.f5) (c := bd5) (L := 313) (by kernel_rfl) (by kernel_rfl) (by kernel_rfl) (by kernel_rfl) (to32.trans ends) answers (by kernel_rfl)
end Go.Rq.Cl

/- What is told of the numbers of SHA-256's rounds. -/
namespace Go.Rq.Cl
open Go Go.Proofs Go.Rq Go.Rq.Sm

/-- A row of numbers of one kind, as it is told. -/
theorem row_told {P : Program} {w : World} {base : Nat} {sp : Nat → Bool} {held : Bool} {fuel : Nat} {t e : TypeId} {cs : List Value} {p : List MemPlace} {vals : List Int} (ht : P.underlying t = some (.array vals.length e)) (he : P.underlying e = some (.int .u32)) (h1 : P.cellsOf e = 1) (ht1 : P.cellsOf t = vals.length)
    (h : DataW.trod (fun _ => ()) P w base sp held fuel t cs = some (.agg (vals.map fun n => .lit (.int .u32 n)), p)) : cs = vals.map fun n => .int .u32 n := by
  obtain ⟨xs, m, -, hx, hl, hn, hel⟩ := DataW.trod_array ht h
  simp only [Prod.mk.injEq, DataW.agg.injEq] at hx
  obtain ⟨hx, -⟩ := hx
  rw [ht1] at hl
  apply List.ext_getElem?
  intro i
  by_cases hi : i < vals.length
  · have hi2 := hel i hi
    rw [h1, Nat.mul_one, List.getElem?_eq_getElem (by rw [hn]; exact hi)] at hi2
    obtain ⟨n, e1, e2, -⟩ := DataW.trod_int he hi2
    have e3 : (vals.map fun n => (DataW.lit (.int .u32 n) : DataW Unit))[i]? = some (xs[i]'(by rw [hn]; exact hi)).1 := by
      rw [hx, List.getElem?_map, List.getElem?_eq_getElem (by rw [hn]; exact hi)]
      rfl
    rw [e2, List.getElem?_map, List.getElem?_eq_getElem hi] at e3
    simp only [Option.map_some, Option.some.injEq, DataW.lit.injEq, Lit.int.injEq, true_and] at e3
    have e4 : cs[i]? = some (.int .u32 n) := by
      have := congrArg (fun l => l[0]?) e1
      simpa [List.getElem?_take, List.getElem?_drop] using this
    rw [e4, List.getElem?_map, List.getElem?_eq_getElem hi, ← e3]
    rfl
  · rw [List.getElem?_eq_none (by omega), List.getElem?_eq_none (by rw [List.length_map]; omega)]

theorem shaK_vals : shaK = shaKI.map fun n => .int .u32 n := by kernel_rfl
theorem k_type : (Tryz.prog.globals[3]?).map (·.type) = some 264 := by kernel_rfl
theorem k_laid : (YtbamkkbefjgeoaaGreatDoor.Rows.laid_reliquary_digest_k : DataW Unit) = .agg (shaKI.map fun n => .lit (.int .u32 n)) := by kernel_rfl
theorem gw_of_laid {W : World} {nm : String} (h : laidMetH Tryz.prog [(nm, YtbamkkbefjgeoaaGreatDoor.Rows.laid_reliquary_digest_k)] W) (k_glob : Tryz.prog.globalNamed nm = some 3) : GW W := by
  rw [MakeChecks.laidMetH_plain _ _ _ (by kernel_rfl)] at h
  obtain ⟨ps, ⟨g0, t0, cs0, f0, p0, q0, hg0, ht0, hv0, hd0, _, _⟩, _⟩ := h
  obtain rfl := Option.some.inj (k_glob.symm.trans hg0)
  obtain rfl := Option.some.inj (k_type.symm.trans ht0)
  rw [k_laid] at hd0
  have hcs := row_told (vals := shaKI) (e := 162) (by kernel_rfl) (by kernel_rfl) (by kernel_rfl) (by kernel_rfl) hd0
  intro g cs hg
  have hg : g = 3 ∧ cs = shaK := by
    unfold gTab at hg
    split at hg
    · exact ⟨rfl, by simpa using hg.symm⟩
    · cases hg
  obtain ⟨rfl, rfl⟩ := hg
  simp only [World.var?, k_glob, Option.bind_some] at hv0
  split at hv0
  · rename_i c ty fr hh
    simp only [Option.some.injEq] at hv0
    subst hv0
    exact ⟨_, ty, fr, hh, by rw [hcs, shaK_vals]⟩
  · cases hv0
end Go.Rq.Cl
