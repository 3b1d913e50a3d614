/- What is told of the numbers of SHA-256's rounds. -/
import Derived.Test.YtcboekjnibppdaaGreatDoorRows
import Derived.Test.YtcboekjnibppdaaGreatDoorRq18
import Derived.OpenShut
import Derived.MakeChecks
import Derived.ChangeArms
namespace Go.Rq
open Go Go.Proofs

/-- A row of numbers of one kind, as it is told. -/
theorem row_told {P : Program} {w : World} {base : Nat} {sp : Nat → Bool} {held : Bool} {fuel : Nat} {t e : TypeId} {cs : List Value} {p : List MemPlace} {vals : List Int} (ht : P.underlying t = some (.array vals.length e)) (he : P.underlying e = some (.int .u32)) (h1 : P.cellsOf e = 1) (ht1 : P.cellsOf t = vals.length)
    (h : DataW.trod (fun _ => ()) P w base sp held fuel t cs = some (.agg (vals.map fun n => .lit (.int .u32 n)), p)) : cs = vals.map fun n => .int .u32 n := by
  obtain ⟨xs, m, -, hx, hl, hn, hel⟩ := DataW.trod_array ht h
  simp only [Prod.mk.injEq, DataW.agg.injEq] at hx
  obtain ⟨hx, -⟩ := hx
  rw [ht1] at hl
  apply List.ext_getElem?
  intro i
  by_cases hi : i < vals.length
  · have hi2 := hel i hi
    rw [h1, Nat.mul_one, List.getElem?_eq_getElem (by rw [hn]; exact hi)] at hi2
    obtain ⟨n, e1, e2, -⟩ := DataW.trod_int he hi2
    have e3 : (vals.map fun n => (DataW.lit (.int .u32 n) : DataW Unit))[i]? = some (xs[i]'(by rw [hn]; exact hi)).1 := by
      rw [hx, List.getElem?_map, List.getElem?_eq_getElem (by rw [hn]; exact hi)]
      rfl
    rw [e2, List.getElem?_map, List.getElem?_eq_getElem hi] at e3
    simp only [Option.map_some, Option.some.injEq, DataW.lit.injEq, Lit.int.injEq, true_and] at e3
    have e4 : cs[i]? = some (.int .u32 n) := by
      have := congrArg (fun l => l[0]?) e1
      simpa [List.getElem?_take, List.getElem?_drop] using this
    rw [e4, List.getElem?_map, List.getElem?_eq_getElem hi, ← e3]
    rfl
  · rw [List.getElem?_eq_none (by omega), List.getElem?_eq_none (by rw [List.length_map]; omega)]

theorem shaK_vals : shaK = shaKI.map fun n => .int .u32 n := by kernel_rfl
theorem k_type : (Tryz.prog.globals[0]?).map (·.type) = some 363 := by kernel_rfl
theorem k_laid : (YtcboekjnibppdaaGreatDoor.Rows.laid_reliquary_digest_k : DataW Unit) = .agg (shaKI.map fun n => .lit (.int .u32 n)) := by kernel_rfl
theorem gw_of_laid {W : World} {nm : String} (h : laidMetH Tryz.prog [(nm, YtcboekjnibppdaaGreatDoor.Rows.laid_reliquary_digest_k)] W) (k_glob : Tryz.prog.globalNamed nm = some 0) : GW W := by
  rw [MakeChecks.laidMetH_plain _ _ _ (by kernel_rfl)] at h
  obtain ⟨ps, ⟨g0, t0, cs0, f0, p0, q0, hg0, ht0, hv0, hd0, _, _⟩, _⟩ := h
  obtain rfl := Option.some.inj (k_glob.symm.trans hg0)
  obtain rfl := Option.some.inj (k_type.symm.trans ht0)
  rw [k_laid] at hd0
  have hcs := row_told (vals := shaKI) (e := 322) (by kernel_rfl) (by kernel_rfl) (by kernel_rfl) (by kernel_rfl) hd0
  intro g cs hg
  have hg : g = 0 ∧ cs = shaK := by
    unfold gTab at hg
    split at hg
    · exact ⟨rfl, by simpa using hg.symm⟩
    · cases hg
  obtain ⟨rfl, rfl⟩ := hg
  simp only [World.var?, k_glob, Option.bind_some] at hv0
  split at hv0
  · rename_i c ty fr hh
    simp only [Option.some.injEq] at hv0
    subst hv0
    exact ⟨_, ty, fr, hh, by rw [hcs, shaK_vals]⟩
  · cases hv0
end Go.Rq
