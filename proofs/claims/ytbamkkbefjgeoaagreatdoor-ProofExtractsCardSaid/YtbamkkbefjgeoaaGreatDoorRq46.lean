import Derived.Test.YtbamkkbefjgeoaaGreatDoorRq45
import Derived.Test.YtbamkkbefjgeoaaGreatDoorRq21
import Derived.Test.YtbamkkbefjgeoaaGreatDoorRows
import Derived.Test.YtbamkkbefjgeoaaGreatDoorRq15
import Derived.OpenShut
import Derived.MakeChecks
import Derived.ChangeArms
namespace Go.Rq.Cl
open Go Go.Proofs Go.Rq Go.Rq.Sm
def md6_0 : List AV × AV := ([], .v (.bool true))
set_option maxRecDepth 1000000 in
theorem mf6_0 : canQ (inlineC PR e6 6 2000 6) md6_0.1 = some (true, md6_0.2) := by kernel_rfl
def mt6 : List (List AV × AV) := [md6_0]
theorem mt6_ok : ∀ p ∈ mt6, canQ (inlineC PR e6 6 2000 6) p.1 = some (true, p.2) := fun p hp => by
 rcases List.mem_cons.1 hp with rfl | hp
 . exact mf6_0
 cases hp
noncomputable def g6 : List AV -> Option (Bool × AV) := canP (memoE (canQ (inlineC PR e6 6 2000 6)) mt6)
theorem g6_ok : CallOk PR 6 g6 := canP_ok (memoE_ok (canQ_ok (.inl ⟨n6, inlineC_ok cx6 rfl rfl⟩)) mt6_ok)
end Go.Rq.Cl

namespace Go.Rq.LwX
open Go Go.Proofs Go.Rq Go.Rq.Sm
theorem call_true {P : Program} {f : FuncId} {g : List AV -> Option (Bool × AV)} (hg : CallOk P f g) (h : g [] = some (true, kBool.enc true)) : CallOk P f (fn0 kBool true) := by
 have e : ∀ {args : List AV} {r : AV}, fn0 kBool true args = some (true, r) -> g args = some (true, r) := by
  intro args r hx
  cases args with
  | nil =>
   have h2 : r = kBool.enc true := by
    have := Option.some.inj hx
    simp only [Prod.mk.injEq, true_and] at this
    exact this.symm
   rw [h2]; exact h
  | cons a t => cases hx
 rcases hg with ⟨h1, h2⟩ | h2
 . exact .inl ⟨h1, fun ρ args xs r hr hx => h2 ρ args xs r (e hr) hx⟩
 . exact .inr (fun ρ args xs r hr hx => h2 ρ args xs r (e hr) hx)
theorem aw_run : Cl.g6 [] = some (true, kBool.enc true) := by kernel_rfl
theorem aw_ok : CallOk PR 6 (fn0 kBool true) := call_true Cl.g6_ok aw_run
theorem law_pure : PureOk PR 3 (fn6 (kInt .i64) c6.agg c6.agg c6.agg c6.agg c6.agg kBool (fun _ _ _ _ _ _ => true)) := Cl.extracts_pure aw_ok
theorem law_fn (s : Int) (x0 x1 x2 x3 x4 : W6) : fn6 (kInt .i64) c6.agg c6.agg c6.agg c6.agg c6.agg kBool (fun _ _ _ _ _ _ => true) [(kInt .i64).enc s, c6.agg.enc x0, c6.agg.enc x1, c6.agg.enc x2, c6.agg.enc x3, c6.agg.enc x4] = some (true, kBool.enc true) := feigned_fn s x0 x1 x2 x3 x4
theorem law_rvs (s : Int) (x0 x1 x2 x3 x4 : W6) (ρ : Ren) : Rvs ρ [(kInt .i64).enc s, c6.agg.enc x0, c6.agg.enc x1, c6.agg.enc x2, c6.agg.enc x3, c6.agg.enc x4] [(kInt .i64).val s, c6.agg.val x0, c6.agg.val x1, c6.agg.val x2, c6.agg.val x3, c6.agg.val x4] := feigned_rvs s x0 x1 x2 x3 x4 ρ
end Go.Rq.LwX

namespace Go.Rq.Cl
open Go Go.Proofs Go.Rq Go.Rq.Sm
theorem row_told {P : Program} {w : World} {base : Nat} {sp : Nat -> Bool} {held : Bool} {fuel : Nat} {t e : TypeId} {cs : List Value} {p : List MemPlace} {vals : List Int} (ht : P.underlying t = some (.array vals.length e)) (he : P.underlying e = some (.int .u32)) (h1 : P.cellsOf e = 1) (ht1 : P.cellsOf t = vals.length)
 (h : DataW.trod (fun _ => ()) P w base sp held fuel t cs = some (.agg (vals.map fun n => .lit (.int .u32 n)), p)) : cs = vals.map fun n => .int .u32 n := by
 obtain ⟨xs, m, -, hx, hl, hn, hel⟩ := DataW.trod_array ht h
 simp only [Prod.mk.injEq, DataW.agg.injEq] at hx
 obtain ⟨hx, -⟩ := hx
 rw [ht1] at hl
 apply List.ext_getElem?
 intro i
 by_cases hi : i < vals.length
 . have hi2 := hel i hi
   rw [h1, Nat.mul_one, List.getElem?_eq_getElem (by rw [hn]; exact hi)] at hi2
   obtain ⟨n, e1, e2, -⟩ := DataW.trod_int he hi2
   have e3 : (vals.map fun n => (DataW.lit (.int .u32 n) : DataW Unit))[i]? = some (xs[i]'(by rw [hn]; exact hi)).1 := by
    rw [hx, List.getElem?_map, List.getElem?_eq_getElem (by rw [hn]; exact hi)]
    rfl
   rw [e2, List.getElem?_map, List.getElem?_eq_getElem hi] at e3
   simp only [Option.map_some, Option.some.injEq, DataW.lit.injEq, Lit.int.injEq, true_and] at e3
   have e4 : cs[i]? = some (.int .u32 n) := by
    have := congrArg (fun l => l[0]?) e1
    simpa [List.getElem?_take, List.getElem?_drop] using this
   rw [e4, List.getElem?_map, List.getElem?_eq_getElem hi, <- e3]
   rfl
 . rw [List.getElem?_eq_none (by omega), List.getElem?_eq_none (by rw [List.length_map]; omega)]
theorem shaK_vals : shaK = shaKI.map fun n => .int .u32 n := by kernel_rfl
theorem k_type : (Tryz.prog.globals[3]?).map (·.type) = some 264 := by kernel_rfl
theorem k_laid : (YtbamkkbefjgeoaaGreatDoor.Rows.laid_reliquary_digest_k : DataW Unit) = .agg (shaKI.map fun n => .lit (.int .u32 n)) := by kernel_rfl
theorem gw_of_laid {W : World} {nm : String} (h : laidMetH Tryz.prog [(nm, YtbamkkbefjgeoaaGreatDoor.Rows.laid_reliquary_digest_k)] W) (k_glob : Tryz.prog.globalNamed nm = some 3) : GW W := by
 rw [MakeChecks.laidMetH_plain _ _ _ (by kernel_rfl)] at h
 obtain ⟨ps, ⟨g0, t0, cs0, f0, p0, q0, hg0, ht0, hv0, hd0, _, _⟩, _⟩ := h
 obtain rfl := Option.some.inj (k_glob.symm.trans hg0)
 obtain rfl := Option.some.inj (k_type.symm.trans ht0)
 rw [k_laid] at hd0
 have hcs := row_told (vals := shaKI) (e := 162) (by kernel_rfl) (by kernel_rfl) (by kernel_rfl) (by kernel_rfl) hd0
 intro g cs hg
 have hg : g = 3 /\ cs = shaK := by
  unfold gTab at hg
  split at hg
  . exact ⟨rfl, by simpa using hg.symm⟩
  . cases hg
 obtain ⟨rfl, rfl⟩ := hg
 simp only [World.var?, k_glob, Option.bind_some] at hv0
 split at hv0
 . rename_i c ty fr hh
   simp only [Option.some.injEq] at hv0
   subst hv0
   exact ⟨_, ty, fr, hh, by rw [hcs, shaK_vals]⟩
 . cases hv0
end Go.Rq.Cl
