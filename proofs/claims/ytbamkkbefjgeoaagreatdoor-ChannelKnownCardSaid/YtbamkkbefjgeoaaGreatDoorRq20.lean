/- SHA-256 of texts of told lengths: a contract. Written by a program of ours. -/
import Derived.Test.YtbamkkbefjgeoaaGreatDoorRq18
import Derived.Test.YtbamkkbefjgeoaaGreatDoorRq19
namespace Go.Rq.Cl
open Go Go.Proofs Go.Rq Go.Rq.Sm
theorem dsum_ent : Enters PR 182 := enters_of (fn := Tryz.f182) (by kernel_rfl) (by kernel_rfl) (by kernel_rfl)
theorem dsum_gives (s : SA) (c1 : Nat) (t : TypeId) (l : List Int) (hs : shS s = true) (hl : l.length = s.len) : GivesH (afun PR (sdE shaF) [] (fun _ => none) 10 182 [s.at 0 c1] (hpS 0 s t (encL (cInt .u8) l)) 1) ((cBy 32).agg.val (shaG shaF l)) := by
  cases s with
  | nil => cases hs
  | slc n => cases hs
  | own es n =>
    unfold shS at hs
    obtain ⟨h1, h2⟩ := and_parts hs
    obtain rfl := Nat.eq_of_beq_eq_true h1
    have hm : n ∈ lensS := memN_spec.1 h2
    have hn : l.length = n := hl
    rw [lstB_of l]
    generalize (fun i => l.getD i 0) = b
    rw [hn]
    simp only [lensS, List.mem_cons, List.not_mem_nil, or_false] at hm
    rcases hm with rfl
    · exact givesH (dg_run74 shaF b t) (holds_leaf ((cBy 32).agg.h1 _))
theorem dsum_ok : HeapOk PR 182 sumV := by
  rw [sumV_eq]
  exact s1V_ok (E := fun _ => sdE shaF) (sym := []) (lf := 10) (fun _ => sdE_ok) mixed (fn := Tryz.f182) (c := bodyOf PR 182) (by kernel_rfl) (by kernel_rfl) (fun _ => sd_cod) dsum_gives
end Go.Rq.Cl
