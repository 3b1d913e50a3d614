import Derived.Test.YtbamkkbefjgeoaaGreatRq05
import Derived.Test.YtbamkkbefjgeoaaGreatRq13
namespace Go.Rq.Sm
open Go Go.Proofs Go.Rq
def dvN (hi lo : BitVec 64) : Nat := Nat.add (Nat.mul hi.toNat 18446744073709551616) lo.toNat
def dvF (s : Su) (hi lo : BitVec 64) : BitVec 64 × BitVec 64 := (BitVec.ofNat 64 (Nat.div (dvN hi lo) (suP s)), BitVec.ofNat 64 (Nat.mod (dvN hi lo) (suP s)))
theorem su_holds {s : Su} {hi lo : BitVec 64} (h : hi.toNat < suP s) : (suTree s hi lo).holds (fun q => flat q = some (kUU.val (dvF s hi lo))) := by
 cases s with
 | lit => exact dvTG_holds (p := 786251) (Yn := 13831873869608124416) (V1 := 3220484096) (V0 := 0) rfl rfl rfl rfl rfl (by decide +kernel) (by decide +kernel) (by decide +kernel) (by decide +kernel) (by decide +kernel) h (kUU.h1 _)
 | mid => exact dvTG_holds (p := 1152921504606846223) (Yn := 18446744073709539568) (V1 := 4294967295) (V0 := 4294955248) rfl rfl rfl rfl rfl (by decide +kernel) (by decide +kernel) (by decide +kernel) (by decide +kernel) (by decide +kernel) h (kUU.h1 _)
def kEmb {α β : Type} (A : Cod α) (v : β -> α) (d : α -> Option β) (hd : ∀ a b, d a = some b -> v b = a) : Cod β where
 enc b := A.enc (v b)
 dec a := match A.dec a with
  | some x => d x
  | none => none
 val b := A.val (v b)
 h1 b := A.h1 _
 h2 ρ a x b h r := by
  split at h
  . rename_i y hy
    rw [A.h2 ρ a x y hy r, hd y b h]
  . cases h
def suOfP (x : BitVec 64) : Option Su := bif x == 786251#64 then some .lit else bif x == 1152921504606846223#64 then some .mid else none
theorem suOfP_ok (x : BitVec 64) (s : Su) (h : suOfP x = some s) : suB s = x := by
 unfold suOfP at h
 cases h1 : x == 786251#64 with
 | true => rw [h1, cond_true] at h; cases h; exact (eq_of_beq h1).symm
 | false =>
  rw [h1, cond_false] at h
  cases h2 : x == 1152921504606846223#64 with
  | true => rw [h2, cond_true] at h; cases h; exact (eq_of_beq h2).symm
  | false => rw [h2, cond_false] at h; cases h
def kPr : Cod Su := kEmb kU suB suOfP suOfP_ok
def fnDv (F : Su -> BitVec 64 -> BitVec 64 -> BitVec 64 × BitVec 64) : List AV -> Option (Bool × AV)
 | [a, c, d] => match toU a, toU c, kPr.dec d with
  | some x, some y, some s => some (Nat.blt x.toNat (suP s), kUU.enc (F s x y))
  | _, _, _ => none
 | _ => none
theorem dv_ctx : Ctx PR (envOf eqsT dvT) [24, 27, 69, 78, 85, 104, 113, 120] (fun _ => none) 2 217 :=
 ctxB (envOf_ok eqsT_ok dvT_ok) mixed (by kernel_rfl)
theorem dv_gives {s : Su} {hi lo : BitVec 64} (h : hi.toNat < suP s) : Gives (afunR PR (envOf eqsT dvT) [24, 27, 69, 78, 85, 104, 113, 120] (fun _ => none) 2 217 [kU.enc hi, kU.enc lo, kU.enc (suB s)]) (kUU.val (dvF s hi lo)) := by
 cases s with
 | lit => exact givesOf (dv_runL hi lo) (su_holds h)
 | mid => exact givesOf (dv_runM hi lo) (su_holds h)
theorem dv_ok : CallOk PR 217 (fnDv dvF) := by
 refine .inl ⟨entersB (by kernel_rfl), pure_core dv_ctx fun args r hg => ?_⟩
 unfold fnDv at hg
 split at hg
 . rename_i a c d
   split at hg
   . rename_i x y s hx hy hs
     simp only [Option.some.injEq, Prod.mk.injEq] at hg
     obtain ⟨hb, rfl⟩ := hg
     refine ⟨[kU.enc x, kU.enc y, kU.enc (suB s)], [kU.val x, kU.val y, kU.val (suB s)], fun ρ xs hxs => ?_, by simp [flatL, kU.h1], _, kUU.h1 _, (dv_gives (Nat.le_of_ble_eq_true hb)).out⟩
     obtain ⟨v, ys, rfl, h1, h2⟩ := hxs.uncons
     obtain ⟨u, zs, rfl, h3, h4⟩ := h2.uncons
     obtain ⟨t, us, rfl, h5, h6⟩ := h4.uncons
     rw [h6.unnil, h1.toU hx, h3.toU hy, kPr.h2 ρ _ _ _ hs h5]
     rfl
   . cases hg
 . cases hg
end Go.Rq.Sm
