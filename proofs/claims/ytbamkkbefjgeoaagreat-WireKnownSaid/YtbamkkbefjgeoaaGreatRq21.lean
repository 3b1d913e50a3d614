/- The little curves' numbers: division by their primes. -/
import Derived.Test.YtbamkkbefjgeoaaGreatRq20
import Derived.Test.YtbamkkbefjgeoaaGreatRq14
import Derived.Test.YtbamkkbefjgeoaaGreatRq13
namespace Go.Rq.Sm
open Go Go.Proofs Go.Rq

def dvN (hi lo : BitVec 64) : Nat := Nat.add (Nat.mul hi.toNat 18446744073709551616) lo.toNat
def dvF (s : Su) (hi lo : BitVec 64) : BitVec 64 × BitVec 64 := (BitVec.ofNat 64 (Nat.div (dvN hi lo) (suP s)), BitVec.ofNat 64 (Nat.mod (dvN hi lo) (suP s)))
theorem su_holds {s : Su} {hi lo : BitVec 64} (h : hi.toNat < suP s) : (suTree s hi lo).holds (fun q => flat q = some (kUU.val (dvF s hi lo))) := by
  cases s with
  | lit => exact dvTG_holds (p := 786251) (Yn := 13831873869608124416) (V1 := 3220484096) (V0 := 0) rfl rfl rfl rfl rfl (by decide +kernel) (by decide +kernel) (by decide +kernel) (by decide +kernel) (by decide +kernel) h (kUU.h1 _)
  | mid => exact dvTG_holds (p := 1152921504606846223) (Yn := 18446744073709539568) (V1 := 4294967295) (V0 := 4294955248) rfl rfl rfl rfl rfl (by decide +kernel) (by decide +kernel) (by decide +kernel) (by decide +kernel) (by decide +kernel) h (kUU.h1 _)
/-- A value among told ones. -/
def kEmb {α β : Type} (A : Cod α) (v : β → α) (d : α → Option β) (hd : ∀ a b, d a = some b → v b = a) : Cod β where
  enc b := A.enc (v b)
  dec a := match A.dec a with
    | some x => d x
    | none => none
  val b := A.val (v b)
  h1 b := A.h1 _
  h2 ρ a x b h r := by
    split at h
    · rename_i y hy
      rw [A.h2 ρ a x y hy r, hd y b h]
    · cases h
def suOfP (x : BitVec 64) : Option Su := bif x == 786251#64 then some .lit else bif x == 1152921504606846223#64 then some .mid else none
theorem suOfP_ok (x : BitVec 64) (s : Su) (h : suOfP x = some s) : suB s = x := by
  unfold suOfP at h
  cases h1 : x == 786251#64 with
  | true => rw [h1, cond_true] at h; cases h; exact (eq_of_beq h1).symm
  | false =>
    rw [h1, cond_false] at h
    cases h2 : x == 1152921504606846223#64 with
    | true => rw [h2, cond_true] at h; cases h; exact (eq_of_beq h2).symm
    | false => rw [h2, cond_false] at h; cases h
def kPr : Cod Su := kEmb kU suB suOfP suOfP_ok
/-- A function of three whose first one must be below the third one. -/
def fnDv (F : Su → BitVec 64 → BitVec 64 → BitVec 64 × BitVec 64) : List AV → Option (Bool × AV)
  | [a, c, d] => match toU a, toU c, kPr.dec d with
    | some x, some y, some s => some (Nat.blt x.toNat (suP s), kUU.enc (F s x y))
    | _, _, _ => none
  | _ => none
theorem dv_ctx : Ctx PR (envOf eqsT dvT) [24, 27, 69, 78, 85, 104, 113, 120] (fun _ => none) 2 217 :=
  ctx_of (envOf_ok eqsT_ok dvT_ok) mixed (fn := Tryz.f217) (by kernel_rfl) (by kernel_rfl) (by kernel_rfl) (tabOk_none _)
theorem dv_gives {s : Su} {hi lo : BitVec 64} (h : hi.toNat < suP s) : Gives (afunR PR (envOf eqsT dvT) [24, 27, 69, 78, 85, 104, 113, 120] (fun _ => none) 2 217 [kU.enc hi, kU.enc lo, kU.enc (suB s)]) (kUU.val (dvF s hi lo)) := by
  cases s with
  | lit => exact givesOf (dv_runL hi lo) (su_holds h)
  | mid => exact givesOf (dv_runM hi lo) (su_holds h)
theorem dv_ok : CallOk PR 217 (fnDv dvF) := by
  refine .inl ⟨enters_of (fn := Tryz.f217) (by kernel_rfl) (by kernel_rfl) (by kernel_rfl), pure_core dv_ctx fun args r hg => ?_⟩
  unfold fnDv at hg
  split at hg
  · rename_i a c d
    split at hg
    · rename_i x y s hx hy hs
      simp only [Option.some.injEq, Prod.mk.injEq] at hg
      obtain ⟨hb, rfl⟩ := hg
      refine ⟨[kU.enc x, kU.enc y, kU.enc (suB s)], [kU.val x, kU.val y, kU.val (suB s)], fun ρ xs hxs => ?_, by simp [flatL, kU.h1], _, kUU.h1 _, (dv_gives (Nat.le_of_ble_eq_true hb)).out⟩
      obtain ⟨v, ys, rfl, h1, h2⟩ := hxs.uncons
      obtain ⟨u, zs, rfl, h3, h4⟩ := h2.uncons
      obtain ⟨t, us, rfl, h5, h6⟩ := h4.uncons
      rw [h6.unnil, h1.toU hx, h3.toU hy, kPr.h2 ρ _ _ _ hs h5]
      rfl
    · cases hg
  · cases hg
end Go.Rq.Sm

/- The little curves' numbers: contracts of their arithmetic. -/
namespace Go.Rq.Sm
open Go Go.Proofs Go.Rq

/-! What is left of a number of two words. -/
def rmT (D : Su → BitVec 64 → BitVec 64 → BitVec 64 × BitVec 64) : PureTab := [(217, fnDv D)]
theorem rmT_ok : TabPOk PR (rmT dvF) := TabPOk.cons dv_ok TabPOk.nil
theorem rm_run (D : Su → BitVec 64 → BitVec 64 → BitVec 64 × BitVec 64) (s : Su) (hi lo : BitVec 64) : Tree.but [1] 0 (afunR PR (envOf eqsT (rmT D)) [] (fun _ => none) 10 173 [kU.enc hi, kU.enc lo, kPr.enc s]) =
    .need (Nat.blt (hi % suB s).toNat (suP s) && true) (.leaf (kU.enc (D s (hi % suB s) lo).2)) := by cases s <;> kernel_rfl
def rmF (s : Su) (hi lo : BitVec 64) : BitVec 64 := BitVec.ofNat 64 (Nat.mod (dvN hi lo) (suP s))
theorem rm_eq (s : Su) (hi lo : BitVec 64) : (dvF s (hi % suB s) lo).2 = rmF s hi lo := by
  unfold dvF rmF
  have h : dvN (hi % suB s) lo % suP s = dvN hi lo % suP s := by
    show (((hi % suB s).toNat * 18446744073709551616) + lo.toNat) % suP s = ((hi.toNat * 18446744073709551616) + lo.toNat) % suP s
    rw [BitVec.toNat_umod, suB_nat, Nat.add_mod, Nat.mod_mul_mod, ← Nat.add_mod]
  exact congrArg (BitVec.ofNat 64) h
theorem rm_ctx : Ctx PR (envOf eqsT (rmT dvF)) [] (fun _ => none) 10 173 :=
  ctx_of (envOf_ok eqsT_ok rmT_ok) mixed (fn := Tryz.f173) (by kernel_rfl) (by kernel_rfl) (by kernel_rfl) (tabOk_none _)
theorem rm_ok : CallOk PR 173 (fn3 kU kU kPr kU fun x y s => rmF s x y) := by
  refine .inl ⟨enters_of (fn := Tryz.f173) (by kernel_rfl) (by kernel_rfl) (by kernel_rfl), pure3 rm_ctx fun hi lo s => ⟨Tree.holds_but (l := [1]) (i := 0) ?_⟩⟩
  rw [rm_run]
  refine ⟨?_, ?_⟩
  · have : (hi % suB s).toNat < suP s := by
      rw [BitVec.toNat_umod, suB_nat]; exact Nat.mod_lt _ (suP_pos s)
    rw [show Nat.blt (hi % suB s).toNat (suP s) = true from Nat.ble_eq_true_of_le this]; rfl
  · rw [rm_eq]; exact kU.h1 _

/-! A curve; a point. -/
abbrev Cv6 : Type := BitVec 64 × BitVec 64 × BitVec 64 × BitVec 64 × BitVec 64 × Bool
def cCv : CC Cv6 := CC.prod cU (CC.prod cU (CC.prod cU (CC.prod cU (CC.prod cU cBool))))
def suV (s : Su) : Cv6 := (suB s, suR s, suC s, suX s, suY s, false)
def beqU (a b : BitVec 64) : Bool := a == b
theorem beqU_ok (a b : BitVec 64) (h : beqU a b = true) : a = b := eq_of_beq h
def beqB (a b : Bool) : Bool := a == b
theorem beqB_ok (a b : Bool) (h : beqB a b = true) : a = b := eq_of_beq h
def eqCv : Cv6 → Cv6 → Bool := pairB beqU (pairB beqU (pairB beqU (pairB beqU (pairB beqU beqB))))
theorem eqCv_ok (a b : Cv6) (h : eqCv a b = true) : a = b := pairB_eq beqU_ok (pairB_eq beqU_ok (pairB_eq beqU_ok (pairB_eq beqU_ok (pairB_eq beqU_ok beqB_ok)))) a b h
def suOfV (x : Cv6) : Option Su := bif eqCv (suV .lit) x then some .lit else bif eqCv (suV .mid) x then some .mid else none
theorem suOfV_ok (x : Cv6) (s : Su) (h : suOfV x = some s) : suV s = x := by
  unfold suOfV at h
  cases h1 : eqCv (suV .lit) x with
  | true => rw [h1, cond_true] at h; cases h; exact eqCv_ok _ _ h1
  | false =>
    rw [h1, cond_false] at h
    cases h2 : eqCv (suV .mid) x with
    | true => rw [h2, cond_true] at h; cases h; exact eqCv_ok _ _ h2
    | false => rw [h2, cond_false] at h; cases h
def kCv : Cod Su := kEmb cCv.agg suV suOfV suOfV_ok
def cLp : CC Lp := CC.prod cU (CC.prod cU cBool)

/-! Products. -/
def lmT (M : BitVec 64 → BitVec 64 → BitVec 64 × BitVec 64) (R : Op2) : PureTab := [(172, fn2 kU kU kUU M), (173, fn3 kU kU kPr kU fun x y s => R s x y)]
theorem lmT_ok : TabPOk PR (lmT mul64 rmF) := TabPOk.cons mul64_ok (TabPOk.cons rm_ok TabPOk.nil)
theorem lm_run (M : BitVec 64 → BitVec 64 → BitVec 64 × BitVec 64) (R : Op2) (s : Su) (a b : BitVec 64) : (afunR PR (envOf eqsT (lmT M R)) [] (fun _ => none) 10 167 [kCv.enc s, kU.enc a, kU.enc b]).strict = .leaf (kU.enc (R s (M a b).1 (M a b).2)) := by cases s <;> kernel_rfl
theorem lm_eq (s : Su) (a b : BitVec 64) : rmF s (mul64 a b).1 (mul64 a b).2 = lMul s a b := by
  unfold rmF lMul
  have h := mul64_nat a b
  have e : dvN (mul64 a b).1 (mul64 a b).2 = a.toNat * b.toNat := by
    show (mul64 a b).1.toNat * 18446744073709551616 + (mul64 a b).2.toNat = _
    rw [← h, Nat.add_comm, Nat.mul_comm]
  rw [e]; rfl
theorem lm_ctx : Ctx PR (envOf eqsT (lmT mul64 rmF)) [] (fun _ => none) 10 167 :=
  ctx_of (envOf_ok eqsT_ok lmT_ok) mixed (fn := Tryz.f167) (by kernel_rfl) (by kernel_rfl) (by kernel_rfl) (tabOk_none _)
theorem lm_ok : CallOk PR 167 (fn3 kCv kU kU kU lMul) :=
  .inl ⟨enters_of (fn := Tryz.f167) (by kernel_rfl) (by kernel_rfl) (by kernel_rfl), pure3 lm_ctx fun s a b => leafVal (B := kU) (y := lMul s a b) (by rw [lm_run, lm_eq])⟩

/-! Sums and differences. -/
theorem la_run (s : Su) (a b : BitVec 64) : (afunR PR (envOf eqsT []) [] (fun _ => none) 10 215 [kCv.enc s, kU.enc a, kU.enc b]).strict = .leaf (kU.enc (lAdd s a b)) := by cases s <;> kernel_rfl
theorem ls_run (s : Su) (a b : BitVec 64) : (afunR PR (envOf eqsT []) [] (fun _ => none) 10 135 [kCv.enc s, kU.enc a, kU.enc b]).strict = .leaf (kU.enc (lSub s a b)) := by cases s <;> kernel_rfl
theorem la_ctx : Ctx PR (envOf eqsT []) [] (fun _ => none) 10 215 :=
  ctx_of (envOf_ok eqsT_ok TabPOk.nil) mixed (fn := Tryz.f215) (by kernel_rfl) (by kernel_rfl) (by kernel_rfl) (tabOk_none _)
theorem ls_ctx : Ctx PR (envOf eqsT []) [] (fun _ => none) 10 135 :=
  ctx_of (envOf_ok eqsT_ok TabPOk.nil) mixed (fn := Tryz.f135) (by kernel_rfl) (by kernel_rfl) (by kernel_rfl) (tabOk_none _)
theorem la_ok : CallOk PR 215 (fn3 kCv kU kU kU lAdd) :=
  .inl ⟨enters_of (fn := Tryz.f215) (by kernel_rfl) (by kernel_rfl) (by kernel_rfl), pure3 la_ctx fun s a b => leafVal (B := kU) (y := lAdd s a b) (la_run s a b)⟩
theorem ls_ok : CallOk PR 135 (fn3 kCv kU kU kU lSub) :=
  .inl ⟨enters_of (fn := Tryz.f135) (by kernel_rfl) (by kernel_rfl) (by kernel_rfl), pure3 ls_ctx fun s a b => leafVal (B := kU) (y := lSub s a b) (ls_run s a b)⟩

/-! What is left open of the arithmetic. -/
structure LQ where
  mul : Op2
  add : Op2
  sub : Op2
  right : Op1
  inv : Op1
  slope : Su → Lp → Lp → BitVec 64 × Bool
  sum : Su → Lp → Lp → Lp
def kUb : Cod (BitVec 64 × Bool) := kTup kU kBool (fun _ => rfl) (fun _ => rfl)
def tMulL (t : LQ) : FuncId × (List AV → Option (Bool × AV)) := (167, fn3 kCv kU kU kU t.mul)
def tAddL (t : LQ) : FuncId × (List AV → Option (Bool × AV)) := (215, fn3 kCv kU kU kU t.add)
def tSubL (t : LQ) : FuncId × (List AV → Option (Bool × AV)) := (135, fn3 kCv kU kU kU t.sub)
def tRightL (t : LQ) : FuncId × (List AV → Option (Bool × AV)) := (213, fn2 kCv kU kU t.right)
def tInvL (t : LQ) : FuncId × (List AV → Option (Bool × AV)) := (214, fn2 kCv kU kU t.inv)
def tSlopeL (t : LQ) : FuncId × (List AV → Option (Bool × AV)) := (166, fn3 kCv cLp.agg cLp.agg kUb t.slope)
def tSumL (t : LQ) : FuncId × (List AV → Option (Bool × AV)) := (113, fn3 kCv cLp.agg cLp.agg cLp.agg t.sum)

/-! What a point's Y times itself must be; whether a point is one of the curve. -/
def lrT (t : LQ) : PureTab := [tMulL t, tAddL t]
theorem lr_run (t : LQ) (s : Su) (x : BitVec 64) : (afunR PR (envOf eqsT (lrT t)) [] (fun _ => none) 10 213 [kCv.enc s, kU.enc x]).strict = .leaf (kU.enc (t.add s (t.mul s (t.mul s x x) x) x)) := by cases s <;> kernel_rfl
def onG (t : LQ) (s : Su) (p : Lp) : Bool := bif p.2.2 then (bif p.1 == 0#64 then p.2.1 == 0#64 else false) else
  bif BitVec.ult p.1 (suB s) then (bif BitVec.ult p.2.1 (suB s) then t.mul s p.2.1 p.2.1 == t.right s p.1 else false) else false
def loT (t : LQ) : PureTab := [tMulL t, tRightL t]
theorem lo_run (t : LQ) (s : Su) (p : Lp) : (afunR PR (envOf eqsT (loT t)) [6, 10, 20, 27] (fun _ => none) 10 165 [kCv.enc s, cLp.agg.enc p]).strict =
    .br p.2.2 (.br (p.1 == bitW false) (.leaf (.v (.bool (p.2.1 == bitW false)))) (.leaf (.lit false)))
      (.br (BitVec.ult p.1 (suB s)) (.br (BitVec.ult p.2.1 (suB s)) (.leaf (.v (.bool (t.mul s p.2.1 p.2.1 == t.right s p.1)))) (.leaf (.lit false))) (.leaf (.lit false))) := by cases s <;> kernel_rfl
theorem lo_gives (t : LQ) (s : Su) (p : Lp) : Gives (afunR PR (envOf eqsT (loT t)) [6, 10, 20, 27] (fun _ => none) 10 165 [kCv.enc s, cLp.agg.enc p]) (kBool.val (onG t s p)) :=
  givesOf (lo_run t s p) (holds_br (B := kBool) (holds_br (B := kBool) (holds_leaf rfl) (holds_leaf rfl)) (holds_br (B := kBool) (holds_br (B := kBool) (holds_leaf rfl) (holds_leaf rfl)) (holds_leaf rfl)))
theorem lr_ctx : Ctx PR (envOf eqsT (lrT ⟨lMul, lAdd, lSub, lrF, lrF, fun _ _ _ => (0#64, false), fun _ p _ => p⟩)) [] (fun _ => none) 10 213 :=
  ctx_of (envOf_ok eqsT_ok (TabPOk.cons lm_ok (TabPOk.cons la_ok TabPOk.nil))) mixed (fn := Tryz.f213) (by kernel_rfl) (by kernel_rfl) (by kernel_rfl) (tabOk_none _)
theorem lr_ok : CallOk PR 213 (fn2 kCv kU kU lrF) :=
  .inl ⟨enters_of (fn := Tryz.f213) (by kernel_rfl) (by kernel_rfl) (by kernel_rfl), pure2 lr_ctx fun s x => leafVal (B := kU) (y := lrF s x) (lr_run _ s x)⟩
theorem lo_ctx : Ctx PR (envOf eqsT (loT ⟨lMul, lAdd, lSub, lrF, lrF, fun _ _ _ => (0#64, false), fun _ p _ => p⟩)) [6, 10, 20, 27] (fun _ => none) 10 165 :=
  ctx_of (envOf_ok eqsT_ok (TabPOk.cons lm_ok (TabPOk.cons lr_ok TabPOk.nil))) mixed (fn := Tryz.f165) (by kernel_rfl) (by kernel_rfl) (by kernel_rfl) (tabOk_none _)
theorem lo_ok : CallOk PR 165 (fn2 kCv cLp.agg kBool onF) :=
  .inl ⟨enters_of (fn := Tryz.f165) (by kernel_rfl) (by kernel_rfl) (by kernel_rfl), pure2 lo_ctx fun s p => lo_gives _ s p⟩

/-! The inverse, by a power; the slope; the sum. -/
def lvT (P : Op2) : PureTab := [(247, fn3 kCv kU kU kU P)]
theorem lv_run (P : Op2) (s : Su) (x : BitVec 64) : (afunR PR (envOf eqsT (lvT P)) [] (fun _ => none) 10 214 [kCv.enc s, kU.enc x]).strict = .leaf (kU.enc (P s x (suB s - 2#64))) := by cases s <;> kernel_rfl
def slopeG (t : LQ) (s : Su) (p q : Lp) : BitVec 64 × Bool := bif p.1 != q.1 then (t.mul s (t.sub s q.2.1 p.2.1) (t.inv s (t.sub s q.1 p.1)), true) else
  bif p.2.1 != q.2.1 then (0#64, false) else bif p.2.1 == 0#64 then (0#64, false) else
  (t.mul s (t.add s (t.add s (t.add s (t.mul s p.1 p.1) (t.mul s p.1 p.1)) (t.mul s p.1 p.1)) 1#64) (t.inv s (t.add s p.2.1 p.2.1)), true)
def lsT (t : LQ) : PureTab := [tMulL t, tAddL t, tSubL t, tInvL t]
def slL0 : AV := .tup [.bit false, .lit false]
theorem slL0_flat : flat slL0 = some (kUb.val (0#64, false)) := rfl
def slL (x : BitVec 64) (b : Bool) : AV := .tup [.u x, .lit b]
theorem slL_flat (x : BitVec 64) (b : Bool) : flat (slL x b) = some (kUb.val (x, b)) := rfl
theorem lsl_run (t : LQ) (s : Su) (p q : Lp) : (afunR PR (envOf eqsT (lsT t)) [13, 35, 39] (fun _ => none) 10 166 [kCv.enc s, cLp.agg.enc p, cLp.agg.enc q]).strict =
    .br (p.1 != q.1) (.leaf (slL (t.mul s (t.sub s q.2.1 p.2.1) (t.inv s (t.sub s q.1 p.1))) true))
      (.br (p.2.1 != q.2.1) (.leaf slL0) (.br (p.2.1 == 0#64) (.leaf slL0)
        (.leaf (slL (t.mul s (t.add s (t.add s (t.add s (t.mul s p.1 p.1) (t.mul s p.1 p.1)) (t.mul s p.1 p.1)) 1#64) (t.inv s (t.add s p.2.1 p.2.1))) true)))) := by cases s <;> kernel_rfl
theorem lsl_gives (t : LQ) (s : Su) (p q : Lp) : Gives (afunR PR (envOf eqsT (lsT t)) [13, 35, 39] (fun _ => none) 10 166 [kCv.enc s, cLp.agg.enc p, cLp.agg.enc q]) (kUb.val (slopeG t s p q)) :=
  givesOf (lsl_run t s p q) (holds_br (B := kUb) (holds_leaf (slL_flat _ _)) (holds_br (B := kUb) (holds_leaf slL0_flat) (holds_br (B := kUb) (holds_leaf slL0_flat) (holds_leaf (slL_flat _ _)))))
def sumG (t : LQ) (s : Su) (p q : Lp) : Lp := bif p.2.2 then q else bif q.2.2 then p else bif !(t.slope s p q).2 then (0#64, 0#64, true) else
  (t.sub s (t.sub s (t.mul s (t.slope s p q).1 (t.slope s p q).1) p.1) q.1,
   t.sub s (t.mul s (t.slope s p q).1 (t.sub s p.1 (t.sub s (t.sub s (t.mul s (t.slope s p q).1 (t.slope s p q).1) p.1) q.1))) p.2.1, false)
def lsmT (t : LQ) : PureTab := [tMulL t, tSubL t, tSlopeL t]
def lpL (x y : BitVec 64) (b : Bool) : AV := .agg [.u x, .u y, .lit b]
theorem lpL_flat (x y : BitVec 64) (b : Bool) : flat (lpL x y b) = some (cLp.agg.val (x, y, b)) := rfl
theorem lsm_run (t : LQ) (s : Su) (p q : Lp) : (afunR PR (envOf eqsT (lsmT t)) [10, 14, 26] (fun _ => none) 10 113 [kCv.enc s, cLp.agg.enc p, cLp.agg.enc q]).strict =
    .br p.2.2 (.leaf (cLp.agg.enc q)) (.br q.2.2 (.leaf (cLp.agg.enc p)) (.br (!(t.slope s p q).2) (.leaf (lpL 0#64 0#64 true))
      (.leaf (lpL (t.sub s (t.sub s (t.mul s (t.slope s p q).1 (t.slope s p q).1) p.1) q.1)
        (t.sub s (t.mul s (t.slope s p q).1 (t.sub s p.1 (t.sub s (t.sub s (t.mul s (t.slope s p q).1 (t.slope s p q).1) p.1) q.1))) p.2.1) false)))) := by cases s <;> kernel_rfl
theorem lsm_gives (t : LQ) (s : Su) (p q : Lp) : Gives (afunR PR (envOf eqsT (lsmT t)) [10, 14, 26] (fun _ => none) 10 113 [kCv.enc s, cLp.agg.enc p, cLp.agg.enc q]) (cLp.agg.val (sumG t s p q)) :=
  givesOf (lsm_run t s p q) (holds_br (B := cLp.agg) (holds_leaf (cLp.agg.h1 _)) (holds_br (B := cLp.agg) (holds_leaf (cLp.agg.h1 _)) (holds_br (B := cLp.agg) (holds_leaf (lpL_flat _ _ _)) (holds_leaf (lpL_flat _ _ _)))))
end Go.Rq.Sm

/- The little curves' powers, inverses, slopes, sums, multiples: contracts. -/
namespace Go.Rq.Sm
open Go Go.Proofs Go.Rq

/-! Powers. -/
def lpwT (M : Op2) (L : BitVec 64 → Int) : PureTab := [(167, fn3 kCv kU kU kU M), (142, fn1 kU (kInt .i64) L)]
def blI (x : BitVec 64) : Int := ((bl x.toNat : Nat) : Int)
theorem lpwT_ok : TabPOk PR (lpwT lMul blI) := TabPOk.cons lm_ok (TabPOk.cons len64_ok TabPOk.nil)
def pwK : Keep := ⟨[1, 2, 3, 7, 8], [0], 6⟩
@[irreducible] noncomputable def pwX (M : Op2) (L : BitVec 64 → Int) (s : Su) (a n : BitVec 64) : XS := entryOf PR (envOf eqsT (lpwT M L)) [13, 24] (fun _ => none) 10 247 [kCv.enc s, kU.enc a, kU.enc n] [] 0 0 pwK
@[irreducible] noncomputable def pwI (M : Op2) (L : BitVec 64 → Int) (s : Su) (a n : BitVec 64) (d : Int × BitVec 64) : XS := ((pwX M L s a n).setT 8 (.v (.int .i64 d.1))).setT 7 (.u d.2)
@[irreducible] noncomputable def pwC : Code := roundOf PR 247 0
set_option maxRecDepth 1000000 in
theorem pw_round (M : Op2) (L : BitVec 64 → Int) (s : Su) (a n : BitVec 64) (z : Int) (out : BitVec 64) : Tree.but [2] 0 (roundT PR (envOf eqsT (lpwT M L)) [13, 24] (fun _ => none) 10 pwK pwK pwK pwC (pwI M L s a n (z, out))) =
    .br (decide (z ≥ 0))
      (.br (bitU n z)
        (.need (notNeg z) (.leaf (.normal, pwI M L s a n (IntKind.i64.wrap (z - 1), M s (M s out out) a))))
        (.need (notNeg z) (.leaf (.normal, pwI M L s a n (IntKind.i64.wrap (z - 1), M s out out)))))
      (.leaf (.exit 0, pwI M L s a n (z, out))) := by cases s <;> kernel_rfl
set_option maxRecDepth 1000000 in
theorem pw_head (M : Op2) (L : BitVec 64 → Int) (s : Su) (a n : BitVec 64) : (pwX M L s a n).setT 7 (.u (bitW true)) = pwI M L s a n (IntKind.i64.wrap (L n - 1), bitW true) := by cases s <;> kernel_rfl
set_option maxRecDepth 1000000 in
theorem pw_bit (M : Op2) (L : BitVec 64 → Int) (s : Su) (a n : BitVec 64) : (pwX M L s a n).s.tm[7]? = some (.bit true) := by cases s <;> kernel_rfl
theorem pw_blk : blkAll 0 (bodyOf PR 247) = [.loop pwC] := by kernel_rfl
@[irreducible] noncomputable def pwB (M : Op2) (L : BitVec 64 → Int) (s : Su) (a n r : BitVec 64) : BEnt := ⟨pwK.tm, pwK.ids, pwK.n, pwX M L s a n, .leaf (.normal, pwI M L s a n (-1, r))⟩
theorem pwB_n (M : Op2) (L : BitVec 64 → Int) (s : Su) (a n r : BitVec 64) : (pwB M L s a n r).n = 6 ∧ (pwB M L s a n r).pre = pwX M L s a n ∧ (pwB M L s a n r).post = .leaf (.normal, pwI M L s a n (-1, r)) := by
  unfold pwB
  exact ⟨rfl, rfl, rfl⟩
set_option maxRecDepth 1000000 in
theorem pw_run (M : Op2) (L : BitVec 64 → Int) (s : Su) (a n r : BitVec 64) : (afunR PR (envOf eqsT (lpwT M L)) [13, 24] (tabOf [(0, pwB M L s a n r)]) 10 247 [kCv.enc s, kU.enc a, kU.enc n]).strict =
    .same (pwX M L s a n) (pwX M L s a n) (.leaf (kU.enc r)) := by cases s <;> kernel_rfl
theorem pw_codeOk : codeOk (envOf eqsT (lpwT lMul blI)) pwC = true := by kernel_rfl
theorem blI_le (n : BitVec 64) : 0 ≤ blI n ∧ blI n ≤ 64 := by
  have : bl n.toNat ≤ 64 := bl_spec.2 n.isLt
  unfold blI
  omega
def pwR (s : Su) (a n : BitVec 64) : BitVec 64 := sqB (fun u => lMul s u u) (fun u => lMul s u a) (bitU n) (bl n.toNat) (bitW true)
theorem pw_start (s : Su) (a n : BitVec 64) : ∀ d : Int × BitVec 64, d = (IntKind.i64.wrap (blI n - 1), bitW true) → -1 ≤ d.1 ∧ d.1 ≤ 63 ∧ sqB (fun u => lMul s u u) (fun u => lMul s u a) (bitU n) (d.1 + 1).toNat d.2 = pwR s a n := by
  rintro d rfl
  have hl := blI_le n
  have hw : IntKind.i64.wrap (blI n - 1) = blI n - 1 := wrap_id (n := blI n - 1) (by omega) (by omega)
  rw [hw]
  refine ⟨?_, ?_, ?_⟩
  · show -1 ≤ blI n - 1
    omega
  · show blI n - 1 ≤ 63
    omega
  · show sqB _ _ _ (blI n - 1 + 1).toNat _ = _
    rw [show (blI n - 1 + 1).toNat = bl n.toNat by unfold blI; omega]
    rfl
theorem pw_loop (s : Su) (a n : BitVec 64) {Fr0 : Fr} {ds : List Deferred} {Q : AExit → XS → Prop} (hK : Q .normal (pwI lMul blI s a n (-1, pwR s a n))) :
    Tri PR Fr0 ds 0 (.block 0 (.loop pwC)) (pwX lMul blI s a n) Q :=
  Tri.asU (pw_bit lMul blI s a n) <| Eq.subst (motive := fun y => Tri PR Fr0 ds 0 (.block 0 (.loop pwC)) y Q) (pw_head lMul blI s a n).symm <|
    blockLoop (m := 0) (envOf_ok eqsT_ok lpwT_ok) mixed (sym := [13, 24]) (tab := fun _ => none) (lf := 10) (k := pwK) (kx := pwK) (kr := pwK) (by decide) (by decide) (by decide) pw_codeOk (tabOk_none _)
    (pwI lMul blI s a n) (fun d => -1 ≤ d.1 ∧ d.1 ≤ 63 ∧ sqB (fun u => lMul s u u) (fun u => lMul s u a) (bitU n) (d.1 + 1).toNat d.2 = pwR s a n) (fun d => (d.1 + 1).toNat) _ (pw_start s a n _ rfl)
    (sqB_law (by decide) (fun u => lMul s u u) (fun u => lMul s u a) (bitU n) notNeg notNeg_ok _ (pwI lMul blI s a n) (pw_round lMul blI s a n) hK)
theorem pw_tab (s : Su) (a n : BitVec 64) : TabOk PR 0 (tabOf [(0, pwB lMul blI s a n (pwR s a n))]) (bodyOf PR 247) :=
  tabOk_one (by rw [(pwB_n lMul blI s a n (pwR s a n)).1]; decide) pw_blk fun Fr0 ds Q h => by
    obtain ⟨-, h2, h3⟩ := pwB_n lMul blI s a n (pwR s a n)
    rw [h3] at h
    rw [h2]
    exact pw_loop s a n h
theorem pw_ctx (s : Su) (a n : BitVec 64) : Ctx PR (envOf eqsT (lpwT lMul blI)) [13, 24] (tabOf [(0, pwB lMul blI s a n (pwR s a n))]) 10 247 :=
  ctx_of (envOf_ok eqsT_ok lpwT_ok) mixed (fn := Tryz.f247) (by kernel_rfl) (by kernel_rfl) (by kernel_rfl) (pw_tab s a n)
theorem pwR_eq (s : Su) (a n : BitVec 64) : pwR s a n = lPow s a n := (sqF_eq (frc := frcU) (fun x f => frcU_eq x f) _ _ _ _ _).symm
theorem pw_ok : CallOk PR 247 (fn3 kCv kU kU kU lPow) :=
  .inl ⟨enters_of (fn := Tryz.f247) (by kernel_rfl) (by kernel_rfl) (by kernel_rfl), pure3X fun s a n => .of (pw_ctx s a n) (sameVal (B := kU) (by rw [← pwR_eq]; exact pw_run lMul blI s a n (pwR s a n)))⟩

/-! Inverses, slopes, sums. -/
theorem lv_ctx : Ctx PR (envOf eqsT (lvT lPow)) [] (fun _ => none) 10 214 :=
  ctx_of (envOf_ok eqsT_ok (TabPOk.cons pw_ok TabPOk.nil)) mixed (fn := Tryz.f214) (by kernel_rfl) (by kernel_rfl) (by kernel_rfl) (tabOk_none _)
theorem lv_ok : CallOk PR 214 (fn2 kCv kU kU lInv) :=
  .inl ⟨enters_of (fn := Tryz.f214) (by kernel_rfl) (by kernel_rfl) (by kernel_rfl), pure2 lv_ctx fun s x => leafVal (B := kU) (y := lInv s x) (lv_run lPow s x)⟩
noncomputable def lq0 : LQ := ⟨lMul, lAdd, lSub, lrF, lInv, fun _ _ _ => (0#64, false), fun _ p _ => p⟩
theorem lsl_ctx : Ctx PR (envOf eqsT (lsT lq0)) [13, 35, 39] (fun _ => none) 10 166 :=
  ctx_of (envOf_ok eqsT_ok (TabPOk.cons lm_ok (TabPOk.cons la_ok (TabPOk.cons ls_ok (TabPOk.cons lv_ok TabPOk.nil))))) mixed (fn := Tryz.f166) (by kernel_rfl) (by kernel_rfl) (by kernel_rfl) (tabOk_none _)
theorem lsl_ok : CallOk PR 166 (fn3 kCv cLp.agg cLp.agg kUb lSlope) :=
  .inl ⟨enters_of (fn := Tryz.f166) (by kernel_rfl) (by kernel_rfl) (by kernel_rfl), pure3 lsl_ctx fun s p q => lsl_gives lq0 s p q⟩
noncomputable def lq1 : LQ := ⟨lMul, lAdd, lSub, lrF, lInv, lSlope, fun _ p _ => p⟩
theorem lSum_eq (s : Su) (p q : Lp) : sumG lq1 s p q = lSum s p q := by
  unfold lSum sumG
  rw [frcB_eq, frcU_eq, frcU_eq]
  rfl
theorem lsm_ctx : Ctx PR (envOf eqsT (lsmT lq1)) [10, 14, 26] (fun _ => none) 10 113 :=
  ctx_of (envOf_ok eqsT_ok (TabPOk.cons lm_ok (TabPOk.cons ls_ok (TabPOk.cons lsl_ok TabPOk.nil)))) mixed (fn := Tryz.f113) (by kernel_rfl) (by kernel_rfl) (by kernel_rfl) (tabOk_none _)
theorem lsm_ok : CallOk PR 113 (fn3 kCv cLp.agg cLp.agg cLp.agg lSum) :=
  .inl ⟨enters_of (fn := Tryz.f113) (by kernel_rfl) (by kernel_rfl) (by kernel_rfl), pure3 lsm_ctx fun s p q => by rw [← lSum_eq]; exact lsm_gives lq1 s p q⟩

/-! Multiples. -/
def ltmT (S : Su → Lp → Lp → Lp) (L : BitVec 64 → Int) : PureTab := [(113, fn3 kCv cLp.agg cLp.agg cLp.agg S), (142, fn1 kU (kInt .i64) L)]
theorem ltmT_ok : TabPOk PR (ltmT lSum blI) := TabPOk.cons lsm_ok (TabPOk.cons len64_ok TabPOk.nil)
def tmK : Keep := ⟨[2, 3, 4, 6, 7, 8], [0, 1, 2, 4], 9⟩
@[irreducible] noncomputable def tmX (S : Su → Lp → Lp → Lp) (L : BitVec 64 → Int) (s : Su) (p : Lp) (n : BitVec 64) : XS := entryOf PR (envOf eqsT (ltmT S L)) [14, 25] (fun _ => none) 10 186 [kCv.enc s, cLp.agg.enc p, kU.enc n] [] 0 0 tmK
@[irreducible] noncomputable def tmI (S : Su → Lp → Lp → Lp) (L : BitVec 64 → Int) (s : Su) (p : Lp) (n : BitVec 64) (d : Int × Lp) : XS := ((tmX S L s p n).setT 8 (.v (.int .i64 d.1))).setB 4 (cLp.enc d.2)
@[irreducible] noncomputable def tmC : Code := roundOf PR 186 0
set_option maxRecDepth 1000000 in
theorem tm_round (S : Su → Lp → Lp → Lp) (L : BitVec 64 → Int) (s : Su) (p : Lp) (n : BitVec 64) (z : Int) (out : Lp) : Tree.but [2] 0 (roundT PR (envOf eqsT (ltmT S L)) [14, 25] (fun _ => none) 10 tmK tmK tmK tmC (tmI S L s p n (z, out))) =
    .br (decide (z ≥ 0))
      (.br (bitU n z)
        (.need (notNeg z) (.leaf (.normal, tmI S L s p n (IntKind.i64.wrap (z - 1), S s (S s out out) p))))
        (.need (notNeg z) (.leaf (.normal, tmI S L s p n (IntKind.i64.wrap (z - 1), S s out out)))))
      (.leaf (.exit 0, tmI S L s p n (z, out))) := by cases s <;> kernel_rfl
set_option maxRecDepth 1000000 in
theorem tm_head (S : Su → Lp → Lp → Lp) (L : BitVec 64 → Int) (s : Su) (p : Lp) (n : BitVec 64) : (tmX S L s p n).setB 4 (cLp.enc lp0) = tmI S L s p n (IntKind.i64.wrap (L n - 1), lp0) := by cases s <;> kernel_rfl
set_option maxRecDepth 1000000 in
theorem tm_cell (S : Su → Lp → Lp → Lp) (L : BitVec 64 → Int) (s : Su) (p : Lp) (n : BitVec 64) : (tmX S L s p n).s.h.get 4 = some ⟨true, 40, [.u 0#64, .u 0#64, .lit true]⟩ := by cases s <;> kernel_rfl
theorem tm_blk : blkAll 0 (bodyOf PR 186) = [.loop tmC] := by kernel_rfl
@[irreducible] noncomputable def tmB (S : Su → Lp → Lp → Lp) (L : BitVec 64 → Int) (s : Su) (p : Lp) (n : BitVec 64) (r : Lp) : BEnt := ⟨tmK.tm, tmK.ids, tmK.n, tmX S L s p n, .leaf (.normal, tmI S L s p n (-1, r))⟩
theorem tmB_n (S : Su → Lp → Lp → Lp) (L : BitVec 64 → Int) (s : Su) (p : Lp) (n : BitVec 64) (r : Lp) : (tmB S L s p n r).n = 9 ∧ (tmB S L s p n r).pre = tmX S L s p n ∧ (tmB S L s p n r).post = .leaf (.normal, tmI S L s p n (-1, r)) := by
  unfold tmB
  exact ⟨rfl, rfl, rfl⟩
set_option maxRecDepth 1000000 in
theorem tm_run (S : Su → Lp → Lp → Lp) (L : BitVec 64 → Int) (s : Su) (p : Lp) (n : BitVec 64) (r : Lp) : (afunR PR (envOf eqsT (ltmT S L)) [14, 25] (tabOf [(0, tmB S L s p n r)]) 10 186 [kCv.enc s, cLp.agg.enc p, kU.enc n]).strict =
    .same (tmX S L s p n) (tmX S L s p n) (.leaf (cLp.agg.enc r)) := by cases s <;> kernel_rfl
theorem tm_codeOk : codeOk (envOf eqsT (ltmT lSum blI)) tmC = true := by kernel_rfl
noncomputable def tmR (s : Su) (p : Lp) (n : BitVec 64) : Lp := sqB (fun u => lSum s u u) (fun u => lSum s u p) (bitU n) (bl n.toNat) lp0
theorem tm_start (s : Su) (p : Lp) (n : BitVec 64) : ∀ d : Int × Lp, d = (IntKind.i64.wrap (blI n - 1), lp0) → -1 ≤ d.1 ∧ d.1 ≤ 63 ∧ sqB (fun u => lSum s u u) (fun u => lSum s u p) (bitU n) (d.1 + 1).toNat d.2 = tmR s p n := by
  rintro d rfl
  have hl := blI_le n
  have hw : IntKind.i64.wrap (blI n - 1) = blI n - 1 := wrap_id (n := blI n - 1) (by omega) (by omega)
  rw [hw]
  refine ⟨?_, ?_, ?_⟩
  · show -1 ≤ blI n - 1
    omega
  · show blI n - 1 ≤ 63
    omega
  · show sqB _ _ _ (blI n - 1 + 1).toNat _ = _
    rw [show (blI n - 1 + 1).toNat = bl n.toNat by unfold blI; omega]
    rfl
theorem cells3 {ρ : Ren} {i : Nat} {a c : AV} {x : Value} (ha : ([.u 0#64, .u 0#64, .lit true] : List AV)[i]? = some a) (hc : (cLp.enc lp0)[i]? = some c) (h : Rv ρ a x) : Rv ρ c x := by
  have e : cLp.enc lp0 = [.u 0#64, .u 0#64, .v (.bool true)] := rfl
  rw [e] at hc
  match i with
  | 0 => simp at ha hc; subst ha; subst hc; exact h
  | 1 => simp at ha hc; subst ha; subst hc; exact h
  | 2 => simp at ha hc; subst ha; subst hc; exact h.other rfl rfl
  | n + 3 => simp at ha
theorem tm_loop (s : Su) (p : Lp) (n : BitVec 64) {Fr0 : Fr} {ds : List Deferred} {Q : AExit → XS → Prop} (hK : Q .normal (tmI lSum blI s p n (-1, tmR s p n))) :
    Tri PR Fr0 ds 0 (.block 0 (.loop tmC)) (tmX lSum blI s p n) Q :=
  Tri.asC (cs := cLp.enc lp0) (tm_cell lSum blI s p n) rfl (fun ρ i a c x ha hc h => cells3 ha hc h) <| Eq.subst (motive := fun y => Tri PR Fr0 ds 0 (.block 0 (.loop tmC)) y Q) (tm_head lSum blI s p n).symm <|
    blockLoop (m := 0) (envOf_ok eqsT_ok ltmT_ok) mixed (sym := [14, 25]) (tab := fun _ => none) (lf := 10) (k := tmK) (kx := tmK) (kr := tmK) (by decide) (by decide) (by decide) tm_codeOk (tabOk_none _)
    (tmI lSum blI s p n) (fun d => -1 ≤ d.1 ∧ d.1 ≤ 63 ∧ sqB (fun u => lSum s u u) (fun u => lSum s u p) (bitU n) (d.1 + 1).toNat d.2 = tmR s p n) (fun d => (d.1 + 1).toNat) _ (tm_start s p n _ rfl)
    (sqB_law (by decide) (fun u => lSum s u u) (fun u => lSum s u p) (bitU n) notNeg notNeg_ok _ (tmI lSum blI s p n) (tm_round lSum blI s p n) hK)
theorem tm_tab (s : Su) (p : Lp) (n : BitVec 64) : TabOk PR 0 (tabOf [(0, tmB lSum blI s p n (tmR s p n))]) (bodyOf PR 186) :=
  tabOk_one (by rw [(tmB_n lSum blI s p n (tmR s p n)).1]; decide) tm_blk fun Fr0 ds Q h => by
    obtain ⟨-, h2, h3⟩ := tmB_n lSum blI s p n (tmR s p n)
    rw [h3] at h
    rw [h2]
    exact tm_loop s p n h
theorem tm_ctx (s : Su) (p : Lp) (n : BitVec 64) : Ctx PR (envOf eqsT (ltmT lSum blI)) [14, 25] (tabOf [(0, tmB lSum blI s p n (tmR s p n))]) 10 186 :=
  ctx_of (envOf_ok eqsT_ok ltmT_ok) mixed (fn := Tryz.f186) (by kernel_rfl) (by kernel_rfl) (by kernel_rfl) (tm_tab s p n)
theorem tmR_eq (s : Su) (p : Lp) (n : BitVec 64) : tmR s p n = lTimes s p n := (sqF_eq (frc := frcLp) (fun x f => frcLp_eq x f) _ _ _ _ _).symm
theorem tm_ok : CallOk PR 186 (fn3 kCv cLp.agg kU cLp.agg lTimes) :=
  .inl ⟨enters_of (fn := Tryz.f186) (by kernel_rfl) (by kernel_rfl) (by kernel_rfl), pure3X fun s p n => .of (tm_ctx s p n) (sameVal (B := cLp.agg) (by rw [← tmR_eq]; exact tm_run lSum blI s p n (tmR s p n)))⟩

/-! Whether a point is one of the group. -/
def linT (O : Su → Lp → Bool) (T : Su → Lp → BitVec 64 → Lp) : PureTab := [(165, fn2 kCv cLp.agg kBool O), (186, fn3 kCv cLp.agg kU cLp.agg T)]
theorem lin_run (O : Su → Lp → Bool) (T : Su → Lp → BitVec 64 → Lp) (s : Su) (p : Lp) : (afunR PR (envOf eqsT (linT O T)) [8] (fun _ => none) 10 163 [kCv.enc s, cLp.agg.enc p]).strict =
    .br (O s p) (.leaf (.v (.bool (T s p (suR s)).2.2))) (.leaf (.lit false)) := by cases s <;> kernel_rfl
theorem lin_ctx : Ctx PR (envOf eqsT (linT onF lTimes)) [8] (fun _ => none) 10 163 :=
  ctx_of (envOf_ok eqsT_ok (TabPOk.cons lo_ok (TabPOk.cons tm_ok TabPOk.nil))) mixed (fn := Tryz.f163) (by kernel_rfl) (by kernel_rfl) (by kernel_rfl) (tabOk_none _)
theorem lin_ok : CallOk PR 163 (fn2 kCv cLp.agg kBool inF) :=
  .inl ⟨enters_of (fn := Tryz.f163) (by kernel_rfl) (by kernel_rfl) (by kernel_rfl), pure2 lin_ctx fun s p => givesOf (lin_run onF lTimes s p) (holds_br (B := kBool) (holds_leaf rfl) (holds_leaf rfl))⟩
end Go.Rq.Sm
