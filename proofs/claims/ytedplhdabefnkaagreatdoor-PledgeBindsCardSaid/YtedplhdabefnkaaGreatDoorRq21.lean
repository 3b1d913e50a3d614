import Derived.Test.YtedplhdabefnkaaGreatDoorRq05
import Derived.Test.YtedplhdabefnkaaGreatDoorRq20
import Derived.Test.YtedplhdabefnkaaGreatDoorRq19
import Derived.Test.YtedplhdabefnkaaGreatDoorRq09
namespace Go.Rq
open Go Go.Proofs
def dvO : DV := ⟨lenI, bitI, shl1, cmW, wSubW⟩
theorem dvT_eq : [(103, fn1 c6.agg (kInt .i64) lenI), (105, fn2 c6.agg (kInt .i64) (kInt .i64) bitI), (104, fn2 c6.agg (kAt .i64 1) c6.agg (fun a _ => shl1 a)),
 (86, fn2 c6.agg c6.agg (kInt .i64) fun a b => chainV (cmpL a b) 0), (106, fn2 c6.agg c6.agg kWB wSubW)] = dvT dvO := by kernel_rfl
theorem dvT_ok : TabPOk PR (dvT dvO) := Eq.subst (motive := TabPOk PR) dvT_eq (TabPOk.cons len_ok (TabPOk.cons bit_ok (TabPOk.cons shl1_ok (TabPOk.cons cmp_ok (TabPOk.cons wsub_ok TabPOk.nil)))))
theorem dvE_ok : EnvOk PR (dvE dvO) := envX_ok eqsT_ok dvT_ok
theorem dv_codeOk : codeOk (dvE dvO) dvC = true := by kernel_rfl
def dvStep (t : DV) (a b : W6) (z : Int) (x : W6 × W6) : W6 × W6 :=
 bif dvTop x.2 then (dvPut z x.1 (dvBit z x.1), (t.su (dvNext t a z x.2) b).1) else
 bif decide (t.cm (dvNext t a z x.2) b >= 0) then (dvPut z x.1 (dvBit z x.1), (t.su (dvNext t a z x.2) b).1) else (x.1, dvNext t a z x.2)
def dvG (t : DV) (a b : W6) : Nat -> W6 × W6 -> W6 × W6
 | 0, x => x
 | k + 1, x => dvG t a b k (dvStep t a b (k : Int) x)
theorem dvCond_ok {z : Int} (h0 : 0 <= z) (h1 : z <= 383) : dvCond z = true := by
 have hq := quo64_eq h0 h1
 have hm : Int.tmod z 64 = z % 64 := Int.tmod_eq_emod_of_nonneg h0
 have e : dvOff z < 6 := by unfold dvOff; rw [hq]; omega
 have e2 : Nat.blt (dvOff z) 6 = true := Nat.ble_eq_true_of_le e
 unfold dvCond
 rw [e2, hq, hm]
 have e3 : (0 : Int) <= z / 64 /\ z / 64 < 6 := by omega
 have e4 : (0 : Int) <= z % 64 := by omega
 rw [decide_eq_true e3, decide_eq_true e4, decide_eq_true e]
 rfl
theorem dv_law (t : DV) (a b : W6) (rt : XS -> Tree (AExit × XS)) (I : Int × (W6 × W6) -> XS) (hr : ∀ (z : Int) (o l : W6), Tree.but [6] 0 (rt (I (z, (o, l)))) =
 .br (decide (z >= 0))
  (.br (dvTop l)
   (.need (dvCond z) (.leaf (.normal, I (IntKind.i64.wrap (z - 1), (dvPut z o (dvBit z o), (t.su (dvNext t a z l) b).1)))))
   (.br (decide (t.cm (dvNext t a z l) b >= 0))
    (.need (dvCond z) (.leaf (.normal, I (IntKind.i64.wrap (z - 1), (dvPut z o (dvBit z o), (t.su (dvNext t a z l) b).1)))))
    (.need true (.leaf (.normal, I (IntKind.i64.wrap (z - 1), (o, dvNext t a z l)))))))
  (.leaf (.exit 0, I (z, (o, l))))) {R : W6 × W6} {Q : AExit -> XS -> Prop} (hK : Q .normal (I (-1, R))) :
 ∀ d : Int × (W6 × W6), (-1 <= d.1 /\ d.1 <= 383 /\ dvG t a b (d.1 + 1).toNat d.2 = R) -> (rt (I d)).holds (fun r => match r.1 with
  | .normal => ∃ j : Int × (W6 × W6), (-1 <= j.1 /\ j.1 <= 383 /\ dvG t a b (j.1 + 1).toNat j.2 = R) /\ (j.1 + 1).toNat < (d.1 + 1).toNat /\ r.2 = I j
  | .exit q => if q = 0 then Q .normal r.2 else Q (.exit q) r.2
  | .ret => Q .ret r.2) := by
 rintro ⟨z, o, l⟩ ⟨h0, h1, h2⟩
 apply Tree.holds_but (l := [6]) (i := 0)
 rw [hr]
 refine ⟨fun hz => ?_, fun hz => ?_⟩
 . have hz : 0 <= z := by simpa using hz
   have hc : dvCond z = true := dvCond_ok hz h1
   have hw : IntKind.i64.wrap (z - 1) = z - 1 := wrap_id (by omega) (by omega)
   have hk : (z + 1).toNat = z.toNat + 1 := by omega
   simp only at h2
   rw [hk] at h2
   simp only [dvG] at h2
   rw [show ((z.toNat : Nat) : Int) = z by omega] at h2
   have hk' : (z - 1 + 1).toNat = z.toNat := by omega
   have go : ∀ x : W6 × W6, dvStep t a b z (o, l) = x -> ∃ j : Int × (W6 × W6), (-1 <= j.1 /\ j.1 <= 383 /\ dvG t a b (j.1 + 1).toNat j.2 = R) /\ (j.1 + 1).toNat < (z + 1).toNat /\ I (IntKind.i64.wrap (z - 1), x) = I j := by
    intro x hx
    refine ⟨(z - 1, x), ⟨by simp only; omega, by simp only; omega, ?_⟩, ?_, by rw [hw]⟩
    . simp only [hk']
      rw [<- hx]; exact h2
    . show (z - 1 + 1).toNat < (z + 1).toNat
      omega
   refine ⟨fun ht => ⟨hc, go _ ?_⟩, fun ht => ⟨fun hd => ⟨hc, go _ ?_⟩, fun hd => ⟨rfl, go _ ?_⟩⟩⟩
   . unfold dvStep; simp only [ht, cond_true]
   . unfold dvStep; simp only [ht, hd, cond_true, cond_false]
   . unfold dvStep; simp only [ht, hd, cond_false]
 . have hz : z = -1 := by
    have : ¬ 0 <= z := by simpa using hz
    omega
   subst hz
   have h2 : (o, l) = R := h2
   show (if (0 : Nat) = 0 then Q .normal (I (-1, (o, l))) else Q (.exit 0) (I (-1, (o, l))))
   rw [if_pos rfl, h2]
   exact hK
def dvR (a b : W6) : W6 × W6 := dvG dvO a b (lenI a).toNat (zeroW, zeroW)
theorem dv_start (a b : W6) : ∀ d : Int × (W6 × W6), d = (IntKind.i64.wrap (dvO.ln a - 1), (zeroW, zeroW)) -> -1 <= d.1 /\ d.1 <= 383 /\ dvG dvO a b (d.1 + 1).toNat d.2 = dvR a b := by
 rintro d rfl
 have hl := lenI_le a
 have hw : IntKind.i64.wrap (dvO.ln a - 1) = lenI a - 1 := wrap_id (n := lenI a - 1) (by omega) (by omega)
 rw [hw]
 refine ⟨?_, ?_, ?_⟩
 . show -1 <= lenI a - 1
   omega
 . show lenI a - 1 <= 383
   omega
 . show dvG dvO a b (lenI a - 1 + 1).toNat _ = dvG dvO a b (lenI a).toNat _
   rw [show lenI a - 1 + 1 = lenI a by omega]
theorem dv_loop (a b : W6) {Fr0 : Fr} {ds : List Deferred} {Q : AExit -> XS -> Prop} (hK : Q .normal (dvI dvO a b (-1, dvR a b))) :
 Tri PR Fr0 ds 0 (.block 0 (.loop dvC)) (dvX dvO a b) Q :=
 Eq.subst (motive := fun y => Tri PR Fr0 ds 0 (.block 0 (.loop dvC)) y Q) (dv_head dvO a b).symm <| blockLoop (m := 0) dvE_ok mixed (sym := [13, 20, 38, 43]) (tab := fun _ => none) (lf := 10) (k := dvK) (kx := dvK) (kr := dvK) (Nat.zero_le _) (Nat.zero_le _) (Nat.zero_le _) dv_codeOk (tabOk_none _)
  (dvI dvO a b) (fun d => -1 <= d.1 /\ d.1 <= 383 /\ dvG dvO a b (d.1 + 1).toNat d.2 = dvR a b) (fun d => (d.1 + 1).toNat) _ (dv_start a b _ rfl)
  (dv_law dvO a b _ (dvI dvO a b) (dv_round dvO a b) hK)
theorem dv_ctx (a b : W6) : Ctx PR (dvE dvO) [13, 20, 38, 43] (tabOf [(0, dvB dvO a b (dvR a b).1 (dvR a b).2)]) 10 57 :=
 ctx_of dvE_ok mixed (fn := Tryz.f57) (by kernel_rfl) (by kernel_rfl) (by kernel_rfl)
  (tabOk_one (Nat.zero_le _) dv_blk fun Fr0 ds Q h => by
   obtain ⟨-, h2, h3⟩ := dvB_n dvO a b (dvR a b).1 (dvR a b).2
   rw [h3] at h
   rw [h2]
   exact dv_loop a b h)
def divF (a b : W6) : W6 × (W6 × Int) := bif eqW b zeroW then (zeroW, (zeroW, 2)) else ((dvR a b).1, ((dvR a b).2, 0))
theorem div_tree {x : XS} (c : Bool) (u v w : W6 × (W6 × Int)) (hw : w = bif c then u else v) : (Tree.br c (.leaf (kWWE.enc u)) (.same x x (.leaf (kWWE.enc v)))).holds (fun q => flat q = some (kWWE.val w)) := by
 subst hw
 cases c with
 | true => exact ⟨fun _ => kWWE.h1 u, fun h => by cases h⟩
 | false => exact ⟨fun h => (by cases h), fun _ => ⟨rfl, kWWE.h1 v⟩⟩
theorem gives_div {t : Tree AV} {x : XS} {c : Bool} {u v w : W6 × (W6 × Int)} (e : t.strict = .br c (.leaf (kWWE.enc u)) (.same x x (.leaf (kWWE.enc v)))) (hw : w = bif c then u else v) : Gives t (kWWE.val w) :=
 ⟨Tree.holds_strict (by rw [e]; exact div_tree c u v w hw)⟩
theorem div_gives (a b : W6) : Gives (afunR PR (dvE dvO) [13, 20, 38, 43] (tabOf [(0, dvB dvO a b (dvR a b).1 (dvR a b).2)]) 10 57 [c6.agg.enc a, c6.agg.enc b]) (kWWE.val (divF a b)) := by
 unfold divF
 exact gives_div (dv_run dvO a b (dvR a b).1 (dvR a b).2) rfl
theorem div_ok : CallOk PR 57 (fn2 c6.agg c6.agg kWWE divF) :=
 .inl ⟨entersB (by kernel_rfl), pure2X fun a b => .of (dv_ctx a b) (div_gives a b)⟩
theorem or_low (m : Nat) : (2 * m ||| 1) = 2 * m + 1 := by
 have h := Nat.shiftLeft_add_eq_or_of_lt (i := 1) (b := 1) (by decide) m
 rw [Nat.shiftLeft_eq, show m * 2 ^ 1 = 2 * m by omega] at h
 exact h.symm
theorem or_bit (x : BitVec 64) {c : Int} (hc : c = 0 \/ c = 1) : ((x <<< 1) ||| BitVec.ofInt 64 c).toNat = (x <<< 1).toNat + c.toNat := by
 have hx : (x <<< 1).toNat = 2 * (x.toNat % 9223372036854775808) := by
  rw [BitVec.toNat_shiftLeft, Nat.shiftLeft_eq]
  omega
 rcases hc with rfl | rfl
 . have e : BitVec.ofInt 64 0 = 0#64 := rfl
   rw [e, BitVec.or_zero]
   rfl
 . have e : BitVec.ofInt 64 1 = 1#64 := rfl
   rw [e, BitVec.toNat_or, hx]
   exact or_low _
theorem bitI_two (a : W6) (z : Int) : bitI a z = 0 \/ bitI a z = 1 := by
 unfold bitI
 cases decide (z < 0) with
 | true => exact .inl rfl
 | false =>
  cases decide (z >= 384) with
  | true => exact .inl rfl
  | false =>
   cases a.bit z.toNat with
   | true => exact .inr rfl
   | false => exact .inl rfl
theorem next_nat (a : W6) (z : Int) {l : W6} (h : l.val < rN) : (dvNext dvO a z l).val = 2 * l.val + (bitI a z).toNat := by
 have h1 := shl1_nat l h
 have h2 := or_bit l.w0 (bitI_two a z)
 have e : (dvNext dvO a z l).val = (shl1 l).val + (bitI a z).toNat := by
  show W6.val ⟨(shl1 l).w0 ||| BitVec.ofInt 64 (bitI a z), (shl1 l).w1, (shl1 l).w2, (shl1 l).w3, (shl1 l).w4, (shl1 l).w5⟩ = _
  have h3 : ((shl1 l).w0 ||| BitVec.ofInt 64 (bitI a z)).toNat = (shl1 l).w0.toNat + (bitI a z).toNat := h2
  unfold W6.val
  dsimp only
  rw [h3]
  omega
 rw [e, h1]
theorem top_low {l : W6} (h : l.val < rN) : dvTop l = false := by
 have h5 : l.w5.toNat = 0 := by
  unfold W6.val rN at h
  omega
 have e : l.w5 = 0#64 := BitVec.eq_of_toNat_eq h5
 unfold dvTop
 rw [e]; rfl
theorem sub_nat {x b : W6} (h : b.val <= x.val) : (wSubW x b).1.val = x.val - b.val := by
 have h1 := subs_nat x b
 have h2 := W6.val_lt (subs x b).1
 have h3 := W6.val_lt x
 show (subs x b).1.val = _
 cases hb : (subs x b).2 with
 | false =>
  rw [hb] at h1
  have : b2n false = 0 := rfl
  rw [this] at h1
  omega
 | true =>
  rw [hb] at h1
  have : b2n true = 1 := rfl
  rw [this] at h1
  omega
theorem step_lt {a b : W6} (hb : b.val <= rN) (z : Int) {x : W6 × W6} (h : x.2.val < b.val) : (dvStep dvO a b z x).2.val < b.val := by
 have hl : x.2.val < rN := by omega
 have h1 := next_nat a z hl
 have h2 := cmW_nat (dvNext dvO a z x.2) b
 have h3 : (bitI a z).toNat <= 1 := by rcases bitI_two a z with e | e <;> rw [e] <;> decide
 unfold dvStep
 rw [top_low hl, cond_false]
 by_cases hd : dvO.cm (dvNext dvO a z x.2) b >= 0
 . rw [decide_eq_true hd, cond_true]
   have hd : cmW (dvNext dvO a z x.2) b >= 0 := hd
   have h4 : b.val <= (dvNext dvO a z x.2).val := by
    have := mt h2.2 (by omega)
    omega
   have h5 := sub_nat h4
   show (wSubW (dvNext dvO a z x.2) b).1.val < b.val
   omega
 . rw [decide_eq_false hd, cond_false]
   have hd : ¬ cmW (dvNext dvO a z x.2) b >= 0 := hd
   have h4 := h2.1 (by omega)
   exact h4
theorem dvG_lt {a b : W6} (hb : b.val <= rN) : ∀ (k : Nat) {x : W6 × W6}, x.2.val < b.val -> (dvG dvO a b k x).2.val < b.val
 | 0, _, h => h
 | k + 1, _, h => dvG_lt hb k (step_lt hb _ h)
theorem div_left {a b : W6} (hb : b.val <= rN) (h0 : 0 < b.val) : (divF a b).2.1.val < b.val := by
 have e : eqW b zeroW = false := by
  rw [Bool.eq_false_iff]
  intro h
  rw [(eqW_iff _ _).1 h, zero_val] at h0
  omega
 unfold divF
 rw [e, cond_false]
 exact dvG_lt hb _ (by rw [zero_val]; exact h0)
end Go.Rq

namespace Go.Rq.Sm
open Go Go.Proofs Go.Rq
noncomputable def lgnE : Env := envOf eqsT [(108, lofG)]
def lgnF : Sx -> Lp × Int
 | .li => ((9723#64, 164643#64, false), 0)
 | .mi => ((613740293506734924#64, 666621259561003659#64, false), 0)
 | _ => (zLx, 2)
theorem lgn_run (s : Sx) : valS (afunR PR lgnE [] (fun _ => none) 10 59 [kSx.enc s]) = some (kLE.val (lgnF s)) := by cases s <;> kernel_rfl
theorem lgn_ctx : Ctx PR lgnE [] (fun _ => none) 10 59 :=
 ctxB (envOf_ok eqsT_ok (TabPOk.cons lof_ok TabPOk.nil)) mixed (by kernel_rfl)
theorem lgn_ok : CallOk PR 59 (fn1 kSx kLE lgnF) :=
 .inl ⟨entersB (by kernel_rfl), pure1 lgn_ctx fun s => givesV (lgn_run s)⟩
noncomputable def sgnE (G : Px) (L : Sx -> Lp × Int) : Env := envOf eqsT [(58, fn0 cPx.agg G), (59, fn1 kSx kLE L)]
def sgnF (G : Px) : Sx -> Kx × Int
 | .gr => ((.gr, G, zLx), 0)
 | .li => ((.li, zPx, (9723#64, 164643#64, false)), 0)
 | .mi => ((.mi, zPx, (613740293506734924#64, 666621259561003659#64, false)), 0)
 | _ => (zKx, 2)
theorem sgn_run (G : Px) (s : Sx) : valS (afunR PR (sgnE G lgnF) [] (fun _ => none) 10 30 [kSx.enc s]) = some (kKE.val (sgnF G s)) := by cases s <;> kernel_rfl
theorem sgn_ctx {G : Px} (h : CallOk PR 58 (fn0 cPx.agg G)) : Ctx PR (sgnE G lgnF) [] (fun _ => none) 10 30 :=
 ctxB (envOf_ok eqsT_ok (TabPOk.cons h (TabPOk.cons lgn_ok TabPOk.nil))) mixed (by kernel_rfl)
theorem sgn_okx {G : Px} (h : CallOk PR 58 (fn0 cPx.agg G)) : CallOk PR 30 (fn1 kSx kKE (sgnF G)) :=
 .inl ⟨entersB (by kernel_rfl), pure1 (sgn_ctx h) fun s => givesV (sgn_run G s)⟩
theorem fn1B {α β β' : Type} {A : Cod α} {B : Cod β} {B' : Cod β'} {F : α -> β} {ψ : β -> β'} (hB : ∀ y, B.enc y = B'.enc (ψ y)) : fn1 A B F = fn1 A B' (fun a => ψ (F a)) := by
 funext args
 unfold fn1
 split
 . rename_i a
   cases A.dec a with
   | none => rfl
   | some x => simp only [hB]
 . rfl
def sgnX (G : Px) (i : Int) : Kz × Int := toE (sgnF G (Sx.of i))
theorem sgn_ok {G : Px} (h : CallOk PR 58 (fn0 cPx.agg G)) : CallOk PR 30 (fn1 (kInt .i64) kKzE (sgnX G)) := by
 have k := sgn_okx h
 rw [fnS1, fn1B (B' := kKzE) (ψ := toE) fun y => rfl] at k
 exact k
abbrev DF : Type := W6 -> W6 -> W6 × (W6 × Int)
def scE (O : Int -> W6 × Int) (D : DF) : Env := envD eqsT [(43, fn1 (kInt .i64) kWE O), (57, fn2 c6.agg c6.agg kWWE D)] [] [] [] [] false []
noncomputable def scG (O : Int -> W6 × Int) (D : DF) : List AV -> AH -> Nat -> Option (Bool × AV × AH) := deepG PR (scE O D) [] 30 28 4096 true
theorem sc_ent : Enters PR 28 := entersB (by kernel_rfl)
theorem sc_ok {O : Int -> W6 × Int} {D : DF} (hO : CallOk PR 43 (fn1 (kInt .i64) kWE O)) (hD : CallOk PR 57 (fn2 c6.agg c6.agg kWWE D)) : ActOk PR 4096 28 (scG O D) :=
 deep_ok (ctxB (envD_ok eqsT_ok (TabPOk.cons hO (TabPOk.cons hD TabPOk.nil)) TabHOk.nil TabLOk.nil TabDOk.nil) mixed (by kernel_rfl))
abbrev F5Z : Type := Kz -> Kz -> Kz -> W6 -> W6 -> Bool × Int
section
variable {K : Kz -> Bool} {O : Int -> W6 × Int} {C : W6 -> W6 -> Int} {M : ZM} {A : ZZ} {N : Kz -> Kz × Int} {s : Int} {r : Nat} {φ : Nat -> Kz}
end
section
variable {K : Kz -> Bool} {O : Int -> W6 × Int} {C : W6 -> W6 -> Int} {M : ZM} {A : ZZ} {N : Kz -> Kz × Int} {GN : Int -> Kz × Int} {D : DF}
def SuRk (r : Nat) (K : Kz -> Bool) (O : Int -> W6 × Int) (C : W6 -> W6 -> Int) (M : ZM) (A : ZZ) (N : Kz -> Kz × Int) (GN : Int -> Kz × Int) (D : DF) (s : Int) : Prop :=
 ∃ φ : Nat -> Kz, Cy K O C M A N s r φ /\ (GN s).1 = φ 1 /\ ∀ x, (D x (O s).1).2.1.val < r
end
def inX (p : Px) : Bool := inGroup1 (toAp p)
def adX (p q : Px) : Px × Int := ofE (addP1 (toAp p) (toAp q))
def muX (p : Px) (n : W6) : Px × Int := ofE (sumP1W (toAp p) n)
def neX (p : Px) : Px × Int := ofE (negP1 (toAp p))
theorem inX_ok : CallOk PR 90 (fn1 cPx.agg kBool inX) := in_to isinp1_ok
theorem adX_ok : CallOk PR 75 (fn2 cPx.agg cPx.agg kPE adX) := ad_to addp1_ok
theorem muX_ok : CallOk PR 73 (fn2 cPx.agg c6.agg kPE muX) := mu_to mulp1_ok
theorem gn_to {G : Ap W6} (h : CallOk PR 58 (fn0 (cAp c6).agg G)) : CallOk PR 58 (fn0 cPx.agg (ofAp G)) := h
theorem gnX_ok : CallOk PR 58 (fn0 cPx.agg (ofAp gen1P)) := gn_to gen1_ok
noncomputable abbrev KZ : Kz -> Bool := fun a => kchX inX (toKx a)
noncomputable abbrev OZ : Int -> W6 × Int := fun i => sorF ordX (Sx.of i)
noncomputable abbrev MZ : ZM := kmuX inX muX
noncomputable abbrev AZ : ZZ := kadX inX adX
noncomputable abbrev NZ : Kz -> Kz × Int := kneX inX neX
noncomputable abbrev GZ : Int -> Kz × Int := sgnX (ofAp gen1P)
theorem MZ_ok : CallOk PR 35 (fn2 cKz.agg c6.agg kKzE MZ) := kmuX_ok inX_ok muX_ok
theorem AZ_ok : CallOk PR 36 (fn2 cKz.agg cKz.agg kKzE AZ) := kadX_ok inX_ok adX_ok
theorem GZ_ok : CallOk PR 30 (fn1 (kInt .i64) kKzE GZ) := sgn_ok gnX_ok
theorem OZ_ok : CallOk PR 43 (fn1 (kInt .i64) kWE OZ) := sor_ok
theorem scZ_ok : ActOk PR 4096 28 (scG OZ divF) := sc_ok OZ_ok div_ok
theorem div_in {o : W6} {r : Nat} (h : o.val = r) (hr : r <= rN) (h0 : 0 < r) (x : W6) : (divF x o).2.1.val < r := by
 have k := div_left (a := x) (b := o) (by rw [h]; exact hr) (by rw [h]; exact h0)
 rw [h] at k
 exact k
theorem suRn_rN (s : Su) : suRn s <= rN := by cases s <;> (unfold suRn rN; decide)
theorem su_gr {I : Ap W6 -> Bool} {A : Ap W6 -> Ap W6 -> Ap W6 × Int} {M : Ap W6 -> W6 -> Ap W6 × Int} {N : Ap W6 -> Ap W6 × Int} {g : Ap W6} (h : ∃ ν, GrOk I A M N g ν) :
 SuRk rN (fun a => kchX (fun p => I (toAp p)) (toKx a)) OZ cmpX (kmuX (fun p => I (toAp p)) (fun p n => ofE (M (toAp p) n))) (kadX (fun p => I (toAp p)) (fun p q => ofE (A (toAp p) (toAp q))))
  (kneX (fun p => I (toAp p)) (fun p => ofE (N (toAp p)))) (sgnX (ofAp g)) divF 0 := by
 obtain ⟨ν, hν⟩ := h
 refine ⟨phG ν, cy_gr hν, ?_, fun x => ?_⟩
 . unfold phG
   rw [hν.gen]
   rfl
 . have e : (OZ 0).1 = rWx := rfl
   rw [e]
   exact div_in rWx_val (Nat.le_refl _) rN_pos x
theorem su_lit (I : Px -> Bool) (A1 : Px -> Px -> Px × Int) (M1 : Px -> W6 -> Px × Int) (N1 : Px -> Px × Int) (G : Px) (s : Su) :
 SuRk (suRn s) (fun a => kchX I (toKx a)) OZ cmpX (kmuX I M1) (kadX I A1) (kneX I N1) (sgnX G) divF (suSx s).int := by
 refine ⟨phS s, cy_lit I A1 M1 N1 s, ?_, fun x => ?_⟩
 . have e : wp (nu s 1) = (suX s, suY s, false) := by
    unfold nu
    rw [Cw.nsm_one, genA_wp]
   unfold phS
   rw [e]
   cases s <;> rfl
 . have e : (OZ (suSx s).int).1 = ordX (suSx s) := by
    show (sorF ordX (Sx.of (suSx s).int)).1 = _
    rw [Sx.of_int]; cases s <;> rfl
   rw [e]
   exact div_in (ordX_val s) (suRn_rN s) (suRn_pos s) x
def suRi (s : Int) : Nat := match decide (s = 0), decide (s = 1) with
 | true, _ => rN
 | false, true => suRn .lit
 | false, false => suRn .mid
theorem su_allR (s : Int) (h0 : 0 <= s) (h2 : s <= 2) : SuRk (suRi s) KZ OZ cmpX MZ AZ NZ GZ divF s := by
 have h : s = 0 \/ s = (suSx .lit).int \/ s = (suSx .mid).int := by
  show s = 0 \/ s = 1 \/ s = 2
  omega
 rcases h with rfl | rfl | rfl
 . exact su_gr gr_ex
 . exact su_lit inX adX muX neX (ofAp gen1P) .lit
 . exact su_lit inX adX muX neX (ofAp gen1P) .mid
end Go.Rq.Sm

namespace Go.Rq.Cl
open Go Go.Proofs Go.Rq Go.Rq.Sm
def scQ (s : Sx) (a : W6) : Bool := match mdS s with
 | some m => decide (a.val < mdN m)
 | none => false
def opF (op : Mo -> W6 -> W6 -> W6) (s : Sx) (a b : W6) : W6 × Int := match mdS s with
 | some m => (op (modS m) a b, 0)
 | none => (zW6, 2)
noncomputable def ivF (s : Sx) (a : W6) : W6 × Int := match mdS s with
 | some m => invF m a
 | none => (zW6, 2)
noncomputable def aqO : AQ := ⟨cmpX, qaddW, qsubW, qmulW⟩
theorem cloA_ok : EnvOk PR (cloE 71 qaddW) := envD_ok eqsT_ok TabPOk.nil (TabHOk.cons qadd_ent qadd_ok TabHOk.nil) TabLOk.nil TabDOk.nil
theorem cloS_ok : EnvOk PR (cloE 78 qsubW) := envD_ok eqsT_ok TabPOk.nil (TabHOk.cons qsub_ent qsub_ok TabHOk.nil) TabLOk.nil TabDOk.nil
theorem cloM_ok : EnvOk PR (cloE 82 qmulW) := envD_ok eqsT_ok TabPOk.nil (TabHOk.cons qmul_ent qmul_ok TabHOk.nil) TabLOk.nil TabDOk.nil
theorem doA_ent : Enters PR 70 := entersB (by kernel_rfl)
theorem doS_ent : Enters PR 77 := entersB (by kernel_rfl)
theorem doM_ent : Enters PR 81 := entersB (by kernel_rfl)
theorem done_ent : Enters PR 67 := entersB (by kernel_rfl)
theorem cloA_act : ActOk PR 4096 70 (deepG PR (cloE 71 qaddW) [] 20 70 4096 true) := deep_ok (ctxB cloA_ok mixed (by kernel_rfl))
theorem cloS_act : ActOk PR 4096 77 (deepG PR (cloE 78 qsubW) [] 20 77 4096 true) := deep_ok (ctxB cloS_ok mixed (by kernel_rfl))
theorem cloM_act : ActOk PR 4096 81 (deepG PR (cloE 82 qmulW) [] 20 81 4096 true) := deep_ok (ctxB cloM_ok mixed (by kernel_rfl))
theorem do_ok : ActOk PR 4096 67 (doG aqO) :=
 deepP_ok (ctxB (envD_ok eqsT_ok TabPOk.nil TabHOk.nil TabLOk.nil (TabDOk.cons ari_ent (ari_ok [false, false]) (TabDOk.cons doA_ent cloA_act (TabDOk.cons doS_ent cloS_act (TabDOk.cons doM_ent cloM_act TabDOk.nil)))))
  mixed (by kernel_rfl))
theorem sopE_ok : EnvOk PR (sopE aqO) := envD_ok eqsT_ok TabPOk.nil TabHOk.nil TabLOk.nil (TabDOk.cons done_ent do_ok TabDOk.nil)
theorem ordX_md {s : Sx} {m : Md} (h : mdS s = some m) : (ordX s).val = mdN m := by
 cases s <;> cases h <;> decide +kernel
theorem nlt_true {s : Sx} {m : Md} (h : mdS s = some m) {a : W6} (ha : a.val < mdN m) (b : Bool) : nlt aqO s a b = b := by
 unfold nlt
 have e : decide (aqO.cm a (ordX s) >= 0) = false := by
  have e2 : aqO.cm = cmpX := by simp only [aqO]
  rw [e2]
  exact cmpX_ge (by rw [ordX_md h]; exact ha)
 rw [e, cond_false]
theorem two_true {s : Sx} {m : Md} (h : mdS s = some m) {a b : W6} (ha : a.val < mdN m) (hb : b.val < mdN m) : tt (tt (tt (tt (tt (tt (nlt aqO s a (nlt aqO s b true))))))) = true := by
 simp only [tt_eq]
 rw [nlt_true h ha, nlt_true h hb]
def sc2 (s : Sx) (a b : W6) : Bool := scQ s a && scQ s b
theorem scQ_ok {s : Sx} {a : W6} (h : scQ s a = true) : ∃ m, mdS s = some m /\ a.val < mdN m := by
 unfold scQ at h
 cases e : mdS s with
 | none => rw [e] at h; cases h
 | some m => rw [e] at h; exact ⟨m, rfl, of_decide_eq_true h⟩
theorem sc2_ok {s : Sx} {a b : W6} (h : sc2 s a b = true) : ∃ m, mdS s = some m /\ a.val < mdN m /\ b.val < mdN m := by
 unfold sc2 at h
 obtain ⟨h1, h2⟩ := Bool.and_eq_true_iff.1 h
 obtain ⟨m, e1, k1⟩ := scQ_ok h1
 obtain ⟨m', e2, k2⟩ := scQ_ok h2
 rw [e1] at e2
 cases e2
 exact ⟨m, e1, k1, k2⟩
theorem op_ctx {f : Nat} {fn : Func} (hf : PR.funcs.toList[f]? = some fn) (hb : fn.body = some (bodyOf PR f)) (hok : codeOk (sopE aqO) (bodyOf PR f) = true) : Ctx PR (sopE aqO) [13] (fun _ => none) 30 f := ctx_of sopE_ok mixed hf hb hok (tabOk_none _)
theorem op_gives {f : Nat} {op : Mo -> W6 -> W6 -> W6} (hr : ∀ (s : Sx) (m : Md), mdS s = some m -> ∀ a b : W6, valP [] (afunR PR (sopE aqO) [13] (fun _ => none) 30 f [kSx.enc s, c6.agg.enc a, c6.agg.enc b]) = some (tt (tt (tt (tt (tt (tt (nlt aqO s a (nlt aqO s b true))))))), some (kWE.val (op (modS m) a b, 0))))
 (s : Sx) (a b : W6) (h : sc2 s a b = true) : Gives (afunR PR (sopE aqO) [13] (fun _ => none) 30 f [kSx.enc s, c6.agg.enc a, c6.agg.enc b]) (kWE.val (opF op s a b)) := by
 obtain ⟨m, e, ha, hb⟩ := sc2_ok h
 have k := Go.Rq.givesP (hr s m e a b) (two_true e ha hb)
 unfold opF
 rw [e]
 exact k
theorem smul_ok : CallOk PR 39 (fnQ3 kSx c6.agg c6.agg kWE sc2 (opF qmulW)) :=
 .inl ⟨entersB (by kernel_rfl), pureQ3 (op_ctx (fn := Tryz.f39) (by kernel_rfl) (by kernel_rfl) (by kernel_rfl)) fun s a b h => op_gives (fun s m e a b => sml_run aqO s m e a b) s a b h⟩
theorem sadd_ok : CallOk PR 34 (fnQ3 kSx c6.agg c6.agg kWE sc2 (opF qaddW)) :=
 .inl ⟨entersB (by kernel_rfl), pureQ3 (op_ctx (fn := Tryz.f34) (by kernel_rfl) (by kernel_rfl) (by kernel_rfl)) fun s a b h => op_gives (fun s m e a b => sad_run aqO s m e a b) s a b h⟩
theorem ssub_ok : CallOk PR 37 (fnQ3 kSx c6.agg c6.agg kWE sc2 (opF qsubW)) :=
 .inl ⟨entersB (by kernel_rfl), pureQ3 (op_ctx (fn := Tryz.f37) (by kernel_rfl) (by kernel_rfl) (by kernel_rfl)) fun s a b h => op_gives (fun s m e a b => ssb_run aqO s m e a b) s a b h⟩
theorem sivE_ok : EnvOk PR (sivE cmpX invF) := envD_ok eqsT_ok TabPOk.nil (TabHOk.cons iq_ent inv_okH TabHOk.nil) TabLOk.nil (TabDOk.cons ari_ent (ari_ok [false]) TabDOk.nil)
theorem siv_gives (s : Sx) (a : W6) (h : scQ s a = true) : Gives (afunR PR (sivE cmpX invF) [] (fun _ => none) 30 38 [kSx.enc s, c6.agg.enc a]) (kWE.val (ivF s a)) := by
 obtain ⟨m, e, ha⟩ := scQ_ok h
 have hc : decide (cmpX a (ordX s) >= 0) = false := cmpX_ge (by rw [ordX_md e]; exact ha)
 have k := siv_run cmpX invF s m e a
 rw [hc] at k
 have k2 := Go.Rq.givesP k rfl
 unfold ivF
 rw [e]
 exact k2
theorem siv_ctx : Ctx PR (sivE cmpX invF) [] (fun _ => none) 30 38 := ctxB sivE_ok mixed (by kernel_rfl)
theorem sinv_ok : CallOk PR 38 (fnQ2 kSx c6.agg kWE scQ ivF) :=
 .inl ⟨entersB (by kernel_rfl), pureQ2 siv_ctx siv_gives⟩
theorem decSk (a : AV) : kSx.dec a = ((kInt .i64).dec a).map Sx.of := by
 have e0 : kSx.dec a = (match (kInt .i64).dec a with
  | some i => some (Sx.of i)
  | none => none) := rfl
 rw [e0]
 cases (kInt .i64).dec a <;> rfl
theorem fnS2 {γ β : Type} {C : Cod γ} {B : Cod β} {Q : Sx -> γ -> Bool} {F : Sx -> γ -> β} : fnQ2 kSx C B Q F = fnQ2 (kInt .i64) C B (fun i => Q (Sx.of i)) (fun i => F (Sx.of i)) := by
 funext args
 unfold fnQ2
 split
 . rename_i a c
   rw [decSk]
   cases (kInt .i64).dec a with
   | none => rfl
   | some x => cases C.dec c <;> rfl
 . rfl
theorem fnS3 {γ δ β : Type} {C : Cod γ} {D : Cod δ} {B : Cod β} {Q : Sx -> γ -> δ -> Bool} {F : Sx -> γ -> δ -> β} : fnQ3 kSx C D B Q F = fnQ3 (kInt .i64) C D B (fun i => Q (Sx.of i)) (fun i => F (Sx.of i)) := by
 funext args
 unfold fnQ3
 split
 . rename_i a c d
   rw [decSk]
   cases (kInt .i64).dec a with
   | none => rfl
   | some x => cases C.dec c with
    | none => rfl
    | some y => cases D.dec d <;> rfl
 . rfl
abbrev Q3 : Type := Int -> W6 -> W6 -> Bool
noncomputable abbrev q2Z : Q3 := fun i => sc2 (Sx.of i)
noncomputable abbrev q1Z : Int -> W6 -> Bool := fun i => scQ (Sx.of i)
noncomputable abbrev mlZ : S3 := fun i => opF qmulW (Sx.of i)
noncomputable abbrev adZ : S3 := fun i => opF qaddW (Sx.of i)
noncomputable abbrev sbZ : S3 := fun i => opF qsubW (Sx.of i)
noncomputable abbrev ivZ : Int -> W6 -> W6 × Int := fun i => ivF (Sx.of i)
theorem mlZ_ok : CallOk PR 39 (fnQ3 (kInt .i64) c6.agg c6.agg kWE q2Z mlZ) := by rw [<- fnS3]; exact smul_ok
theorem adZ_ok : CallOk PR 34 (fnQ3 (kInt .i64) c6.agg c6.agg kWE q2Z adZ) := by rw [<- fnS3]; exact sadd_ok
theorem sbZ_ok : CallOk PR 37 (fnQ3 (kInt .i64) c6.agg c6.agg kWE q2Z sbZ) := by rw [<- fnS3]; exact ssub_ok
theorem ivZ_ok : CallOk PR 38 (fnQ2 (kInt .i64) c6.agg kWE q1Z ivZ) := by rw [<- fnS2]; exact sinv_ok
def bt (b c : Bool) : Bool := bif b then c else false
noncomputable def cloN (ng : Mo -> W6 -> W6) : Env := envD eqsT [] [(69, rdp 163 cFa (mc1 c6.agg) c6.agg ng)] [] [] [] false [69]
noncomputable def doN (cm : W6 -> W6 -> Int) (ng : Mo -> W6 -> W6) : List AV -> AH -> Nat -> Option (Bool × AV × AH) := deepP [] PR (envD eqsT [] [] []
 [(79, ariG [false] cm), (68, deepG PR (cloN ng) [] 20 68 4096 true)] [] false [79, 68]) [] 30 67 4096 true
noncomputable def sngE (cm : W6 -> W6 -> Int) (ng : Mo -> W6 -> W6) : Env := envD eqsT [] [] [] [(67, doN cm ng)] [] false [67]
set_option maxRecDepth 100000 in
theorem sng_run (cm : W6 -> W6 -> Int) (ng : Mo -> W6 -> W6) (s : Sx) (m : Md) (h : mdS s = some m) (a : W6) : valP [] (afunR PR (sngE cm ng) [] (fun _ => none) 30 32 [kSx.enc s, c6.agg.enc a]) =
 some (tt (tt (tt (tt (tt (tt (bif decide (cm a (ordX s) >= 0) then false else true)))))), some (kWE.val (ng (modS m) a, 0))) := by
 cases s <;> cases h <;> kernel_rfl
noncomputable def qngW (m : Mo) (x : W6) : W6 := qsubW m zeroW x
theorem cloN_ok : EnvOk PR (cloN qngW) := envD_ok eqsT_ok TabPOk.nil (TabHOk.cons qneg_ent qneg_ok TabHOk.nil) TabLOk.nil TabDOk.nil
theorem doNg_ent : Enters PR 68 := entersB (by kernel_rfl)
theorem cloN_act : ActOk PR 4096 68 (deepG PR (cloN qngW) [] 20 68 4096 true) := deep_ok (ctxB cloN_ok mixed (by kernel_rfl))
theorem doN_ok : ActOk PR 4096 67 (doN cmpX qngW) :=
 deepP_ok (ctxB (envD_ok eqsT_ok TabPOk.nil TabHOk.nil TabLOk.nil (TabDOk.cons ari_ent (ari_ok [false]) (TabDOk.cons doNg_ent cloN_act TabDOk.nil)))
  mixed (by kernel_rfl))
theorem sngE_ok : EnvOk PR (sngE cmpX qngW) := envD_ok eqsT_ok TabPOk.nil TabHOk.nil TabLOk.nil (TabDOk.cons done_ent doN_ok TabDOk.nil)
noncomputable def ngF (s : Sx) (a : W6) : W6 × Int := match mdS s with
 | some m => (qngW (modS m) a, 0)
 | none => (zW6, 2)
theorem sng_gives (s : Sx) (a : W6) (h : scQ s a = true) : Gives (afunR PR (sngE cmpX qngW) [] (fun _ => none) 30 32 [kSx.enc s, c6.agg.enc a]) (kWE.val (ngF s a)) := by
 obtain ⟨m, e, ha⟩ := scQ_ok h
 have hc : decide (cmpX a (ordX s) >= 0) = false := cmpX_ge (by rw [ordX_md e]; exact ha)
 have k := sng_run cmpX qngW s m e a
 rw [hc] at k
 have k2 := Go.Rq.givesP k rfl
 unfold ngF
 rw [e]
 exact k2
theorem sneg_ok : CallOk PR 32 (fnQ2 kSx c6.agg kWE scQ ngF) :=
 .inl ⟨entersB (by kernel_rfl), pureQ2 (ctxB sngE_ok mixed (by kernel_rfl)) sng_gives⟩
noncomputable abbrev ngZ : Int -> W6 -> W6 × Int := fun i => ngF (Sx.of i)
theorem ngZ_ok : CallOk PR 32 (fnQ2 (kInt .i64) c6.agg kWE q1Z ngZ) := by rw [<- fnS2]; exact sneg_ok
noncomputable def pkG : List AV -> Option (Bool × AV) := inlineS PR (envD eqsT [] [] [] [] [] false []) [11] 20 29
theorem pk_ok : CallOk PR 29 pkG :=
 .inl ⟨entersB (by kernel_rfl),
  inlineS_ok (ctxB (envD_ok eqsT_ok TabPOk.nil TabHOk.nil TabLOk.nil TabDOk.nil) mixed (by kernel_rfl))⟩
structure PO where
 o : Int -> W6 × Int
 c : W6 -> W6 -> Int
 g : Int -> Kz × Int
 bq : Int -> Bool
 b : Int -> Kz × Int
 m : ZM
 a : ZZ
noncomputable def onE (t : PO) : Env := envD eqsT [(43, fn1 (kInt .i64) kWE t.o), (86, fn2 c6.agg c6.agg (kInt .i64) t.c), (30, fn1 (kInt .i64) kKzE t.g),
 (31, fnQ1 (kInt .i64) kKzE t.bq t.b), (35, fn2 cKz.agg c6.agg kKzE t.m), (36, fn2 cKz.agg cKz.agg kKzE t.a)] [] [] [] [] false []
def onR (t : PO) (s : Int) (u v : W6) : Kz × Int := t.a (t.m (t.g s).1 u).1 (t.m (t.b s).1 v).1
def onC (t : PO) (s : Int) (u v : W6) : Bool := nt ((t.o s).2 != 0) (nt (geR t.o t.c s u) (nt (geR t.o t.c s v) (bt (tt (t.bq s)) true)))
set_option maxRecDepth 100000 in
theorem on_run (t : PO) (s : Int) (u v : W6) : valP [false, false, false] (afunR PR (onE t) [24, 29, 35] (fun _ => none) 30 41 [(kInt .i64).enc s, c6.agg.enc u, c6.agg.enc v]) =
 some (onC t s u v, some (kKzE.val (onR t s u v))) := by kernel_rfl
def oneQ (t : PO) (s : Int) (u v : W6) : Bool := onC t s u v && (onR t s u v).2 == 0
def oneK (t : PO) (s : Int) (u v : W6) : Kz := (onR t s u v).1
theorem one_ok {t : PO} (hO : CallOk PR 43 (fn1 (kInt .i64) kWE t.o)) (hC : CallOk PR 86 (fn2 c6.agg c6.agg (kInt .i64) t.c)) (hG : CallOk PR 30 (fn1 (kInt .i64) kKzE t.g))
 (hB : CallOk PR 31 (fnQ1 (kInt .i64) kKzE t.bq t.b)) (hM : CallOk PR 35 (fn2 cKz.agg c6.agg kKzE t.m)) (hA : CallOk PR 36 (fn2 cKz.agg cKz.agg kKzE t.a)) :
 CallOk PR 41 (fnQ3 (kInt .i64) c6.agg c6.agg kKzE (oneQ t) (fun s u v => (oneK t s u v, 0))) :=
 .inl ⟨entersB (by kernel_rfl),
  pureQ3 (ctxB (envD_ok eqsT_ok (TabPOk.cons hO (TabPOk.cons hC (TabPOk.cons hG (TabPOk.cons hB (TabPOk.cons hM (TabPOk.cons hA TabPOk.nil)))))) TabHOk.nil TabLOk.nil TabDOk.nil)
   mixed (by kernel_rfl)) fun s u v h => by
    unfold oneQ at h
    obtain ⟨h1, h2⟩ := Bool.and_eq_true_iff.1 h
    have e : onR t s u v = (oneK t s u v, 0) := by
     unfold oneK
     have : (onR t s u v).2 = 0 := by simpa using h2
     rw [<- this]
    have k := Go.Rq.givesP (on_run t s u v) h1
    rw [e] at k
    exact k⟩
abbrev K3 : Type := Int -> W6 -> W6 -> Kz
def oneV (q : Q3) (k : K3) : List AV -> Option (Bool × AV) := fnQ3 (kInt .i64) c6.agg c6.agg kKzE q (fun s u v => (k s u v, 0))
noncomputable def cmE (o : Int -> W6 × Int) (q : Q3) (k : K3) : Env := envD eqsT [(43, fn1 (kInt .i64) kWE o), (41, oneV q k)] [] [] [] [] false []
noncomputable def cmG (o : Int -> W6 × Int) (q : Q3) (k : K3) : List AV -> AH -> Nat -> Option (Bool × AV × AH) := deepP [false] PR (cmE o q k) [20] 30 10 4096 true
theorem cm_ent : Enters PR 10 := entersB (by kernel_rfl)
theorem cm_ok {o : Int -> W6 × Int} {q : Q3} {k : K3} (hO : CallOk PR 43 (fn1 (kInt .i64) kWE o)) (hK : CallOk PR 41 (oneV q k)) : ActOk PR 4096 10 (cmG o q k) :=
 deepP_ok (ctxB (envD_ok eqsT_ok (TabPOk.cons hO (TabPOk.cons hK TabPOk.nil)) TabHOk.nil TabLOk.nil TabDOk.nil) mixed (by kernel_rfl))
def chV (k : Kz -> Bool) : List AV -> Option (Bool × AV) := fnQ1 cKz.agg kBool k (fun _ => true)
noncomputable def chG (n : Nat) (k : Kz -> Bool) : List AV -> AH -> Nat -> Option (Bool × AV × AH) := deepP (List.replicate n false) PR (envD eqsT [(48, chV k)] [] [] [] [] false []) [37] 30 20 4096 true
theorem ch_ent : Enters PR 20 := entersB (by kernel_rfl)
theorem chV_ok {k : Kz -> Bool} (h : CallOk PR 48 (fn1 cKz.agg kBool k)) : CallOk PR 48 (chV k) := by
 have e : ∀ {args : List AV} {r : AV}, chV k args = some (true, r) -> fn1 cKz.agg kBool k args = some (true, r) := by
  intro args r hx
  unfold chV fnQ1 at hx
  unfold fn1
  split at hx
  . rename_i a
    dsimp only
    split at hx
    . rename_i x hx2
      rw [hx2]
      dsimp only
      simp only [Option.some.injEq, Prod.mk.injEq] at hx
      rw [hx.1]
      simp only [Option.some.injEq, Prod.mk.injEq, true_and]
      exact hx.2
    . cases hx
  . cases hx
 rcases h with ⟨h1, h2⟩ | h2
 . exact .inl ⟨h1, fun ρ args xs r hr hx => h2 ρ args xs r (e hr) hx⟩
 . exact .inr (fun ρ args xs r hr hx => h2 ρ args xs r (e hr) hx)
theorem ch_ok {n : Nat} {k : Kz -> Bool} (h : CallOk PR 48 (chV k)) : ActOk PR 4096 20 (chG n k) :=
 deepP_ok (ctxB (envD_ok eqsT_ok (TabPOk.cons h TabPOk.nil) TabHOk.nil TabLOk.nil TabDOk.nil) mixed (by kernel_rfl))
noncomputable def paE (m : ZM) (a : ZZ) : Env := envD eqsT [(33, fn1 kU c6.agg ofW), (35, fn2 cKz.agg c6.agg kKzE m), (36, fn2 cKz.agg cKz.agg kKzE a)] [] [] [] [] false []
noncomputable def paG (m : ZM) (a : ZZ) : List AV -> AH -> Nat -> Option (Bool × AV × AH) := deepG PR (paE m a) [] 30 47 4096 true
theorem pa_ent : Enters PR 47 := entersB (by kernel_rfl)
theorem pa_ok {m : ZM} {a : ZZ} (hM : CallOk PR 35 (fn2 cKz.agg c6.agg kKzE m)) (hA : CallOk PR 36 (fn2 cKz.agg cKz.agg kKzE a)) : ActOk PR 4096 47 (paG m a) :=
 deep_ok (ctxB (envD_ok eqsT_ok (TabPOk.cons of_ok (TabPOk.cons hM (TabPOk.cons hA TabPOk.nil))) TabHOk.nil TabLOk.nil TabDOk.nil) mixed (by kernel_rfl))
noncomputable def atE (n : Nat) (k : Kz -> Bool) (m : ZM) (a : ZZ) : Env := envD eqsT [] [] [] [(20, chG n k), (47, paG m a)] [] false [20, 47]
noncomputable def atG (n : Nat) (k : Kz -> Bool) (m : ZM) (a : ZZ) : List AV -> AH -> Nat -> Option (Bool × AV × AH) := deepP [false, false] PR (atE n k m a) [14, 17] 30 18 4096 true
theorem at_ent : Enters PR 18 := entersB (by kernel_rfl)
theorem at_ok {n : Nat} {k : Kz -> Bool} {m : ZM} {a : ZZ} (hK : CallOk PR 48 (chV k)) (hM : CallOk PR 35 (fn2 cKz.agg c6.agg kKzE m)) (hA : CallOk PR 36 (fn2 cKz.agg cKz.agg kKzE a)) :
 ActOk PR 4096 18 (atG n k m a) :=
 deepP_ok (ctxB (envD_ok eqsT_ok TabPOk.nil TabHOk.nil TabLOk.nil (TabDOk.cons ch_ent (ch_ok hK) (TabDOk.cons pa_ent (pa_ok hM hA) TabDOk.nil))) mixed (by kernel_rfl))
noncomputable def hoE (n : Nat) (k : Kz -> Bool) (m : ZM) (a : ZZ) (q : Q3) (j : K3) : Env := envD eqsT [(41, oneV q j)] [] [] [(18, atG n k m a)] [] false [18]
noncomputable def hoG (n : Nat) (k : Kz -> Bool) (m : ZM) (a : ZZ) (q : Q3) (j : K3) : List AV -> AH -> Nat -> Option (Bool × AV × AH) := deepP [] PR (hoE n k m a q j) [] 30 19 4096 true
theorem ho_ent : Enters PR 19 := entersB (by kernel_rfl)
theorem ho_ok {n : Nat} {k : Kz -> Bool} {m : ZM} {a : ZZ} {q : Q3} {j : K3} (hK : CallOk PR 48 (chV k)) (hM : CallOk PR 35 (fn2 cKz.agg c6.agg kKzE m)) (hA : CallOk PR 36 (fn2 cKz.agg cKz.agg kKzE a))
 (hJ : CallOk PR 41 (oneV q j)) : ActOk PR 4096 19 (hoG n k m a q j) :=
 deepP_ok (ctxB (envD_ok eqsT_ok (TabPOk.cons hJ TabPOk.nil) TabHOk.nil TabLOk.nil (TabDOk.cons at_ent (at_ok hK hM hA) TabDOk.nil)) mixed (by kernel_rfl))
abbrev Q5 : Type := Int -> W6 -> W6 -> W6 -> W6 -> Bool
abbrev E5 : Type := Int -> W6 -> W6 -> W6 -> W6 -> W6 × Int
structure XT where
 gn : Int -> Kz × Int
 m : ZM
 fi : F5Z
 o : Int -> W6 × Int
 d : DF
 q : Q3
 ad : S3
 ml : S3
 eq : Q5
 ef : E5
section
variable (t : XT) (s : Int) (x0 x1 x2 x3 x4 : W6)
end
structure Ar (O : Int -> W6 × Int) (Q : Q3) (P : Int -> W6 -> Bool) (A S M : S3) (V : Int -> W6 -> W6 × Int) (s : Int) (r : Nat) : Prop where
 oz : (O s).2 = 0
 q : ∀ a b : W6, a.val < r -> b.val < r -> Q s a b = true
 p : ∀ a : W6, a.val < r -> P s a = true
 ad : ∀ a b : W6, a.val < r -> b.val < r -> (A s a b).2 = 0 /\ (A s a b).1.val = (a.val + b.val) % r
 sb : ∀ a b : W6, a.val < r -> b.val < r -> (S s a b).2 = 0 /\ (S s a b).1.val = (a.val + (r - b.val)) % r
 ml : ∀ a b : W6, a.val < r -> b.val < r -> (M s a b).2 = 0 /\ (M s a b).1.val = a.val * b.val % r
 iv : ∀ a : W6, a.val < r -> a.val ≠ 0 -> (V s a).2 = 0 /\ (V s a).1.val < r /\ a.val * (V s a).1.val % r = 1
section
variable {K : Kz -> Bool} {O : Int -> W6 × Int} {C : W6 -> W6 -> Int} {M : ZM} {A : ZZ} {N : Kz -> Kz × Int} {s : Int} {r : Nat} {φ : Nat -> Kz} {Q : Q3} {P : Int -> W6 -> Bool} {AD SB ML : S3} {IV : Int -> W6 -> W6 × Int}
end
section
variable {K : Kz -> Bool} {C : W6 -> W6 -> Int} {A : ZZ} {N : Kz -> Kz × Int} {P : Int -> W6 -> Bool} {S : S3} {V : Int -> W6 -> W6 × Int} {gn : Int -> Kz × Int} {m : ZM} {o : Int -> W6 × Int} {d : DF} {q : Q3} {ad ml : S3}
end
theorem pr_md (s : Sx) (m : Md) (h : mdS s = some m) : Pr (mdN m) := by
 cases s <;> cases h
 . exact pr_r
 . exact pr_65521
 . exact pr_72057594037927889
theorem ar_su {s : Int} {m : Md} (h : mdS (Sx.of s) = some m) (hz : (OZ s).2 = 0) : Ar OZ q2Z q1Z adZ sbZ mlZ ivZ s (mdN m) := by
 have M := mg_md m
 have hv := modS_val m
 have hq : ∀ a : W6, a.val < mdN m -> scQ (Sx.of s) a = true := fun a ha => by
  unfold scQ
  rw [h]
  exact decide_eq_true ha
 have ho : ∀ (op : Mo -> W6 -> W6 -> W6) (a b : W6), opF op (Sx.of s) a b = (op (modS m) a b, 0) := fun op a b => by
  unfold opF
  rw [h]
 refine ⟨hz, fun a b ha hb => ?_, fun a ha => hq a ha, fun a b _ _ => ?_, fun a b ha hb => ?_, fun a b _ hb => ?_, fun a ha hn => ?_⟩
 . show (scQ (Sx.of s) a && scQ (Sx.of s) b) = true
   rw [hq a ha, hq b hb]; rfl
 . show (opF qaddW (Sx.of s) a b).2 = 0 /\ (opF qaddW (Sx.of s) a b).1.val = _
   rw [ho]
   refine ⟨rfl, ?_⟩
   have := mg_add M a b
   rw [hv] at this
   exact this
 . show (opF qsubW (Sx.of s) a b).2 = 0 /\ (opF qsubW (Sx.of s) a b).1.val = _
   rw [ho]
   refine ⟨rfl, ?_⟩
   have := mg_sub M a b
   rw [hv, Nat.mod_eq_of_lt ha, Nat.mod_eq_of_lt hb] at this
   exact this
 . show (opF qmulW (Sx.of s) a b).2 = 0 /\ (opF qmulW (Sx.of s) a b).1.val = _
   rw [ho]
   refine ⟨rfl, ?_⟩
   have := mg_mul M a b (by rw [hv]; exact hb)
   rw [hv] at this
   exact this
 . show (ivF (Sx.of s) a).2 = 0 /\ (ivF (Sx.of s) a).1.val < mdN m /\ a.val * (ivF (Sx.of s) a).1.val % mdN m = 1
   have e : ivF (Sx.of s) a = invF m a := by
    unfold ivF
    rw [h]
   rw [e]
   exact inv_val (pr_md _ m h) fun hd => hn (Nat.eq_zero_of_dvd_of_lt hd ha)
end Go.Rq.Cl

namespace Go.Rq.Sm
open Go Go.Proofs Go.Rq
structure Sg (K : Kz -> Bool) (M : ZM) (A : ZZ) (N : Kz -> Kz × Int) (s : Int) (r : Nat) {G : Type} (g : Gm G) (ι : G -> Kz) : Prop where
 ord : ∀ a, g.mul r a = g.zero
 inj : ∀ {a b}, ι a = ι b -> a = b
 may : ∀ a, K (ι a) = true
 sui : ∀ a, (ι a).1 = s
 all : ∀ k : Kz, k.1 = s -> K k = true -> ∃ a, ι a = k
 mul : ∀ (a : G) (x : W6), x.val < r -> M (ι a) x = (ι (g.mul x.val a), 0)
 add : ∀ a b, A (ι a) (ι b) = (ι (g.add a b), 0)
 neg : ∀ a, N (ι a) = (ι (g.neg a), 0)
section
variable {K : Type} [Rg K] {iv : K -> K} {e : K -> K -> Bool} {M P : K -> W6 -> Prop} {f : Fl K}
end
section
variable {I : Ap W6 -> Bool} {A : Ap W6 -> Ap W6 -> Ap W6 × Int} {M : Ap W6 -> W6 -> Ap W6 × Int} {N : Ap W6 -> Ap W6 × Int} {z : Ap W6}
theorem eqLz_iff {l : Lx} (h : eqLz l = true) : l = zLx := by
 obtain ⟨a, b, c⟩ := l
 simp only [eqLz, Bool.and_eq_true, beq_iff_eq, and_true] at h
 obtain ⟨rfl, rfl, rfl⟩ := h
 rfl
end
section
variable (s : Su)
theorem in_iff {p : Lp} : inF s p = true ↔ ∃ A : Ap (Fsu s), p = wp A /\ Cw.Pt A /\ Cw.nsm ivF eqF A (suRn s) = ⟨0, 0, true⟩ := by
 unfold inF
 constructor
 . intro h
   cases ho : onF s p with
   | false => rw [ho] at h; cases h
   | true =>
    rw [ho, cond_true] at h
    obtain ⟨A, h1, h2⟩ := on_iff.1 ho
    subst h1
    rw [lTimes_wp h2, suR_nat] at h
    exact ⟨A, rfl, h2, (Cw.nsm_pt (fdS s) h2 _).z h⟩
 . rintro ⟨A, rfl, h2, h3⟩
   rw [on_iff.2 ⟨A, rfl, h2⟩, cond_true, lTimes_wp h2, suR_nat, h3]
   rfl
theorem nsum_lit {X Y : Ap (Fsu s)} (hX : Cw.Pt X) (hY : Cw.Pt Y) (n : Nat) : Cw.nsm ivF eqF (Cw.sumW ivF eqF X Y) n = Cw.sumW ivF eqF (Cw.nsm ivF eqF X n) (Cw.nsm ivF eqF Y n) := by
 have F := fdS s
 induction n with
 | zero => rfl
 | succ n ih =>
  have p1 := Cw.nsm_pt F hX n
  have p2 := Cw.nsm_pt F hY n
  show Cw.sumW ivF eqF (Cw.nsm ivF eqF (Cw.sumW ivF eqF X Y) n) (Cw.sumW ivF eqF X Y) = Cw.sumW ivF eqF (Cw.sumW ivF eqF (Cw.nsm ivF eqF X n) X) (Cw.sumW ivF eqF (Cw.nsm ivF eqF Y n) Y)
  rw [ih, Cw.sum_assoc F p1 p2 (Cw.sum_pt F hX hY), <- Cw.sum_assoc F p2 hX hY, Cw.sum_comm F p2 hX, Cw.sum_assoc F hX p2 hY, <- Cw.sum_assoc F p1 hX (Cw.sum_pt F p2 hY)]
def glT : Type := {p : Lp // inF s p = true}
theorem zl_lit (Y : Ap (Fsu s)) : Cw.sumW ivF eqF (⟨0, 0, true⟩ : Ap (Fsu s)) Y = Y := rfl
noncomputable def glG : Gm (glT s) where
 add a b := ⟨lSum s a.1 b.1, by
  obtain ⟨X, x1, x2, x3⟩ := (in_iff s).1 a.2
  obtain ⟨Y, y1, y2, y3⟩ := (in_iff s).1 b.2
  rw [x1, y1, lSum_wp x2 y2]
  exact (in_iff s).2 ⟨_, rfl, Cw.sum_pt (fdS s) x2 y2, by rw [nsum_lit s x2 y2, x3, y3]; rfl⟩⟩
 zero := ⟨lp0, (in_iff s).2 ⟨⟨0, 0, true⟩, wp_zero.symm, .zero, Cw.nsm_zero _⟩⟩
 neg a := ⟨(a.1.1, lSub s 0#64 a.1.2.1, a.1.2.2), by
  obtain ⟨X, x1, x2, x3⟩ := (in_iff s).1 a.2
  rw [x1, lneg_wp]
  refine (in_iff s).2 ⟨_, rfl, Cw.neg_pt x2, ?_⟩
  have hp2 := Cw.nsm_pt (fdS s) (Cw.neg_pt x2) (suRn s)
  have k : Cw.sumW ivF eqF (Cw.nsm ivF eqF (negK X) (suRn s)) (Cw.nsm ivF eqF X (suRn s)) = ⟨0, 0, true⟩ := by
   rw [<- nsum_lit s (Cw.neg_pt x2) x2, Cw.sum_comm (fdS s) (Cw.neg_pt x2) x2, Cw.sum_neg (fdS s) x2, Cw.nsm_zero]
  rw [x3, Cw.sum_comm (fdS s) hp2 .zero, zl_lit] at k
  exact k⟩
 comm a b := Subtype.ext (by
  obtain ⟨X, x1, x2, x3⟩ := (in_iff s).1 a.2
  obtain ⟨Y, y1, y2, y3⟩ := (in_iff s).1 b.2
  show lSum s a.1 b.1 = lSum s b.1 a.1
  rw [x1, y1, lSum_wp x2 y2, lSum_wp y2 x2, Cw.sum_comm (fdS s) x2 y2])
 assoc a b c := Subtype.ext (by
  obtain ⟨X, x1, x2, x3⟩ := (in_iff s).1 a.2
  obtain ⟨Y, y1, y2, y3⟩ := (in_iff s).1 b.2
  obtain ⟨Z, z1, z2, z3⟩ := (in_iff s).1 c.2
  show lSum s (lSum s a.1 b.1) c.1 = lSum s a.1 (lSum s b.1 c.1)
  rw [x1, y1, z1, lSum_wp x2 y2, lSum_wp y2 z2, lSum_wp (Cw.sum_pt (fdS s) x2 y2) z2, lSum_wp x2 (Cw.sum_pt (fdS s) y2 z2), Cw.sum_assoc (fdS s) x2 y2 z2])
 nought a := Subtype.ext (by
  obtain ⟨X, x1, x2, x3⟩ := (in_iff s).1 a.2
  show lSum s lp0 a.1 = a.1
  rw [x1, <- wp_zero (s := s), lSum_wp .zero x2, zl_lit])
 inv a := Subtype.ext (by
  obtain ⟨X, x1, x2, x3⟩ := (in_iff s).1 a.2
  show lSum s (a.1.1, lSub s 0#64 a.1.2.1, a.1.2.2) a.1 = lp0
  rw [x1, lneg_wp, lSum_wp (Cw.neg_pt x2) x2, Cw.sum_comm (fdS s) (Cw.neg_pt x2) x2, Cw.sum_neg (fdS s) x2, wp_zero])
theorem gl_mul (a : glT s) : (∀ x : BitVec 64, lTimes s a.1 x = ((glG s).mul x.toNat a).1) /\ (glG s).mul (suRn s) a = (glG s).zero := by
 obtain ⟨X, x1, x2, x3⟩ := (in_iff s).1 a.2
 have k : ∀ n, ((glG s).mul n a).1 = wp (Cw.nsm ivF eqF X n) := by
  intro n
  induction n with
  | zero => exact wp_zero.symm
  | succ n ih =>
   show lSum s ((glG s).mul n a).1 a.1 = wp (Cw.sumW ivF eqF (Cw.nsm ivF eqF X n) X)
   rw [ih, x1, lSum_wp (Cw.nsm_pt (fdS s) x2 n) x2]
 refine ⟨fun x => by rw [k, x1, lTimes_wp x2], Subtype.ext ?_⟩
 rw [k, x3, wp_zero]; rfl
def glI (a : glT s) : Kz := ((suSx s).int, zPx, a.1)
theorem glI_kx (a : glT s) : toKx (glI s a) = (suSx s, zPx, a.1) := by
 unfold toKx glI
 rw [Sx.of_int]
theorem kch_gl (I : Px -> Bool) (a : glT s) : kchX I (toKx (glI s a)) = true := by
 rw [glI_kx]
 have h := a.2
 cases s
 . show (bif eqPx zPx then inF .lit a.1 else false) = true
   rw [zPx_is, cond_true, h]
 . show (bif eqPx zPx then inF .mid a.1 else false) = true
   rw [zPx_is, cond_true, h]
theorem ky1_gl (I : Px -> Bool) (a : glT s) {x : W6} (h : x.val < suRn s) : ky1 (kchX I) ordX cmpX x (suSx s, zPx, a.1) = 0 := by
 unfold ky1
 rw [<- glI_kx, kch_gl, glI_kx]
 dsimp only
 rw [cmpX_ge (by rw [ordX_val]; exact h)]
 simp
theorem ky2_gl (I : Px -> Bool) (a b : glT s) : ky2 (kchX I) ordX cmpX zW6 (suSx s, zPx, a.1) (suSx s, zPx, b.1) = 0 := by
 unfold ky2
 rw [<- glI_kx, <- glI_kx, kch_gl, kch_gl, glI_kx, glI_kx]
 dsimp only
 rw [cmpX_ge (by rw [ordX_val]; exact suRn_pos s)]
 simp
theorem eqPx_iff {p : Px} (h : eqPx p = true) : p = zPx := by
 obtain ⟨⟨a0, a1, a2, a3, a4, a5⟩, ⟨b0, b1, b2, b3, b4, b5⟩, c⟩ := p
 simp only [eqPx, eqW6, Bool.and_eq_true, beq_iff_eq, and_true] at h
 obtain ⟨rfl, rfl, rfl, rfl, rfl, rfl, rfl, rfl, rfl, rfl, rfl, rfl, rfl⟩ := h
 rfl
theorem sg_lit (I : Px -> Bool) (A1 : Px -> Px -> Px × Int) (M1 : Px -> W6 -> Px × Int) (N1 : Px -> Px × Int) :
 Sg (fun a => kchX I (toKx a)) (kmuX I M1) (kadX I A1) (kneX I N1) (suSx s).int (suRn s) (glG s) (glI s) where
 ord a := (gl_mul s a).2
 inj {a b} hh := Subtype.ext (Prod.mk.inj (Prod.mk.inj hh).2).2
 may a := kch_gl s I a
 sui a := rfl
 all k hs hk := by
  obtain ⟨n, p, l⟩ := k
  have hs : n = (suSx s).int := hs
  subst hs
  have e : toKx ((suSx s).int, p, l) = (suSx s, p, l) := by unfold toKx; rw [Sx.of_int]
  rw [e] at hk
  have hk : (bif eqPx p then inF s l else false) = true := by cases s <;> exact hk
  cases hl : eqPx p with
  | false => rw [hl] at hk; cases hk
  | true =>
   rw [hl, cond_true] at hk
   exact ⟨⟨l, hk⟩, by rw [eqPx_iff hl]; rfl⟩
 mul a x h := by
  unfold kmuX kmuG
  rw [glI_kx, ky1_gl s I a h]
  have e : lTimes s a.1 x.w0 = ((glG s).mul x.val a).1 := by rw [(gl_mul s a).1, w0_val (Nat.lt_trans h (suRn_lt s))]
  cases s
  . show (((1 : Int), zPx, lTimes .lit a.1 x.w0), (0 : Int)) = _
    rw [e]; rfl
  . show (((2 : Int), zPx, lTimes .mid a.1 x.w0), (0 : Int)) = _
    rw [e]; rfl
 add a b := by
  unfold kadX kadG
  rw [glI_kx, glI_kx, ky2_gl s I a b]
  cases s <;> rfl
 neg a := by
  unfold kneX kneG
  rw [glI_kx, ky1_gl s I a (x := zW6) (suRn_pos s)]
  cases s <;> rfl
end
end Go.Rq.Sm

namespace Go.Rq.Cl
open Go Go.Proofs Go.Rq Go.Rq.Sm
def pbL (AD : W6 -> W6) (AK : Kz -> Kz) (mv : Kz) : Nat -> W6 × Kz -> W6 × Kz
 | 0, p => p
 | n + 1, p => bif eqKz p.2 mv then p else pbL AD AK mv n (AD p.1, AK p.2)
section
variable {K : Kz -> Bool} {O : Int -> W6 × Int} {M : ZM} {A : ZZ} {N : Kz -> Kz × Int} {s : Int} {r : Nat} {Q : Q3} {P : Int -> W6 -> Bool} {AD SB ML : S3} {IV : Int -> W6 -> W6 × Int}
variable {G : Type} {g : Gm G} {ι : G -> Kz}
theorem one_is (h : Sg K M A N s r g ι) (γ η : G) {u v : W6} (hu : u.val < r) (hv : v.val < r) : A (M (ι γ) u).1 (M (ι η) v).1 = (ι (g.com γ η u.val v.val), 0) := by
 rw [h.mul γ u hu, h.mul η v hv]
 exact h.add _ _
theorem pbL_inv (h : Sg K M A N s r g ι) (a : Ar O Q P AD SB ML IV s r) (γ : G) {w1 : W6} (h1 : w1.val = 1) (hr : 1 < r) (mv : Kz) : ∀ (n : Nat) (p : W6 × Kz), p.1.val < r -> p.2 = ι (g.mul p.1.val γ) ->
 (pbL (fun k => (AD s k w1).1) (fun x => (A x (ι γ)).1) mv n p).1.val < r /\ (pbL (fun k => (AD s k w1).1) (fun x => (A x (ι γ)).1) mv n p).2 = ι (g.mul (pbL (fun k => (AD s k w1).1) (fun x => (A x (ι γ)).1) mv n p).1.val γ)
 | 0, p, k1, k2 => ⟨k1, k2⟩
 | n + 1, p, k1, k2 => by
  unfold pbL
  cases eqKz p.2 mv with
  | true => exact ⟨k1, k2⟩
  | false =>
   rw [cond_false]
   have e := (a.ad p.1 w1 k1 (by omega)).2
   rw [h1] at e
   refine pbL_inv h a γ h1 hr mv n _ ?_ ?_
   . show (AD s p.1 w1).1.val < r
     rw [e]; exact Nat.mod_lt _ (by omega)
   . show (A p.2 (ι γ)).1 = ι (g.mul (AD s p.1 w1).1.val γ)
     rw [k2, h.add, e, g.mul_mod (h.ord γ)]
     rfl
theorem dif_is {x y : Nat} (hx : x < r) (hy : y < r) : (x + (r - y)) % r = dif r x y := by
 unfold dif
 rw [Nat.mod_eq_of_lt hx, Nat.mod_eq_of_lt hy]
theorem pb_true (h : Sg K M A N s r g ι) (a : Ar O Q P AD SB ML IV s r) (hr : 1 < r) (γ η : G) {l0 l1 o less k : W6} (h0 : l0.val < r) (h1 : l1.val < r) (ho : o.val < r) (hk : k.val < r) (hl : less.val < r) (hs : (less.val + o.val) % r = 0)
 (hz : ∀ x : W6, x.val = 0 -> (IV s x).2 ≠ 0) (hm : ι (g.mul k.val γ) = (M (ι η) o).1) :
 A (M (ι γ) (AD s l0 k).1).1 (M (ι η) (AD s l1 less).1).1 = A (M (ι γ) l0).1 (M (ι η) l1).1 /\
 ((IV s (SB s (AD s l1 less).1 l1).1).2 = 0 -> M (ι γ) (ML s (SB s l0 (AD s l0 k).1).1 (IV s (SB s (AD s l1 less).1 l1).1).1).1 = (ι η, 0)) := by
 have hp : 0 < r := by omega
 have e1 := (a.ad l0 k h0 hk).2
 have e2 := (a.ad l1 less h1 hl).2
 have k1 : (AD s l0 k).1.val < r := by rw [e1]; exact Nat.mod_lt _ hp
 have k2 : (AD s l1 less).1.val < r := by rw [e2]; exact Nat.mod_lt _ hp
 rw [h.mul η o ho] at hm
 have hm := h.inj hm
 obtain ⟨b1, b2⟩ := g.binds hp (h.ord γ) (h.ord η) (l0 := l0.val) (l1 := l1.val) hm hs
 refine ⟨?_, fun hi => ?_⟩
 . rw [one_is h γ η k1 k2, one_is h γ η h0 h1, e1, e2, b1]
 . have d1 := (a.sb l0 (AD s l0 k).1 h0 k1).2
   have d2 := (a.sb (AD s l1 less).1 l1 k2 h1).2
   rw [dif_is h0 k1, e1] at d1
   rw [dif_is k2 h1, e2] at d2
   have q1 : (SB s l0 (AD s l0 k).1).1.val < r := by rw [d1]; exact Nat.mod_lt _ hp
   have q2 : (SB s (AD s l1 less).1 l1).1.val < r := by rw [d2]; exact Nat.mod_lt _ hp
   have nz : (SB s (AD s l1 less).1 l1).1.val ≠ 0 := fun e => hz _ e hi
   obtain ⟨-, i2, i3⟩ := a.iv _ q2 nz
   have m1 := (a.ml _ _ q1 i2).2
   rw [h.mul γ _ (by rw [m1]; exact Nat.mod_lt _ hp)]
   have := b2 (IV s (SB s (AD s l1 less).1 l1).1).1.val (ML s (SB s l0 (AD s l0 k).1).1 (IV s (SB s (AD s l1 less).1 l1).1).1).1.val
    (by rw [Nat.mul_comm, <- d2, i3, Nat.mod_eq_of_lt hr]) (by rw [m1, d1])
   rw [this]
end
structure PT where
 o : Int -> W6 × Int
 d : DF
 q : Q3
 p : Int -> W6 -> Bool
 ad : S3
 sb : S3
 ml : S3
 iv : Int -> W6 -> W6 × Int
 ng : Int -> W6 -> W6 × Int
 gn : Int -> Kz × Int
 bq : Int -> Bool
 b : Int -> Kz × Int
 m : ZM
 a : ZZ
 k : Kz -> Bool
 oq : Q3
 ok : K3
noncomputable def pbE (t : PT) : Env := envD eqsT [(27, fn0 kBool true), (30, fn1 (kInt .i64) kKzE t.gn), (31, fnQ1 (kInt .i64) kKzE t.bq t.b), (32, fnQ2 (kInt .i64) c6.agg kWE t.p t.ng),
 (34, fnQ3 (kInt .i64) c6.agg c6.agg kWE t.q t.ad), (37, fnQ3 (kInt .i64) c6.agg c6.agg kWE t.q t.sb), (39, fnQ3 (kInt .i64) c6.agg c6.agg kWE t.q t.ml), (38, fnQ2 (kInt .i64) c6.agg kWE t.p t.iv),
 (35, fn2 cKz.agg c6.agg kKzE t.m), (36, fn2 cKz.agg cKz.agg kKzE t.a), (33, fn1 kU c6.agg ofW), (29, pkG)]
 [] [] [(28, scG t.o t.d), (10, cmG t.o t.oq t.ok), (19, hoG 1 t.k t.m t.a t.oq t.ok)] [] false [28, 10, 19]
def pbS : List Tmp := [111, 116, 134, 178, 183, 204]
def pbAs (a b : W6) (at_ off : Int) : List AV := [c6.agg.enc a, c6.agg.enc b, (kInt .i64).enc at_, (kInt .i64).enc off]
def pick (n x : Int) : Int := bif decide (Int.tmod x n < 0) then IntKind.i64.wrap (Int.tmod x n + n) else Int.tmod x n
def pbW (y : Int) : W6 := ofW (BitVec.ofInt 64 (pick 200 y))
def pbM (t : PT) (y : Int) : Kz := (t.m (t.b 1).1 (pbW y)).1
def w6z : W6 := ⟨0#64, 0#64, 0#64, 0#64, 0#64, 0#64⟩
def w6o : W6 := ofW (bitW true)
def pbKp : Keep := ⟨[2, 8, 9, 10, 11, 12, 14, 16, 20, 22, 24, 25, 27], [40960, 94208, 167936, 200704, 294912, 339968, 356352, 389120], 405504⟩
def pbKx : Keep := ⟨[2, 8, 9, 10, 11, 12, 14, 16, 20, 22, 24, 25], [40960, 94208, 167936, 200704, 294912, 339968, 356352, 389120], 405504⟩
@[irreducible] noncomputable def pbX (t : PT) (a b : W6) (x y : Int) : XS := entryB PR (pbE t) pbS (fun _ => none) 30 5 (pbAs a b x y) [] 0 0 pbKp
@[irreducible] noncomputable def pbXx (t : PT) (a b : W6) (x y : Int) : XS := entryB PR (pbE t) pbS (fun _ => none) 30 5 (pbAs a b x y) [] 0 0 pbKx
@[irreducible] noncomputable def pbI (t : PT) (a b : W6) (x y : Int) (d : Int × (W6 × Kz)) : XS := (((pbX t a b x y).setT 27 (.v (.int .i64 d.1))).setB 356352 (c6.enc d.2.1)).setB 389120 (cKz.enc d.2.2)
@[irreducible] noncomputable def pbJ (t : PT) (a b : W6) (x y : Int) (d : W6 × Kz) : XS := ((pbXx t a b x y).setB 356352 (c6.enc d.1)).setB 389120 (cKz.enc d.2)
@[irreducible] noncomputable def pbC : Code := roundOf PR 5 0
def pbR (t : PT) (I : Int × (W6 × Kz) -> XS) (J : W6 × Kz -> XS) (mv : Kz) (z : Int) (k : W6) (p : Kz) : Tree (AExit × XS) :=
 .br (decide (z < 300)) (.br (!(eqKz p mv)) (.need (t.q 1 k w6o && true) (.leaf (.normal, I (IntKind.i64.wrap (z + 1), ((t.ad 1 k w6o).1, (t.a p (t.gn 1).1).1))))) (.need true (.leaf (.exit 0, J (k, p))))) (.need true (.leaf (.exit 0, J (k, p))))
set_option maxRecDepth 1000000 in
theorem pb_round (t : PT) (a b : W6) (x y : Int) (z : Int) (k : W6) (p : Kz) : Tree.but [1] 0 (roundT PR (pbE t) pbS (fun _ => none) 30 pbKp pbKx pbKx pbC (pbI t a b x y (z, (k, p)))) =
 pbR t (pbI t a b x y) (pbJ t a b x y) (pbM t y) z k p := by kernel_rfl
set_option maxRecDepth 1000000 in
theorem pb_head (t : PT) (a b : W6) (x y : Int) : pbX t a b x y = pbI t a b x y (0, (w6z, (t.m (t.gn 1).1 w6z).1)) := by kernel_rfl
theorem pb_blk : blkAll 0 (bodyOf PR 5) = [.loop pbC] := by kernel_rfl
theorem pb_code (t : PT) : codeOk (pbE t) pbC = true := by kernel_rfl
def pbN (t : PT) (mv : Kz) : Nat -> W6 × Kz -> W6 × Kz := pbL (fun k => (t.ad 1 k w6o).1) (fun x => (t.a x (t.gn 1).1).1) mv
theorem pb_law (t : PT) (rt : XS -> Tree (AExit × XS)) (I : Int × (W6 × Kz) -> XS) (J : W6 × Kz -> XS) (mv : Kz) (hr : ∀ (z : Int) (k : W6) (p : Kz), Tree.but [1] 0 (rt (I (z, (k, p)))) = pbR t I J mv z k p)
 {G : W6 -> Prop} (hG : ∀ k, G k -> t.q 1 k w6o = true /\ G (t.ad 1 k w6o).1) {R : W6 × Kz} {Q : AExit -> XS -> Prop} (hK : Q .normal (J R)) :
 ∀ d : Int × (W6 × Kz), (0 <= d.1 /\ d.1 <= 300 /\ G d.2.1 /\ pbN t mv (300 - d.1).toNat d.2 = R) -> (rt (I d)).holds (fun r => match r.1 with
  | .normal => ∃ j : Int × (W6 × Kz), (0 <= j.1 /\ j.1 <= 300 /\ G j.2.1 /\ pbN t mv (300 - j.1).toNat j.2 = R) /\ (300 - j.1).toNat < (300 - d.1).toNat /\ r.2 = I j
  | .exit q => if q = 0 then Q .normal r.2 else Q (.exit q) r.2
  | .ret => Q .ret r.2) := by
 rintro ⟨z, k, p⟩ ⟨h0, h1, hg, h2⟩
 simp only at h0 h1 hg
 apply Tree.holds_but (l := [1]) (i := 0)
 rw [hr]
 unfold pbR
 have out : pbN t mv (300 - z).toNat (k, p) = (k, p) -> (Tree.need true (Tree.leaf (AExit.exit 0, J (k, p)))).holds (fun r => match r.1 with
  | .normal => ∃ j : Int × (W6 × Kz), (0 <= j.1 /\ j.1 <= 300 /\ G j.2.1 /\ pbN t mv (300 - j.1).toNat j.2 = R) /\ (300 - j.1).toNat < (300 - z).toNat /\ r.2 = I j
  | .exit q => if q = 0 then Q .normal r.2 else Q (.exit q) r.2
  | .ret => Q .ret r.2) := by
  intro e
  have h2 : pbN t mv (300 - z).toNat (k, p) = R := h2
  rw [e] at h2
  refine ⟨rfl, ?_⟩
  show (if (0 : Nat) = 0 then Q .normal (J (k, p)) else Q (.exit 0) (J (k, p)))
  rw [if_pos rfl, h2]
  exact hK
 refine ⟨fun hz => ⟨fun he => ?_, fun he => out ?_⟩, fun hz => out ?_⟩
 . have hz : z < 300 := by simpa using hz
   have hw : IntKind.i64.wrap (z + 1) = z + 1 := wrap_id (by omega) (by omega)
   have hk : (300 - z).toNat = (300 - (z + 1)).toNat + 1 := by omega
   obtain ⟨q1, q2⟩ := hG k hg
   have he : eqKz p mv = false := by simpa using he
   have h2 : pbN t mv (300 - z).toNat (k, p) = R := h2
   rw [hk] at h2
   unfold pbN at h2
   unfold pbL at h2
   simp only [he, cond_false] at h2
   refine ⟨by rw [q1]; rfl, ⟨z + 1, (t.ad 1 k w6o).1, (t.a p (t.gn 1).1).1⟩, ⟨by simp only; omega, by simp only; omega, q2, h2⟩, ?_, ?_⟩
   . show (300 - (z + 1)).toNat < (300 - z).toNat
     omega
   . rw [hw]
 . have hz : z < 300 := by simpa using hz
   have hk : (300 - z).toNat = (300 - (z + 1)).toNat + 1 := by omega
   have he : eqKz p mv = true := by simpa using he
   rw [hk]
   unfold pbN pbL
   simp only [he, cond_true]
 . have hz : ¬ z < 300 := by simpa using hz
   have hk : (300 - z).toNat = 0 := by omega
   rw [hk]
   rfl
@[irreducible] noncomputable def pbB (t : PT) (a b : W6) (x y : Int) (r : W6 × Kz) : BEnt := ⟨pbKp.tm, pbKp.ids, pbKp.n, pbX t a b x y, .leaf (.normal, pbJ t a b x y r)⟩
theorem pbB_n (t : PT) (a b : W6) (x y : Int) (r : W6 × Kz) : (pbB t a b x y r).n = 405504 /\ (pbB t a b x y r).pre = pbX t a b x y /\ (pbB t a b x y r).post = .leaf (.normal, pbJ t a b x y r) := by
 unfold pbB
 exact ⟨rfl, rfl, rfl⟩
def pbF (t : PT) (y : Int) : W6 × Kz := pbN t (pbM t y) 300 (w6z, (t.m (t.gn 1).1 w6z).1)
theorem pb_loop {t : PT} (hE : EnvOk PR (pbE t)) (a b : W6) (x y : Int) {G : W6 -> Prop} (hG : ∀ k, G k -> t.q 1 k w6o = true /\ G (t.ad 1 k w6o).1) (g0 : G w6z) {F : Fr} {ds : List Deferred} {K : AExit -> XS -> Prop} (hK : K .normal (pbJ t a b x y (pbF t y))) :
 Tri PR F ds 0 (.block 0 (.loop pbC)) (pbX t a b x y) K :=
 Eq.subst (motive := fun y => Tri PR F ds 0 (.block 0 (.loop pbC)) y K) (pb_head t a b x y).symm <| blockLoop (m := 0) hE mixed (sym := pbS) (tab := fun _ => none) (lf := 30) (k := pbKp) (kx := pbKx) (kr := pbKx) (Nat.zero_le _) (Nat.zero_le _) (Nat.zero_le _) (pb_code t) (tabOk_none _)
  (pbI t a b x y) (fun d => 0 <= d.1 /\ d.1 <= 300 /\ G d.2.1 /\ pbN t (pbM t y) (300 - d.1).toNat d.2 = pbF t y) (fun d => (300 - d.1).toNat) (0, (w6z, (t.m (t.gn 1).1 w6z).1)) ⟨Int.le_refl _, show (0 : Int) <= 300 by decide, g0, rfl⟩
  (pb_law t _ (pbI t a b x y) (pbJ t a b x y) (pbM t y) (pb_round t a b x y) hG hK)
theorem pb_tab {t : PT} (hE : EnvOk PR (pbE t)) (a b : W6) (x y : Int) {G : W6 -> Prop} (hG : ∀ k, G k -> t.q 1 k w6o = true /\ G (t.ad 1 k w6o).1) (g0 : G w6z) : TabOk PR 0 (tabOf [(0, pbB t a b x y (pbF t y))]) (bodyOf PR 5) :=
 tabOk_one (Nat.zero_le _) pb_blk fun F ds K h => by
  obtain ⟨-, e1, e2⟩ := pbB_n t a b x y (pbF t y)
  rw [e2] at h
  rw [e1]
  exact pb_loop hE a b x y hG g0 h
theorem pb_ctx {t : PT} (hE : EnvOk PR (pbE t)) (a b : W6) (x y : Int) {G : W6 -> Prop} (hG : ∀ k, G k -> t.q 1 k w6o = true /\ G (t.ad 1 k w6o).1) (g0 : G w6z) : Ctx PR (pbE t) pbS (tabOf [(0, pbB t a b x y (pbF t y))]) 30 5 :=
 ctx_of hE mixed (fn := Tryz.f5) (by kernel_rfl) (by kernel_rfl) (by kernel_rfl) (pb_tab hE a b x y hG g0)
noncomputable def pbT (t : PT) (a b : W6) (x y : Int) (r : W6 × Kz) : Tree AV := afunR PR (pbE t) pbS (tabOf [(0, pbB t a b x y r)]) 30 5 (pbAs a b x y)
def pbA0 (t : PT) (a : W6) : W6 := (t.d a (t.o 1).1).2.1
def pbK (t : PT) (a b : W6) : Kz := t.ok 1 (pbA0 t a) (pbA0 t b)
def pbLe (t : PT) (y : Int) : W6 := (t.ng 1 (pbW y)).1
def pbBl (t : PT) (b : W6) (y : Int) : W6 := (t.ad 1 (pbA0 t b) (pbLe t y)).1
def pbOt (t : PT) (a : W6) (r : W6 × Kz) : W6 := (t.ad 1 (pbA0 t a) r.1).1
def pbDi (t : PT) (a : W6) (r : W6 × Kz) : W6 := (t.sb 1 (pbA0 t a) (pbOt t a r)).1
def pbDo (t : PT) (b : W6) (y : Int) : W6 := (t.sb 1 (pbBl t b y) (pbA0 t b)).1
def chC (k : Kz -> Bool) (c : Kz) : Bool := tt (bt (tt (k c)) (nt (c.1 != c.1) true))
def atC (k : Kz -> Bool) (c : Kz) (x : Int) : Bool := tt (bt (tt (chC k c)) (nt (decide (x < 0)) (nt (decide (x > 1000)) true)))
def hoC (k : Kz -> Bool) (oq : Q3) (c : Kz) (x : Int) (u v : W6) : Bool := tt (tt (bt (tt (atC k c x)) (bt (tt (oq c.1 u v)) true)))
def pbC5 (t : PT) (a b : W6) : Bool := tt (tt (nt ((t.o 1).2 != 0) (tt (tt (t.oq 1 (pbA0 t a) (pbA0 t b))))))
def pbQa (t : PT) (b : W6) (y : Int) : Bool := t.q 1 (pbA0 t b) (pbLe t y)
def pbQb (t : PT) (a : W6) (r : W6 × Kz) : Bool := t.q 1 (pbA0 t a) r.1
def pbQc (t : PT) (a : W6) (r : W6 × Kz) : Bool := t.q 1 (pbA0 t a) (pbOt t a r)
def pbQd (t : PT) (b : W6) (y : Int) : Bool := t.q 1 (pbBl t b y) (pbA0 t b)
def pbQe (t : PT) (a b : W6) (y : Int) (r : W6 × Kz) : Bool := t.q 1 (pbDi t a r) (t.iv 1 (pbDo t b y)).1
def pbHq (t : PT) (a b : W6) (x y : Int) (r : W6 × Kz) : Bool := hoC t.k t.oq (pbK t a b) (pick 41 x) (pbOt t a r) (pbBl t b y)
def pbHv (t : PT) (a b : W6) (y : Int) (r : W6 × Kz) : Bool := eqKz (t.ok (pbK t a b).1 (pbOt t a r) (pbBl t b y)) (pbK t a b)
def pbFv (t : PT) (a b : W6) (y : Int) (r : W6 × Kz) : Bool := eqKz (t.m (t.gn 1).1 (t.ml 1 (pbDi t a r) (t.iv 1 (pbDo t b y)).1).1).1 (t.b 1).1
section
variable (t : PT) (a b : W6) (x y : Int) (r : W6 × Kz)
set_option maxRecDepth 1000000 in
theorem pb_A : valL [true] (pbT t a b x y r) = some ([true, true, true, true, true, pbC5 t a b, true, true, t.bq 1 && true, t.p 1 (pbW y) && true, pbQa t b y && true, true, true, true, true, true, !(eqKz r.2 (pbM t y)), true, true],
 [(pbX t a b x y, pbX t a b x y)], some (kBool.val true)) := by kernel_rfl
set_option maxRecDepth 1000000 in
theorem pb_B : valL [false, true, true] (pbT t a b x y r) = some ([true, true, true, true, true, pbC5 t a b, true, true, t.bq 1 && true, t.p 1 (pbW y) && true, pbQa t b y && true, true, true, true, true, true, !!(eqKz r.2 (pbM t y)), true,
 pbQb t a r && true, pbHq t a b x y r, pbQc t a r && true, pbQd t b y && true, t.p 1 (pbDo t b y) && true, (t.iv 1 (pbDo t b y)).2 != 0, true, pbHv t a b y r, true],
 [(pbX t a b x y, pbX t a b x y)], some (kBool.val true)) := by kernel_rfl
set_option maxRecDepth 1000000 in
theorem pb_C : valL [false, false, true] (pbT t a b x y r) = some ([true, true, true, true, true, pbC5 t a b, true, true, t.bq 1 && true, t.p 1 (pbW y) && true, pbQa t b y && true, true, true, true, true, true, !!(eqKz r.2 (pbM t y)), true,
 pbQb t a r && true, pbHq t a b x y r, pbQc t a r && true, pbQd t b y && true, t.p 1 (pbDo t b y) && true, !((t.iv 1 (pbDo t b y)).2 != 0), true, pbQe t a b y r && true, true, pbHv t a b y r, true],
 [(pbX t a b x y, pbX t a b x y)], some (kBool.val (pbFv t a b y r))) := by kernel_rfl
end
structure PbH (t : PT) (a b : W6) (x y : Int) (r : W6 × Kz) : Prop where
 c5 : pbC5 t a b = true
 bq : t.bq 1 = true
 p1 : t.p 1 (pbW y) = true
 qa : pbQa t b y = true
 go : eqKz r.2 (pbM t y) = true -> pbQb t a r = true /\ pbHq t a b x y r = true /\ pbQc t a r = true /\ pbQd t b y = true /\ t.p 1 (pbDo t b y) = true /\ pbHv t a b y r = true /\
  ((t.iv 1 (pbDo t b y)).2 = 0 -> pbQe t a b y r = true /\ pbFv t a b y r = true)
theorem and_t {b : Bool} (h : b = true) : (b && true) = true := by rw [h]; rfl
theorem same_t (X : XS) : ∀ p ∈ [(X, X)], p.1 = p.2 := fun p hp => by
 rcases List.mem_cons.1 hp with rfl | hp
 . rfl
 . cases hp
theorem pb_gives {t : PT} {a b : W6} {x y : Int} {r : W6 × Kz} (h : PbH t a b x y r) : Gives (pbT t a b x y r) (kBool.val true) := by
 cases he : eqKz r.2 (pbM t y) with
 | false =>
  refine givesL (pb_A t a b x y r) (same_t _) ?_
  refine all_cons rfl <| all_cons rfl <| all_cons rfl <| all_cons rfl <| all_cons rfl <| all_cons h.c5 <| all_cons rfl <| all_cons rfl <| all_cons (and_t h.bq) <| all_cons (and_t h.p1) <| all_cons (and_t h.qa) <|
   all_cons rfl <| all_cons rfl <| all_cons rfl <| all_cons rfl <| all_cons rfl <| all_cons ?_ <| all_cons rfl <| all_cons rfl all_nil
  rw [he]; rfl
 | true =>
  obtain ⟨q1, q2, q3, q4, q5, q6, q7⟩ := h.go he
  by_cases hi : (t.iv 1 (pbDo t b y)).2 = 0
  . obtain ⟨q8, q9⟩ := q7 hi
    have k := pb_C t a b x y r
    rw [q9] at k
    refine givesL k (same_t _) ?_
    refine all_cons rfl <| all_cons rfl <| all_cons rfl <| all_cons rfl <| all_cons rfl <| all_cons h.c5 <| all_cons rfl <| all_cons rfl <| all_cons (and_t h.bq) <| all_cons (and_t h.p1) <| all_cons (and_t h.qa) <|
     all_cons rfl <| all_cons rfl <| all_cons rfl <| all_cons rfl <| all_cons rfl <| all_cons ?_ <| all_cons rfl <| all_cons (and_t q1) <| all_cons q2 <| all_cons (and_t q3) <| all_cons (and_t q4) <| all_cons (and_t q5) <|
     all_cons ?_ <| all_cons rfl <| all_cons (and_t q8) <| all_cons rfl <| all_cons q6 <| all_cons rfl all_nil
    . rw [he]; rfl
    . rw [hi]; rfl
  . refine givesL (pb_B t a b x y r) (same_t _) ?_
    refine all_cons rfl <| all_cons rfl <| all_cons rfl <| all_cons rfl <| all_cons rfl <| all_cons h.c5 <| all_cons rfl <| all_cons rfl <| all_cons (and_t h.bq) <| all_cons (and_t h.p1) <| all_cons (and_t h.qa) <|
     all_cons rfl <| all_cons rfl <| all_cons rfl <| all_cons rfl <| all_cons rfl <| all_cons ?_ <| all_cons rfl <| all_cons (and_t q1) <| all_cons q2 <| all_cons (and_t q3) <| all_cons (and_t q4) <| all_cons (and_t q5) <|
     all_cons ?_ <| all_cons rfl <| all_cons q6 <| all_cons rfl all_nil
    . rw [he]; rfl
    . simpa using hi
end Go.Rq.Cl
