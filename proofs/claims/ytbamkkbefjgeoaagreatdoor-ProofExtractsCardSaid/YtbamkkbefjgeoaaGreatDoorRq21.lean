import Derived.Test.YtbamkkbefjgeoaaGreatDoorRq20
import Derived.Test.YtbamkkbefjgeoaaGreatDoorRq05
import Derived.Test.YtbamkkbefjgeoaaGreatDoorRq19
namespace Go.Rq
open Go Go.Proofs
def envX (eqs : List (TypeId × List Nat)) (ps : PureTab) : Env := ⟨lookP ps, fun _ => none, lookE eqs, true, true, [], [], fun _ => none, none, fun _ => none, false, [], 2⟩
theorem envX_ok {P : Program} {eqs : List (TypeId × List Nat)} {ps : PureTab} (he : EqsOk P eqs) (hp : TabPOk P ps) : EnvOk P (envX eqs ps) :=
 ⟨fun _ _ h => he _ (lookE_mem h), fun _ _ h => hp _ (lookP_mem h), fun _ _ h => by simp [envX] at h, fun _ _ h => by simp [envX] at h, fun _ _ h => by simp [envX] at h, by show 1 <= 2; omega⟩
structure DV where
 ln : W6 -> Int
 bt : W6 -> Int -> Int
 sh : W6 -> W6
 cm : W6 -> W6 -> Int
 su : W6 -> W6 -> W6 × Bool
def dvT (t : DV) : PureTab := [(74, fn1 c6.agg (kInt .i64) t.ln), (76, fn2 c6.agg (kInt .i64) (kInt .i64) t.bt), (75, fn2 c6.agg (kAt .i64 1) c6.agg (fun a _ => t.sh a)),
 (45, fn2 c6.agg c6.agg (kInt .i64) t.cm), (77, fn2 c6.agg c6.agg kWB t.su)]
def dvE (t : DV) : Env := envX eqsT (dvT t)
def dvK : Keep := ⟨[2, 3, 4, 5, 6, 7, 8, 9], [0, 2, 4, 6, 16, 18], 26⟩
@[irreducible] noncomputable def dvX (t : DV) (a b : W6) : XS := (entryOf PR (dvE t) [13, 20, 38, 43] (fun _ => none) 10 32 [c6.agg.enc a, c6.agg.enc orderW] [] 0 0 dvK).setB 2 (c6.enc b)
@[irreducible] noncomputable def dvI (t : DV) (a b : W6) (d : Int × (W6 × W6)) : XS := (((dvX t a b).setT 9 (.v (.int .i64 d.1))).setB 16 (c6.enc d.2.1)).setB 18 (c6.enc d.2.2)
@[irreducible] noncomputable def dvC : Code := roundOf PR 32 0
def dvOff (z : Int) : Nat := 0 + (quo64 z).toNat * 1
def dvCond (z : Int) : Bool := Nat.blt (dvOff z) 6 && (decide (0 <= quo64 z /\ quo64 z < 6) && (decide (0 <= Int.tmod z 64) && (decide (dvOff z < 6) && (decide (0 <= quo64 z /\ quo64 z < 6) && true))))
def dvBit (z : Int) (o : W6) : BitVec 64 := [o.w0, o.w1, o.w2, o.w3, o.w4, o.w5].getD (dvOff z) 0#64 ||| (1#64 <<< Nat.min (Int.tmod z 64).toNat 64)
def dvPut (z : Int) (o : W6) (u : BitVec 64) : W6 := ⟨bif Nat.beq (dvOff z) 0 then u else o.w0, bif Nat.beq (dvOff z) 1 then u else o.w1, bif Nat.beq (dvOff z) 2 then u else o.w2, bif Nat.beq (dvOff z) 3 then u else o.w3, bif Nat.beq (dvOff z) 4 then u else o.w4, bif Nat.beq (dvOff z) 5 then u else o.w5⟩
def dvNext (t : DV) (a : W6) (z : Int) (l : W6) : W6 := ⟨(t.sh l).w0 ||| BitVec.ofInt 64 (t.bt a z), (t.sh l).w1, (t.sh l).w2, (t.sh l).w3, (t.sh l).w4, (t.sh l).w5⟩
def dvTop (l : W6) : Bool := l.w5 >>> 63 == 1#64
set_option maxRecDepth 1000000 in
theorem dv_round (t : DV) (a b : W6) (z : Int) (o l : W6) : Tree.but [6] 0 (roundT PR (dvE t) [13, 20, 38, 43] (fun _ => none) 10 dvK dvK dvK dvC (dvI t a b (z, (o, l)))) =
 .br (decide (z >= 0))
  (.br (dvTop l)
   (.need (dvCond z) (.leaf (.normal, dvI t a b (IntKind.i64.wrap (z - 1), (dvPut z o (dvBit z o), (t.su (dvNext t a z l) b).1)))))
   (.br (decide (t.cm (dvNext t a z l) b >= 0))
    (.need (dvCond z) (.leaf (.normal, dvI t a b (IntKind.i64.wrap (z - 1), (dvPut z o (dvBit z o), (t.su (dvNext t a z l) b).1)))))
    (.need true (.leaf (.normal, dvI t a b (IntKind.i64.wrap (z - 1), (o, dvNext t a z l)))))))
  (.leaf (.exit 0, dvI t a b (z, (o, l)))) := by kernel_rfl
set_option maxRecDepth 1000000 in
theorem dv_head (t : DV) (a b : W6) : dvX t a b = dvI t a b (IntKind.i64.wrap (t.ln a - 1), (zeroW, zeroW)) := by kernel_rfl
theorem dv_blk : blkAll 0 (bodyOf PR 32) = [.loop dvC] := by kernel_rfl
@[irreducible] noncomputable def dvB (t : DV) (a b q r : W6) : BEnt := ⟨dvK.tm, dvK.ids, dvK.n, dvX t a b, .leaf (.normal, dvI t a b (-1, (q, r)))⟩
theorem dvB_n (t : DV) (a b q r : W6) : (dvB t a b q r).n = 26 /\ (dvB t a b q r).pre = dvX t a b /\ (dvB t a b q r).post = .leaf (.normal, dvI t a b (-1, (q, r))) := by
 unfold dvB
 exact ⟨rfl, rfl, rfl⟩
def kWWE : Cod (W6 × (W6 × Int)) where
 enc x := .tup [c6.agg.enc x.1, c6.agg.enc x.2.1, .v (.int .i64 x.2.2)]
 dec _ := none
 val x := .tuple #[c6.agg.val x.1, c6.agg.val x.2.1, .int .i64 x.2.2]
 h1 x := by rfl
 h2 ρ a v x h r := by cases h
set_option maxRecDepth 1000000 in
theorem dv_run (t : DV) (a b q r : W6) : (afunR PR (dvE t) [13, 20, 38, 43] (tabOf [(0, dvB t a b q r)]) 10 32 [c6.agg.enc a, c6.agg.enc b]).strict =
 .br (eqW b zeroW) (.leaf (kWWE.enc (zeroW, (zeroW, 2)))) (.same (dvX t a b) (dvX t a b) (.leaf (kWWE.enc (q, (r, 0))))) := by kernel_rfl
def dvO : DV := ⟨lenI, bitI, shl1, cmW, wSubW⟩
theorem dvT_eq : [(74, fn1 c6.agg (kInt .i64) lenI), (76, fn2 c6.agg (kInt .i64) (kInt .i64) bitI), (75, fn2 c6.agg (kAt .i64 1) c6.agg (fun a _ => shl1 a)),
 (45, fn2 c6.agg c6.agg (kInt .i64) fun a b => chainV (cmpL a b) 0), (77, fn2 c6.agg c6.agg kWB wSubW)] = dvT dvO := by kernel_rfl
theorem dvT_ok : TabPOk PR (dvT dvO) := Eq.subst (motive := TabPOk PR) dvT_eq (TabPOk.cons len_ok (TabPOk.cons bit_ok (TabPOk.cons shl1_ok (TabPOk.cons cmp_ok (TabPOk.cons wsub_ok TabPOk.nil)))))
theorem dvE_ok : EnvOk PR (dvE dvO) := envX_ok eqsT_ok dvT_ok
theorem dv_codeOk : codeOk (dvE dvO) dvC = true := by kernel_rfl
def dvStep (t : DV) (a b : W6) (z : Int) (x : W6 × W6) : W6 × W6 :=
 bif dvTop x.2 then (dvPut z x.1 (dvBit z x.1), (t.su (dvNext t a z x.2) b).1) else
 bif decide (t.cm (dvNext t a z x.2) b >= 0) then (dvPut z x.1 (dvBit z x.1), (t.su (dvNext t a z x.2) b).1) else (x.1, dvNext t a z x.2)
def dvG (t : DV) (a b : W6) : Nat -> W6 × W6 -> W6 × W6
 | 0, x => x
 | k + 1, x => dvG t a b k (dvStep t a b (k : Int) x)
theorem dvCond_ok {z : Int} (h0 : 0 <= z) (h1 : z <= 383) : dvCond z = true := by
 have hq := quo64_eq h0 h1
 have hm : Int.tmod z 64 = z % 64 := Int.tmod_eq_emod_of_nonneg h0
 have e : dvOff z < 6 := by unfold dvOff; rw [hq]; omega
 have e2 : Nat.blt (dvOff z) 6 = true := Nat.ble_eq_true_of_le e
 unfold dvCond
 rw [e2, hq, hm]
 have e3 : (0 : Int) <= z / 64 /\ z / 64 < 6 := by omega
 have e4 : (0 : Int) <= z % 64 := by omega
 rw [decide_eq_true e3, decide_eq_true e4, decide_eq_true e]
 rfl
theorem dv_law (t : DV) (a b : W6) (rt : XS -> Tree (AExit × XS)) (I : Int × (W6 × W6) -> XS) (hr : ∀ (z : Int) (o l : W6), Tree.but [6] 0 (rt (I (z, (o, l)))) =
 .br (decide (z >= 0))
  (.br (dvTop l)
   (.need (dvCond z) (.leaf (.normal, I (IntKind.i64.wrap (z - 1), (dvPut z o (dvBit z o), (t.su (dvNext t a z l) b).1)))))
   (.br (decide (t.cm (dvNext t a z l) b >= 0))
    (.need (dvCond z) (.leaf (.normal, I (IntKind.i64.wrap (z - 1), (dvPut z o (dvBit z o), (t.su (dvNext t a z l) b).1)))))
    (.need true (.leaf (.normal, I (IntKind.i64.wrap (z - 1), (o, dvNext t a z l)))))))
  (.leaf (.exit 0, I (z, (o, l))))) {R : W6 × W6} {Q : AExit -> XS -> Prop} (hK : Q .normal (I (-1, R))) :
 ∀ d : Int × (W6 × W6), (-1 <= d.1 /\ d.1 <= 383 /\ dvG t a b (d.1 + 1).toNat d.2 = R) -> (rt (I d)).holds (fun r => match r.1 with
  | .normal => ∃ j : Int × (W6 × W6), (-1 <= j.1 /\ j.1 <= 383 /\ dvG t a b (j.1 + 1).toNat j.2 = R) /\ (j.1 + 1).toNat < (d.1 + 1).toNat /\ r.2 = I j
  | .exit q => if q = 0 then Q .normal r.2 else Q (.exit q) r.2
  | .ret => Q .ret r.2) := by
 rintro ⟨z, o, l⟩ ⟨h0, h1, h2⟩
 apply Tree.holds_but (l := [6]) (i := 0)
 rw [hr]
 refine ⟨fun hz => ?_, fun hz => ?_⟩
 . have hz : 0 <= z := by simpa using hz
   have hc : dvCond z = true := dvCond_ok hz h1
   have hw : IntKind.i64.wrap (z - 1) = z - 1 := wrap_id (by omega) (by omega)
   have hk : (z + 1).toNat = z.toNat + 1 := by omega
   simp only at h2
   rw [hk] at h2
   simp only [dvG] at h2
   rw [show ((z.toNat : Nat) : Int) = z by omega] at h2
   have hk' : (z - 1 + 1).toNat = z.toNat := by omega
   have go : ∀ x : W6 × W6, dvStep t a b z (o, l) = x -> ∃ j : Int × (W6 × W6), (-1 <= j.1 /\ j.1 <= 383 /\ dvG t a b (j.1 + 1).toNat j.2 = R) /\ (j.1 + 1).toNat < (z + 1).toNat /\ I (IntKind.i64.wrap (z - 1), x) = I j := by
    intro x hx
    refine ⟨(z - 1, x), ⟨by simp only; omega, by simp only; omega, ?_⟩, ?_, by rw [hw]⟩
    . simp only [hk']
      rw [<- hx]; exact h2
    . show (z - 1 + 1).toNat < (z + 1).toNat
      omega
   refine ⟨fun ht => ⟨hc, go _ ?_⟩, fun ht => ⟨fun hd => ⟨hc, go _ ?_⟩, fun hd => ⟨rfl, go _ ?_⟩⟩⟩
   . unfold dvStep; simp only [ht, cond_true]
   . unfold dvStep; simp only [ht, hd, cond_true, cond_false]
   . unfold dvStep; simp only [ht, hd, cond_false]
 . have hz : z = -1 := by
    have : ¬ 0 <= z := by simpa using hz
    omega
   subst hz
   have h2 : (o, l) = R := h2
   show (if (0 : Nat) = 0 then Q .normal (I (-1, (o, l))) else Q (.exit 0) (I (-1, (o, l))))
   rw [if_pos rfl, h2]
   exact hK
def dvR (a b : W6) : W6 × W6 := dvG dvO a b (lenI a).toNat (zeroW, zeroW)
theorem dv_start (a b : W6) : ∀ d : Int × (W6 × W6), d = (IntKind.i64.wrap (dvO.ln a - 1), (zeroW, zeroW)) -> -1 <= d.1 /\ d.1 <= 383 /\ dvG dvO a b (d.1 + 1).toNat d.2 = dvR a b := by
 rintro d rfl
 have hl := lenI_le a
 have hw : IntKind.i64.wrap (dvO.ln a - 1) = lenI a - 1 := wrap_id (n := lenI a - 1) (by omega) (by omega)
 rw [hw]
 refine ⟨?_, ?_, ?_⟩
 . show -1 <= lenI a - 1
   omega
 . show lenI a - 1 <= 383
   omega
 . show dvG dvO a b (lenI a - 1 + 1).toNat _ = dvG dvO a b (lenI a).toNat _
   rw [show lenI a - 1 + 1 = lenI a by omega]
theorem dv_loop (a b : W6) {Fr0 : Fr} {ds : List Deferred} {Q : AExit -> XS -> Prop} (hK : Q .normal (dvI dvO a b (-1, dvR a b))) :
 Tri PR Fr0 ds 0 (.block 0 (.loop dvC)) (dvX dvO a b) Q :=
 Eq.subst (motive := fun y => Tri PR Fr0 ds 0 (.block 0 (.loop dvC)) y Q) (dv_head dvO a b).symm <| blockLoop (m := 0) dvE_ok mixed (sym := [13, 20, 38, 43]) (tab := fun _ => none) (lf := 10) (k := dvK) (kx := dvK) (kr := dvK) (Nat.zero_le _) (Nat.zero_le _) (Nat.zero_le _) dv_codeOk (tabOk_none _)
  (dvI dvO a b) (fun d => -1 <= d.1 /\ d.1 <= 383 /\ dvG dvO a b (d.1 + 1).toNat d.2 = dvR a b) (fun d => (d.1 + 1).toNat) _ (dv_start a b _ rfl)
  (dv_law dvO a b _ (dvI dvO a b) (dv_round dvO a b) hK)
theorem dv_ctx (a b : W6) : Ctx PR (dvE dvO) [13, 20, 38, 43] (tabOf [(0, dvB dvO a b (dvR a b).1 (dvR a b).2)]) 10 32 :=
 ctx_of dvE_ok mixed (fn := Tryz.f32) (by kernel_rfl) (by kernel_rfl) (by kernel_rfl)
  (tabOk_one (Nat.zero_le _) dv_blk fun Fr0 ds Q h => by
   obtain ⟨-, h2, h3⟩ := dvB_n dvO a b (dvR a b).1 (dvR a b).2
   rw [h3] at h
   rw [h2]
   exact dv_loop a b h)
def divF (a b : W6) : W6 × (W6 × Int) := bif eqW b zeroW then (zeroW, (zeroW, 2)) else ((dvR a b).1, ((dvR a b).2, 0))
theorem div_tree {x : XS} (c : Bool) (u v w : W6 × (W6 × Int)) (hw : w = bif c then u else v) : (Tree.br c (.leaf (kWWE.enc u)) (.same x x (.leaf (kWWE.enc v)))).holds (fun q => flat q = some (kWWE.val w)) := by
 subst hw
 cases c with
 | true => exact ⟨fun _ => kWWE.h1 u, fun h => by cases h⟩
 | false => exact ⟨fun h => (by cases h), fun _ => ⟨rfl, kWWE.h1 v⟩⟩
theorem gives_div {t : Tree AV} {x : XS} {c : Bool} {u v w : W6 × (W6 × Int)} (e : t.strict = .br c (.leaf (kWWE.enc u)) (.same x x (.leaf (kWWE.enc v)))) (hw : w = bif c then u else v) : Gives t (kWWE.val w) :=
 ⟨Tree.holds_strict (by rw [e]; exact div_tree c u v w hw)⟩
theorem div_gives (a b : W6) : Gives (afunR PR (dvE dvO) [13, 20, 38, 43] (tabOf [(0, dvB dvO a b (dvR a b).1 (dvR a b).2)]) 10 32 [c6.agg.enc a, c6.agg.enc b]) (kWWE.val (divF a b)) := by
 unfold divF
 exact gives_div (dv_run dvO a b (dvR a b).1 (dvR a b).2) rfl
theorem div_ok : CallOk PR 32 (fn2 c6.agg c6.agg kWWE divF) :=
 .inl ⟨entersB (by kernel_rfl), pure2X fun a b => .of (dv_ctx a b) (div_gives a b)⟩
theorem or_low (m : Nat) : (2 * m ||| 1) = 2 * m + 1 := by
 have h := Nat.shiftLeft_add_eq_or_of_lt (i := 1) (b := 1) (by decide) m
 rw [Nat.shiftLeft_eq, show m * 2 ^ 1 = 2 * m by omega] at h
 exact h.symm
theorem or_bit (x : BitVec 64) {c : Int} (hc : c = 0 \/ c = 1) : ((x <<< 1) ||| BitVec.ofInt 64 c).toNat = (x <<< 1).toNat + c.toNat := by
 have hx : (x <<< 1).toNat = 2 * (x.toNat % 9223372036854775808) := by
  rw [BitVec.toNat_shiftLeft, Nat.shiftLeft_eq]
  omega
 rcases hc with rfl | rfl
 . have e : BitVec.ofInt 64 0 = 0#64 := rfl
   rw [e, BitVec.or_zero]
   rfl
 . have e : BitVec.ofInt 64 1 = 1#64 := rfl
   rw [e, BitVec.toNat_or, hx]
   exact or_low _
theorem bitI_two (a : W6) (z : Int) : bitI a z = 0 \/ bitI a z = 1 := by
 unfold bitI
 cases decide (z < 0) with
 | true => exact .inl rfl
 | false =>
  cases decide (z >= 384) with
  | true => exact .inl rfl
  | false =>
   cases a.bit z.toNat with
   | true => exact .inr rfl
   | false => exact .inl rfl
theorem next_nat (a : W6) (z : Int) {l : W6} (h : l.val < rN) : (dvNext dvO a z l).val = 2 * l.val + (bitI a z).toNat := by
 have h1 := shl1_nat l h
 have h2 := or_bit l.w0 (bitI_two a z)
 have e : (dvNext dvO a z l).val = (shl1 l).val + (bitI a z).toNat := by
  show W6.val ⟨(shl1 l).w0 ||| BitVec.ofInt 64 (bitI a z), (shl1 l).w1, (shl1 l).w2, (shl1 l).w3, (shl1 l).w4, (shl1 l).w5⟩ = _
  have h3 : ((shl1 l).w0 ||| BitVec.ofInt 64 (bitI a z)).toNat = (shl1 l).w0.toNat + (bitI a z).toNat := h2
  unfold W6.val
  dsimp only
  rw [h3]
  omega
 rw [e, h1]
theorem top_low {l : W6} (h : l.val < rN) : dvTop l = false := by
 have h5 : l.w5.toNat = 0 := by
  unfold W6.val rN at h
  omega
 have e : l.w5 = 0#64 := BitVec.eq_of_toNat_eq h5
 unfold dvTop
 rw [e]; rfl
theorem sub_nat {x b : W6} (h : b.val <= x.val) : (wSubW x b).1.val = x.val - b.val := by
 have h1 := subs_nat x b
 have h2 := W6.val_lt (subs x b).1
 have h3 := W6.val_lt x
 show (subs x b).1.val = _
 cases hb : (subs x b).2 with
 | false =>
  rw [hb] at h1
  have : b2n false = 0 := rfl
  rw [this] at h1
  omega
 | true =>
  rw [hb] at h1
  have : b2n true = 1 := rfl
  rw [this] at h1
  omega
theorem step_lt {a b : W6} (hb : b.val <= rN) (z : Int) {x : W6 × W6} (h : x.2.val < b.val) : (dvStep dvO a b z x).2.val < b.val := by
 have hl : x.2.val < rN := by omega
 have h1 := next_nat a z hl
 have h2 := cmW_nat (dvNext dvO a z x.2) b
 have h3 : (bitI a z).toNat <= 1 := by rcases bitI_two a z with e | e <;> rw [e] <;> decide
 unfold dvStep
 rw [top_low hl, cond_false]
 by_cases hd : dvO.cm (dvNext dvO a z x.2) b >= 0
 . rw [decide_eq_true hd, cond_true]
   have hd : cmW (dvNext dvO a z x.2) b >= 0 := hd
   have h4 : b.val <= (dvNext dvO a z x.2).val := by
    have := mt h2.2 (by omega)
    omega
   have h5 := sub_nat h4
   show (wSubW (dvNext dvO a z x.2) b).1.val < b.val
   omega
 . rw [decide_eq_false hd, cond_false]
   have hd : ¬ cmW (dvNext dvO a z x.2) b >= 0 := hd
   have h4 := h2.1 (by omega)
   exact h4
theorem dvG_lt {a b : W6} (hb : b.val <= rN) : ∀ (k : Nat) {x : W6 × W6}, x.2.val < b.val -> (dvG dvO a b k x).2.val < b.val
 | 0, _, h => h
 | k + 1, _, h => dvG_lt hb k (step_lt hb _ h)
theorem div_left {a b : W6} (hb : b.val <= rN) (h0 : 0 < b.val) : (divF a b).2.1.val < b.val := by
 have e : eqW b zeroW = false := by
  rw [Bool.eq_false_iff]
  intro h
  rw [(eqW_iff _ _).1 h, zero_val] at h0
  omega
 unfold divF
 rw [e, cond_false]
 exact dvG_lt hb _ (by rw [zero_val]; exact h0)
end Go.Rq

namespace Go.Rq.Sm
open Go Go.Proofs Go.Rq
noncomputable def lgnE : Env := envOf eqsT [(79, lofG)]
def lgnF : Sx -> Lp × Int
 | .li => ((9723#64, 164643#64, false), 0)
 | .mi => ((613740293506734924#64, 666621259561003659#64, false), 0)
 | _ => (zLx, 2)
theorem lgn_run (s : Sx) : valS (afunR PR lgnE [] (fun _ => none) 10 34 [kSx.enc s]) = some (kLE.val (lgnF s)) := by cases s <;> kernel_rfl
theorem lgn_ctx : Ctx PR lgnE [] (fun _ => none) 10 34 :=
 ctxB (envOf_ok eqsT_ok (TabPOk.cons lof_ok TabPOk.nil)) mixed (by kernel_rfl)
theorem lgn_ok : CallOk PR 34 (fn1 kSx kLE lgnF) :=
 .inl ⟨entersB (by kernel_rfl), pure1 lgn_ctx fun s => givesV (lgn_run s)⟩
noncomputable def sgnE (G : Px) (L : Sx -> Lp × Int) : Env := envOf eqsT [(33, fn0 cPx.agg G), (34, fn1 kSx kLE L)]
def sgnF (G : Px) : Sx -> Kx × Int
 | .gr => ((.gr, G, zLx), 0)
 | .li => ((.li, zPx, (9723#64, 164643#64, false)), 0)
 | .mi => ((.mi, zPx, (613740293506734924#64, 666621259561003659#64, false)), 0)
 | _ => (zKx, 2)
theorem sgn_run (G : Px) (s : Sx) : valS (afunR PR (sgnE G lgnF) [] (fun _ => none) 10 8 [kSx.enc s]) = some (kKE.val (sgnF G s)) := by cases s <;> kernel_rfl
theorem sgn_ctx {G : Px} (h : CallOk PR 33 (fn0 cPx.agg G)) : Ctx PR (sgnE G lgnF) [] (fun _ => none) 10 8 :=
 ctxB (envOf_ok eqsT_ok (TabPOk.cons h (TabPOk.cons lgn_ok TabPOk.nil))) mixed (by kernel_rfl)
theorem sgn_okx {G : Px} (h : CallOk PR 33 (fn0 cPx.agg G)) : CallOk PR 8 (fn1 kSx kKE (sgnF G)) :=
 .inl ⟨entersB (by kernel_rfl), pure1 (sgn_ctx h) fun s => givesV (sgn_run G s)⟩
theorem fn1B {α β β' : Type} {A : Cod α} {B : Cod β} {B' : Cod β'} {F : α -> β} {ψ : β -> β'} (hB : ∀ y, B.enc y = B'.enc (ψ y)) : fn1 A B F = fn1 A B' (fun a => ψ (F a)) := by
 funext args
 unfold fn1
 split
 . rename_i a
   cases A.dec a with
   | none => rfl
   | some x => simp only [hB]
 . rfl
def sgnX (G : Px) (i : Int) : Kz × Int := toE (sgnF G (Sx.of i))
theorem sgn_ok {G : Px} (h : CallOk PR 33 (fn0 cPx.agg G)) : CallOk PR 8 (fn1 (kInt .i64) kKzE (sgnX G)) := by
 have k := sgn_okx h
 rw [fnS1, fn1B (B' := kKzE) (ψ := toE) fun y => rfl] at k
 exact k
def pfiF (K : Kz -> Bool) (O : Int -> W6 × Int) (C : W6 -> W6 -> Int) (T : Kz -> W6 -> Kz) (A : ZZ) (base key begin : Kz) (c z : W6) : Bool × Int :=
 (bif pk3 K O C base key begin c z != 0 then false else eqKz (T base z) (A begin (T key c)).1, bif pk3 K O C base key begin c z != 0 then pk3 K O C base key begin c z else 0)
set_option maxRecDepth 100000 in
theorem pfi_val (K : Kz -> Bool) (O : Int -> W6 × Int) (C : W6 -> W6 -> Int) (T : Kz -> W6 -> Kz) (A : ZZ) (base key begin : Kz) (c z : W6) :
 valS (afunR PR (pfiE K O C T A) [22] (fun _ => none) 20 12 [cKz.agg.enc base, cKz.agg.enc key, cKz.agg.enc begin, c6.agg.enc c, c6.agg.enc z]) = some (kBE.val (pfiF K O C T A base key begin c z)) := by kernel_rfl
theorem pfiB_ok {K : Kz -> Bool} {O : Int -> W6 × Int} {C : W6 -> W6 -> Int} {T : Kz -> W6 -> Kz} {A : ZZ} (hY : HeapOk PR 43 (pckV K O C)) (hT : CallOk PR 49 (fn2 cKz.agg c6.agg cKz.agg T))
 (hA : CallOk PR 50 (fn2 cKz.agg cKz.agg kKzE A)) : CallOk PR 12 (fn5 cKz.agg cKz.agg cKz.agg c6.agg c6.agg kBE (pfiF K O C T A)) :=
 .inl ⟨entersB (by kernel_rfl),
  pure5 (ctxB (envA_ok eqsT_ok (TabPOk.cons (pft_ok hT hA) TabPOk.nil) (TabHOk.cons pck_ent hY TabHOk.nil) TabLOk.nil TabAOk.nil) mixed (by kernel_rfl))
   fun base key begin c z => givesV (pfi_val K O C T A base key begin c z)⟩
abbrev DF : Type := W6 -> W6 -> W6 × (W6 × Int)
def scE (O : Int -> W6 × Int) (D : DF) : Env := envD eqsT [(31, fn1 (kInt .i64) kWE O), (32, fn2 c6.agg c6.agg kWWE D)] [] [] [] [] false []
noncomputable def scG (O : Int -> W6 × Int) (D : DF) : List AV -> AH -> Nat -> Option (Bool × AV × AH) := deepG PR (scE O D) [] 30 7 4096 true
theorem sc_ent : Enters PR 7 := entersB (by kernel_rfl)
theorem sc_ok {O : Int -> W6 × Int} {D : DF} (hO : CallOk PR 31 (fn1 (kInt .i64) kWE O)) (hD : CallOk PR 32 (fn2 c6.agg c6.agg kWWE D)) : ActOk PR 4096 7 (scG O D) :=
 deep_ok (ctxB (envD_ok eqsT_ok (TabPOk.cons hO (TabPOk.cons hD TabPOk.nil)) TabHOk.nil TabLOk.nil TabDOk.nil) mixed (by kernel_rfl))
def fn6 {α γ δ ε ζ η β : Type} (A : Cod α) (C : Cod γ) (D : Cod δ) (G : Cod ε) (H : Cod ζ) (J : Cod η) (B : Cod β) (F : α -> γ -> δ -> ε -> ζ -> η -> β) : List AV -> Option (Bool × AV)
 | [a, c, d, g, h, j] => match A.dec a, C.dec c, D.dec d, G.dec g, H.dec h, J.dec j with
  | some x, some y, some z, some u, some v, some w => some (true, B.enc (F x y z u v w))
  | _, _, _, _, _, _ => none
 | _ => none
theorem pure6 {P : Program} {E : Env} {sym : List Tmp} {tab : BTab} {lf f : Nat} {α β γ δ ε ζ η : Type} {A : Cod α} {B : Cod β} {C : Cod γ} {D : Cod δ} {G : Cod ε} {H : Cod ζ} {J : Cod η} (X : Ctx P E sym tab lf f) {F : α -> γ -> δ -> ε -> ζ -> η -> β}
 (h : ∀ x y z u v w, Gives (afunR P E sym tab lf f [A.enc x, C.enc y, D.enc z, G.enc u, H.enc v, J.enc w]) (B.val (F x y z u v w))) : PureOk P f (fn6 A C D G H J B F) := by
 refine pure_core X fun args r hg => ?_
 unfold fn6 at hg
 split at hg
 . rename_i a c d g q s
   split at hg
   . rename_i x y z u v w hx hy hz hu hv hw
     simp only [Option.some.injEq, Prod.mk.injEq, true_and] at hg
     subst hg
     refine ⟨[A.enc x, C.enc y, D.enc z, G.enc u, H.enc v, J.enc w], [A.val x, C.val y, D.val z, G.val u, H.val v, J.val w], fun ρ xs hxs => ?_, by simp [flatL, A.h1, C.h1, D.h1, G.h1, H.h1, J.h1], _, B.h1 _, (h x y z u v w).out⟩
     obtain ⟨v1, l1, rfl, h1, k1⟩ := hxs.uncons
     obtain ⟨v2, l2, rfl, h2, k2⟩ := k1.uncons
     obtain ⟨v3, l3, rfl, h3, k3⟩ := k2.uncons
     obtain ⟨v4, l4, rfl, h4, k4⟩ := k3.uncons
     obtain ⟨v5, l5, rfl, h5, k5⟩ := k4.uncons
     obtain ⟨v6, l6, rfl, h6, k6⟩ := k5.uncons
     rw [k6.unnil, A.h2 ρ _ _ _ hx h1, C.h2 ρ _ _ _ hy h2, D.h2 ρ _ _ _ hz h3, G.h2 ρ _ _ _ hu h4, H.h2 ρ _ _ _ hv h5, J.h2 ρ _ _ _ hw h6]
   . cases hg
 . cases hg
abbrev F5Z : Type := Kz -> Kz -> Kz -> W6 -> W6 -> Bool × Int
section
variable {K : Kz -> Bool} {O : Int -> W6 × Int} {C : W6 -> W6 -> Int} {M : ZM} {A : ZZ} {N : Kz -> Kz × Int} {s : Int} {r : Nat} {φ : Nat -> Kz}
end
section
variable {K : Kz -> Bool} {O : Int -> W6 × Int} {C : W6 -> W6 -> Int} {M : ZM} {A : ZZ} {N : Kz -> Kz × Int} {GN : Int -> Kz × Int} {D : DF}
def SuRk (r : Nat) (K : Kz -> Bool) (O : Int -> W6 × Int) (C : W6 -> W6 -> Int) (M : ZM) (A : ZZ) (N : Kz -> Kz × Int) (GN : Int -> Kz × Int) (D : DF) (s : Int) : Prop :=
 ∃ φ : Nat -> Kz, Cy K O C M A N s r φ /\ (GN s).1 = φ 1 /\ ∀ x, (D x (O s).1).2.1.val < r
end
def inX (p : Px) : Bool := inGroup1 (toAp p)
def adX (p q : Px) : Px × Int := ofE (addP1 (toAp p) (toAp q))
def muX (p : Px) (n : W6) : Px × Int := ofE (sumP1W (toAp p) n)
def neX (p : Px) : Px × Int := ofE (negP1 (toAp p))
theorem inX_ok : CallOk PR 109 (fn1 cPx.agg kBool inX) := in_to isinp1_ok
theorem adX_ok : CallOk PR 94 (fn2 cPx.agg cPx.agg kPE adX) := ad_to addp1_ok
theorem muX_ok : CallOk PR 36 (fn2 cPx.agg c6.agg kPE muX) := mu_to mulp1_ok
theorem gn_to {G : Ap W6} (h : CallOk PR 33 (fn0 (cAp c6).agg G)) : CallOk PR 33 (fn0 cPx.agg (ofAp G)) := h
theorem gnX_ok : CallOk PR 33 (fn0 cPx.agg (ofAp gen1P)) := gn_to gen1_ok
noncomputable abbrev KZ : Kz -> Bool := fun a => kchX inX (toKx a)
noncomputable abbrev OZ : Int -> W6 × Int := fun i => sorF ordX (Sx.of i)
noncomputable abbrev MZ : ZM := kmuX inX muX
noncomputable abbrev AZ : ZZ := kadX inX adX
noncomputable abbrev NZ : Kz -> Kz × Int := kneX inX neX
noncomputable abbrev GZ : Int -> Kz × Int := sgnX (ofAp gen1P)
theorem MZ_ok : CallOk PR 9 (fn2 cKz.agg c6.agg kKzE MZ) := kmuX_ok inX_ok muX_ok
theorem AZ_ok : CallOk PR 50 (fn2 cKz.agg cKz.agg kKzE AZ) := kadX_ok inX_ok adX_ok
theorem GZ_ok : CallOk PR 8 (fn1 (kInt .i64) kKzE GZ) := sgn_ok gnX_ok
theorem OZ_ok : CallOk PR 31 (fn1 (kInt .i64) kWE OZ) := sor_ok
theorem FIZ_ok : CallOk PR 12 (fn5 cKz.agg cKz.agg cKz.agg c6.agg c6.agg kBE (pfiF KZ OZ cmpX (fun a n => (MZ a n).1) AZ)) :=
 pfiB_ok (pck_ok (kchZ_ok inX_ok) sor_ok cmp_ok) (ptm_ok MZ_ok) AZ_ok
theorem scZ_ok : ActOk PR 4096 7 (scG OZ divF) := sc_ok OZ_ok div_ok
theorem div_in {o : W6} {r : Nat} (h : o.val = r) (hr : r <= rN) (h0 : 0 < r) (x : W6) : (divF x o).2.1.val < r := by
 have k := div_left (a := x) (b := o) (by rw [h]; exact hr) (by rw [h]; exact h0)
 rw [h] at k
 exact k
theorem suRn_rN (s : Su) : suRn s <= rN := by cases s <;> (unfold suRn rN; decide)
theorem su_gr {I : Ap W6 -> Bool} {A : Ap W6 -> Ap W6 -> Ap W6 × Int} {M : Ap W6 -> W6 -> Ap W6 × Int} {N : Ap W6 -> Ap W6 × Int} {g : Ap W6} (h : ∃ ν, GrOk I A M N g ν) :
 SuRk rN (fun a => kchX (fun p => I (toAp p)) (toKx a)) OZ cmpX (kmuX (fun p => I (toAp p)) (fun p n => ofE (M (toAp p) n))) (kadX (fun p => I (toAp p)) (fun p q => ofE (A (toAp p) (toAp q))))
  (kneX (fun p => I (toAp p)) (fun p => ofE (N (toAp p)))) (sgnX (ofAp g)) divF 0 := by
 obtain ⟨ν, hν⟩ := h
 refine ⟨phG ν, cy_gr hν, ?_, fun x => ?_⟩
 . unfold phG
   rw [hν.gen]
   rfl
 . have e : (OZ 0).1 = rWx := rfl
   rw [e]
   exact div_in rWx_val (Nat.le_refl _) rN_pos x
theorem su_lit (I : Px -> Bool) (A1 : Px -> Px -> Px × Int) (M1 : Px -> W6 -> Px × Int) (N1 : Px -> Px × Int) (G : Px) (s : Su) :
 SuRk (suRn s) (fun a => kchX I (toKx a)) OZ cmpX (kmuX I M1) (kadX I A1) (kneX I N1) (sgnX G) divF (suSx s).int := by
 refine ⟨phS s, cy_lit I A1 M1 N1 s, ?_, fun x => ?_⟩
 . have e : wp (nu s 1) = (suX s, suY s, false) := by
    unfold nu
    rw [Cw.nsm_one, genA_wp]
   unfold phS
   rw [e]
   cases s <;> rfl
 . have e : (OZ (suSx s).int).1 = ordX (suSx s) := by
    show (sorF ordX (Sx.of (suSx s).int)).1 = _
    rw [Sx.of_int]; cases s <;> rfl
   rw [e]
   exact div_in (ordX_val s) (suRn_rN s) (suRn_pos s) x
def suRi (s : Int) : Nat := match decide (s = 0), decide (s = 1) with
 | true, _ => rN
 | false, true => suRn .lit
 | false, false => suRn .mid
theorem su_allR (s : Int) (h0 : 0 <= s) (h2 : s <= 2) : SuRk (suRi s) KZ OZ cmpX MZ AZ NZ GZ divF s := by
 have h : s = 0 \/ s = (suSx .lit).int \/ s = (suSx .mid).int := by
  show s = 0 \/ s = 1 \/ s = 2
  omega
 rcases h with rfl | rfl | rfl
 . exact su_gr gr_ex
 . exact su_lit inX adX muX neX (ofAp gen1P) .lit
 . exact su_lit inX adX muX neX (ofAp gen1P) .mid
theorem feigned_fn (s : Int) (x0 x1 x2 x3 x4 : W6) : fn6 (kInt .i64) c6.agg c6.agg c6.agg c6.agg c6.agg kBool (fun _ _ _ _ _ _ => true) [(kInt .i64).enc s, c6.agg.enc x0, c6.agg.enc x1, c6.agg.enc x2, c6.agg.enc x3, c6.agg.enc x4] = some (true, kBool.enc true) := by kernel_rfl
theorem feigned_rvs (s : Int) (x0 x1 x2 x3 x4 : W6) (ρ : Ren) : Rvs ρ [(kInt .i64).enc s, c6.agg.enc x0, c6.agg.enc x1, c6.agg.enc x2, c6.agg.enc x3, c6.agg.enc x4] [(kInt .i64).val s, c6.agg.val x0, c6.agg.val x1, c6.agg.val x2, c6.agg.val x3, c6.agg.val x4] :=
 Rvs.of_flatL (by simp [flatL, (kInt .i64).h1, c6.agg.h1])
end Go.Rq.Sm

namespace Go.Rq.Cl
open Go Go.Proofs Go.Rq Go.Rq.Sm
def scQ (s : Sx) (a : W6) : Bool := match mdS s with
 | some m => decide (a.val < mdN m)
 | none => false
def opF (op : Mo -> W6 -> W6 -> W6) (s : Sx) (a b : W6) : W6 × Int := match mdS s with
 | some m => (op (modS m) a b, 0)
 | none => (zW6, 2)
noncomputable def ivF (s : Sx) (a : W6) : W6 × Int := match mdS s with
 | some m => invF m a
 | none => (zW6, 2)
noncomputable def aqO : AQ := ⟨cmpX, qaddW, qsubW, qmulW⟩
theorem cloA_ok : EnvOk PR (cloE 42 qaddW) := envD_ok eqsT_ok TabPOk.nil (TabHOk.cons qadd_ent qadd_ok TabHOk.nil) TabLOk.nil TabDOk.nil
theorem cloS_ok : EnvOk PR (cloE 90 qsubW) := envD_ok eqsT_ok TabPOk.nil (TabHOk.cons qsub_ent qsub_ok TabHOk.nil) TabLOk.nil TabDOk.nil
theorem cloM_ok : EnvOk PR (cloE 40 qmulW) := envD_ok eqsT_ok TabPOk.nil (TabHOk.cons qmul_ent qmul_ok TabHOk.nil) TabLOk.nil TabDOk.nil
theorem doA_ent : Enters PR 41 := entersB (by kernel_rfl)
theorem doS_ent : Enters PR 89 := entersB (by kernel_rfl)
theorem doM_ent : Enters PR 39 := entersB (by kernel_rfl)
theorem done_ent : Enters PR 38 := entersB (by kernel_rfl)
theorem cloA_act : ActOk PR 4096 41 (deepG PR (cloE 42 qaddW) [] 20 41 4096 true) := deep_ok (ctxB cloA_ok mixed (by kernel_rfl))
theorem cloS_act : ActOk PR 4096 89 (deepG PR (cloE 90 qsubW) [] 20 89 4096 true) := deep_ok (ctxB cloS_ok mixed (by kernel_rfl))
theorem cloM_act : ActOk PR 4096 39 (deepG PR (cloE 40 qmulW) [] 20 39 4096 true) := deep_ok (ctxB cloM_ok mixed (by kernel_rfl))
theorem do_ok : ActOk PR 4096 38 (doG aqO) :=
 deepP_ok (ctxB (envD_ok eqsT_ok TabPOk.nil TabHOk.nil TabLOk.nil (TabDOk.cons ari_ent (ari_ok [false, false]) (TabDOk.cons doA_ent cloA_act (TabDOk.cons doS_ent cloS_act (TabDOk.cons doM_ent cloM_act TabDOk.nil)))))
  mixed (by kernel_rfl))
theorem sopE_ok : EnvOk PR (sopE aqO) := envD_ok eqsT_ok TabPOk.nil TabHOk.nil TabLOk.nil (TabDOk.cons done_ent do_ok TabDOk.nil)
theorem ordX_md {s : Sx} {m : Md} (h : mdS s = some m) : (ordX s).val = mdN m := by
 cases s <;> cases h <;> decide +kernel
theorem nlt_true {s : Sx} {m : Md} (h : mdS s = some m) {a : W6} (ha : a.val < mdN m) (b : Bool) : nlt aqO s a b = b := by
 unfold nlt
 have e : decide (aqO.cm a (ordX s) >= 0) = false := by
  have e2 : aqO.cm = cmpX := by simp only [aqO]
  rw [e2]
  exact cmpX_ge (by rw [ordX_md h]; exact ha)
 rw [e, cond_false]
theorem two_true {s : Sx} {m : Md} (h : mdS s = some m) {a b : W6} (ha : a.val < mdN m) (hb : b.val < mdN m) : tt (tt (tt (tt (tt (tt (nlt aqO s a (nlt aqO s b true))))))) = true := by
 simp only [tt_eq]
 rw [nlt_true h ha, nlt_true h hb]
def sc2 (s : Sx) (a b : W6) : Bool := scQ s a && scQ s b
theorem scQ_ok {s : Sx} {a : W6} (h : scQ s a = true) : ∃ m, mdS s = some m /\ a.val < mdN m := by
 unfold scQ at h
 cases e : mdS s with
 | none => rw [e] at h; cases h
 | some m => rw [e] at h; exact ⟨m, rfl, of_decide_eq_true h⟩
theorem sc2_ok {s : Sx} {a b : W6} (h : sc2 s a b = true) : ∃ m, mdS s = some m /\ a.val < mdN m /\ b.val < mdN m := by
 unfold sc2 at h
 obtain ⟨h1, h2⟩ := Bool.and_eq_true_iff.1 h
 obtain ⟨m, e1, k1⟩ := scQ_ok h1
 obtain ⟨m', e2, k2⟩ := scQ_ok h2
 rw [e1] at e2
 cases e2
 exact ⟨m, e1, k1, k2⟩
theorem op_ctx {f : Nat} {fn : Func} (hf : PR.funcs.toList[f]? = some fn) (hb : fn.body = some (bodyOf PR f)) (hok : codeOk (sopE aqO) (bodyOf PR f) = true) : Ctx PR (sopE aqO) [13] (fun _ => none) 30 f := ctx_of sopE_ok mixed hf hb hok (tabOk_none _)
theorem op_gives {f : Nat} {op : Mo -> W6 -> W6 -> W6} (hr : ∀ (s : Sx) (m : Md), mdS s = some m -> ∀ a b : W6, valP [] (afunR PR (sopE aqO) [13] (fun _ => none) 30 f [kSx.enc s, c6.agg.enc a, c6.agg.enc b]) = some (tt (tt (tt (tt (tt (tt (nlt aqO s a (nlt aqO s b true))))))), some (kWE.val (op (modS m) a b, 0))))
 (s : Sx) (a b : W6) (h : sc2 s a b = true) : Gives (afunR PR (sopE aqO) [13] (fun _ => none) 30 f [kSx.enc s, c6.agg.enc a, c6.agg.enc b]) (kWE.val (opF op s a b)) := by
 obtain ⟨m, e, ha, hb⟩ := sc2_ok h
 have k := Go.Rq.givesP (hr s m e a b) (two_true e ha hb)
 unfold opF
 rw [e]
 exact k
theorem smul_ok : CallOk PR 10 (fnQ3 kSx c6.agg c6.agg kWE sc2 (opF qmulW)) :=
 .inl ⟨entersB (by kernel_rfl), pureQ3 (op_ctx (fn := Tryz.f10) (by kernel_rfl) (by kernel_rfl) (by kernel_rfl)) fun s a b h => op_gives (fun s m e a b => sml_run aqO s m e a b) s a b h⟩
theorem sadd_ok : CallOk PR 11 (fnQ3 kSx c6.agg c6.agg kWE sc2 (opF qaddW)) :=
 .inl ⟨entersB (by kernel_rfl), pureQ3 (op_ctx (fn := Tryz.f11) (by kernel_rfl) (by kernel_rfl) (by kernel_rfl)) fun s a b h => op_gives (fun s m e a b => sad_run aqO s m e a b) s a b h⟩
theorem ssub_ok : CallOk PR 46 (fnQ3 kSx c6.agg c6.agg kWE sc2 (opF qsubW)) :=
 .inl ⟨entersB (by kernel_rfl), pureQ3 (op_ctx (fn := Tryz.f46) (by kernel_rfl) (by kernel_rfl) (by kernel_rfl)) fun s a b h => op_gives (fun s m e a b => ssb_run aqO s m e a b) s a b h⟩
theorem sivE_ok : EnvOk PR (sivE cmpX invF) := envD_ok eqsT_ok TabPOk.nil (TabHOk.cons iq_ent inv_okH TabHOk.nil) TabLOk.nil (TabDOk.cons ari_ent (ari_ok [false]) TabDOk.nil)
theorem siv_gives (s : Sx) (a : W6) (h : scQ s a = true) : Gives (afunR PR (sivE cmpX invF) [] (fun _ => none) 30 47 [kSx.enc s, c6.agg.enc a]) (kWE.val (ivF s a)) := by
 obtain ⟨m, e, ha⟩ := scQ_ok h
 have hc : decide (cmpX a (ordX s) >= 0) = false := cmpX_ge (by rw [ordX_md e]; exact ha)
 have k := siv_run cmpX invF s m e a
 rw [hc] at k
 have k2 := Go.Rq.givesP k rfl
 unfold ivF
 rw [e]
 exact k2
theorem siv_ctx : Ctx PR (sivE cmpX invF) [] (fun _ => none) 30 47 := ctxB sivE_ok mixed (by kernel_rfl)
theorem sinv_ok : CallOk PR 47 (fnQ2 kSx c6.agg kWE scQ ivF) :=
 .inl ⟨entersB (by kernel_rfl), pureQ2 siv_ctx siv_gives⟩
theorem decSk (a : AV) : kSx.dec a = ((kInt .i64).dec a).map Sx.of := by
 have e0 : kSx.dec a = (match (kInt .i64).dec a with
  | some i => some (Sx.of i)
  | none => none) := rfl
 rw [e0]
 cases (kInt .i64).dec a <;> rfl
theorem fnS2 {γ β : Type} {C : Cod γ} {B : Cod β} {Q : Sx -> γ -> Bool} {F : Sx -> γ -> β} : fnQ2 kSx C B Q F = fnQ2 (kInt .i64) C B (fun i => Q (Sx.of i)) (fun i => F (Sx.of i)) := by
 funext args
 unfold fnQ2
 split
 . rename_i a c
   rw [decSk]
   cases (kInt .i64).dec a with
   | none => rfl
   | some x => cases C.dec c <;> rfl
 . rfl
theorem fnS3 {γ δ β : Type} {C : Cod γ} {D : Cod δ} {B : Cod β} {Q : Sx -> γ -> δ -> Bool} {F : Sx -> γ -> δ -> β} : fnQ3 kSx C D B Q F = fnQ3 (kInt .i64) C D B (fun i => Q (Sx.of i)) (fun i => F (Sx.of i)) := by
 funext args
 unfold fnQ3
 split
 . rename_i a c d
   rw [decSk]
   cases (kInt .i64).dec a with
   | none => rfl
   | some x => cases C.dec c with
    | none => rfl
    | some y => cases D.dec d <;> rfl
 . rfl
abbrev Q3 : Type := Int -> W6 -> W6 -> Bool
noncomputable abbrev q2Z : Q3 := fun i => sc2 (Sx.of i)
noncomputable abbrev q1Z : Int -> W6 -> Bool := fun i => scQ (Sx.of i)
noncomputable abbrev mlZ : S3 := fun i => opF qmulW (Sx.of i)
noncomputable abbrev adZ : S3 := fun i => opF qaddW (Sx.of i)
noncomputable abbrev sbZ : S3 := fun i => opF qsubW (Sx.of i)
noncomputable abbrev ivZ : Int -> W6 -> W6 × Int := fun i => ivF (Sx.of i)
theorem mlZ_ok : CallOk PR 10 (fnQ3 (kInt .i64) c6.agg c6.agg kWE q2Z mlZ) := by rw [<- fnS3]; exact smul_ok
theorem adZ_ok : CallOk PR 11 (fnQ3 (kInt .i64) c6.agg c6.agg kWE q2Z adZ) := by rw [<- fnS3]; exact sadd_ok
theorem sbZ_ok : CallOk PR 46 (fnQ3 (kInt .i64) c6.agg c6.agg kWE q2Z sbZ) := by rw [<- fnS3]; exact ssub_ok
theorem ivZ_ok : CallOk PR 47 (fnQ2 (kInt .i64) c6.agg kWE q1Z ivZ) := by rw [<- fnS2]; exact sinv_ok
noncomputable def pxqE (O : Int -> W6 × Int) (C : W6 -> W6 -> Int) (Q : Q3) (P : Int -> W6 -> Bool) (S M : S3) (V : Int -> W6 -> W6 × Int) : Env :=
 envA eqsT [(31, fn1 (kInt .i64) kWE O), (45, fn2 c6.agg c6.agg (kInt .i64) C), (46, fnQ3 (kInt .i64) c6.agg c6.agg kWE Q S), (10, fnQ3 (kInt .i64) c6.agg c6.agg kWE Q M), (47, fnQ2 (kInt .i64) c6.agg kWE P V)] [] [] [] [] [] true []
noncomputable def pxqT (O : Int -> W6 × Int) (C : W6 -> W6 -> Int) (Q : Q3) (P : Int -> W6 -> Bool) (S M : S3) (V : Int -> W6 -> W6 × Int) (s : Int) (c a d b : W6) : Tree AV :=
 afunR PR (pxqE O C Q P S M V) [26, 42, 47] (fun _ => none) 20 13 [.v (.int .i64 s), c6.agg.enc c, c6.agg.enc a, c6.agg.enc d, c6.agg.enc b]
def bt (b c : Bool) : Bool := bif b then c else false
set_option maxRecDepth 100000 in
theorem pxq_run (O : Int -> W6 × Int) (C : W6 -> W6 -> Int) (Q : Q3) (P : Int -> W6 -> Bool) (S M : S3) (V : Int -> W6 -> W6 × Int) (s : Int) (c a d b : W6) :
 valP [false, false, false, false, false, false] (pxqT O C Q P S M V s c a d b) =
 some (nt ((O s).2 != 0) (nt (geR O C s c) (nt (geR O C s a) (nt (geR O C s d) (nt (geR O C s b) (nt (eqWk c d true) (bt (tt (Q s a b)) (bt (tt (Q s c d)) (bt (tt (P s (S s c d).1)) (bt (tt (Q s (S s a b).1 (V s (S s c d).1).1)) true))))))))),
  some (kWE.val (M s (S s a b).1 (V s (S s c d).1).1))) := by kernel_rfl
def fnQ5 {α γ δ ε ζ β : Type} (A : Cod α) (C : Cod γ) (D : Cod δ) (G : Cod ε) (H : Cod ζ) (B : Cod β) (Q : α -> γ -> δ -> ε -> ζ -> Bool) (F : α -> γ -> δ -> ε -> ζ -> β) : List AV -> Option (Bool × AV)
 | [a, c, d, g, h] => match A.dec a, C.dec c, D.dec d, G.dec g, H.dec h with
  | some x, some y, some z, some u, some v => some (Q x y z u v, B.enc (F x y z u v))
  | _, _, _, _, _ => none
 | _ => none
theorem pureQ5 {P : Program} {E : Env} {sym : List Tmp} {tab : BTab} {lf f : Nat} {α β γ δ ε ζ : Type} {A : Cod α} {B : Cod β} {C : Cod γ} {D : Cod δ} {G : Cod ε} {H : Cod ζ} (X : Ctx P E sym tab lf f) {Q : α -> γ -> δ -> ε -> ζ -> Bool} {F : α -> γ -> δ -> ε -> ζ -> β}
 (h : ∀ x y z u v, Q x y z u v = true -> Gives (afunR P E sym tab lf f [A.enc x, C.enc y, D.enc z, G.enc u, H.enc v]) (B.val (F x y z u v))) : PureOk P f (fnQ5 A C D G H B Q F) := by
 refine pure_core X fun args r hg => ?_
 unfold fnQ5 at hg
 split at hg
 . rename_i a c d g q
   split at hg
   . rename_i x y z u v hx hy hz hu hv
     simp only [Option.some.injEq, Prod.mk.injEq] at hg
     obtain ⟨hq, rfl⟩ := hg
     refine ⟨[A.enc x, C.enc y, D.enc z, G.enc u, H.enc v], [A.val x, C.val y, D.val z, G.val u, H.val v], fun ρ xs hxs => ?_, by simp [flatL, A.h1, C.h1, D.h1, G.h1, H.h1], _, B.h1 _, (h x y z u v hq).out⟩
     obtain ⟨v1, l1, rfl, h1, k1⟩ := hxs.uncons
     obtain ⟨v2, l2, rfl, h2, k2⟩ := k1.uncons
     obtain ⟨v3, l3, rfl, h3, k3⟩ := k2.uncons
     obtain ⟨v4, l4, rfl, h4, k4⟩ := k3.uncons
     obtain ⟨v5, l5, rfl, h5, k5⟩ := k4.uncons
     rw [k5.unnil, A.h2 ρ _ _ _ hx h1, C.h2 ρ _ _ _ hy h2, D.h2 ρ _ _ _ hz h3, G.h2 ρ _ _ _ hu h4, H.h2 ρ _ _ _ hv h5]
   . cases hg
 . cases hg
def exQ (O : Int -> W6 × Int) (C : W6 -> W6 -> Int) (Q : Q3) (P : Int -> W6 -> Bool) (S : S3) (V : Int -> W6 -> W6 × Int) (s : Int) (c a d b : W6) : Bool :=
 nt ((O s).2 != 0) (nt (geR O C s c) (nt (geR O C s a) (nt (geR O C s d) (nt (geR O C s b) (nt (eqWk c d true) (bt (tt (Q s a b)) (bt (tt (Q s c d)) (bt (tt (P s (S s c d).1)) (bt (tt (Q s (S s a b).1 (V s (S s c d).1).1)) true)))))))))
def exF (S M : S3) (V : Int -> W6 -> W6 × Int) (s : Int) (c a d b : W6) : W6 × Int := M s (S s a b).1 (V s (S s c d).1).1
theorem pxq_ctx {O : Int -> W6 × Int} {C : W6 -> W6 -> Int} {Q : Q3} {P : Int -> W6 -> Bool} {S M : S3} {V : Int -> W6 -> W6 × Int} (hO : CallOk PR 31 (fn1 (kInt .i64) kWE O)) (hC : CallOk PR 45 (fn2 c6.agg c6.agg (kInt .i64) C))
 (hS : CallOk PR 46 (fnQ3 (kInt .i64) c6.agg c6.agg kWE Q S)) (hM : CallOk PR 10 (fnQ3 (kInt .i64) c6.agg c6.agg kWE Q M)) (hV : CallOk PR 47 (fnQ2 (kInt .i64) c6.agg kWE P V)) :
 Ctx PR (pxqE O C Q P S M V) [26, 42, 47] (fun _ => none) 20 13 :=
 ctxB (envA_ok eqsT_ok (TabPOk.cons hO (TabPOk.cons hC (TabPOk.cons hS (TabPOk.cons hM (TabPOk.cons hV TabPOk.nil))))) TabHOk.nil TabLOk.nil TabAOk.nil) mixed (by kernel_rfl)
theorem pxq_ok {O : Int -> W6 × Int} {C : W6 -> W6 -> Int} {Q : Q3} {P : Int -> W6 -> Bool} {S M : S3} {V : Int -> W6 -> W6 × Int} (hO : CallOk PR 31 (fn1 (kInt .i64) kWE O)) (hC : CallOk PR 45 (fn2 c6.agg c6.agg (kInt .i64) C))
 (hS : CallOk PR 46 (fnQ3 (kInt .i64) c6.agg c6.agg kWE Q S)) (hM : CallOk PR 10 (fnQ3 (kInt .i64) c6.agg c6.agg kWE Q M)) (hV : CallOk PR 47 (fnQ2 (kInt .i64) c6.agg kWE P V)) :
 CallOk PR 13 (fnQ5 (kInt .i64) c6.agg c6.agg c6.agg c6.agg kWE (exQ O C Q P S V) (exF S M V)) :=
 .inl ⟨entersB (by kernel_rfl), pureQ5 (pxq_ctx hO hC hS hM hV) fun s c a d b h => Go.Rq.givesP (pxq_run O C Q P S M V s c a d b) h⟩
abbrev Q5 : Type := Int -> W6 -> W6 -> W6 -> W6 -> Bool
abbrev E5 : Type := Int -> W6 -> W6 -> W6 -> W6 -> W6 × Int
structure XT where
 gn : Int -> Kz × Int
 m : ZM
 fi : F5Z
 o : Int -> W6 × Int
 d : DF
 q : Q3
 ad : S3
 ml : S3
 eq : Q5
 ef : E5
noncomputable def xtE (t : XT) : Env :=
 envD eqsT [(8, fn1 (kInt .i64) kKzE t.gn), (9, fn2 cKz.agg c6.agg kKzE t.m), (10, fnQ3 (kInt .i64) c6.agg c6.agg kWE t.q t.ml), (11, fnQ3 (kInt .i64) c6.agg c6.agg kWE t.q t.ad),
  (13, fnQ5 (kInt .i64) c6.agg c6.agg c6.agg c6.agg kWE t.eq t.ef), (12, fn5 cKz.agg cKz.agg cKz.agg c6.agg c6.agg kBE t.fi), (6, fn0 kBool true)]
  [] [] [(7, scG t.o t.d)] [] false [7]
def xtS : List Tmp := [36, 39, 54, 62, 169, 172, 175, 179, 183, 190]
noncomputable def xtT (t : XT) (s : Int) (x0 x1 x2 x3 x4 : W6) : Tree AV := afunR PR (xtE t) xtS (fun _ => none) 30 3 [(kInt .i64).enc s, c6.agg.enc x0, c6.agg.enc x1, c6.agg.enc x2, c6.agg.enc x3, c6.agg.enc x4]
def xtL (t : XT) (s : Int) (x : W6) : W6 := (t.d x (t.o s).1).2.1
def xtA (t : XT) (s : Int) (x3 x1 x2 : W6) : W6 := (t.ad s (t.ml s x3 x1).1 x2).1
section
variable (t : XT) (s : Int) (x0 x1 x2 x3 x4 : W6)
set_option maxRecDepth 1000000 in
theorem xt_0 : valP [true] (xtT t s x0 x1 x2 x3 x4) = some (bt (decide (s < 0)) true, some (kBool.val true)) := by kernel_rfl
set_option maxRecDepth 1000000 in
theorem xt_1 : valP [false, true] (xtT t s x0 x1 x2 x3 x4) = some (nt (decide (s < 0)) (bt (decide (s > 2)) true), some (kBool.val true)) := by kernel_rfl
set_option maxRecDepth 1000000 in
theorem xt_2 : valP [false, false, true] (xtT t s x0 x1 x2 x3 x4) = some (nt (decide (s < 0)) (nt (decide (s > 2)) (bt (eqW6 (xtL t s x0) true) true)), some (kBool.val true)) := by kernel_rfl
set_option maxRecDepth 1000000 in
theorem xt_3 : valP [false, false, false, true] (xtT t s x0 x1 x2 x3 x4) = some (nt (decide (s < 0)) (nt (decide (s > 2)) (nt (eqW6 (xtL t s x0) true) (bt (eqWk (xtL t s x3) (xtL t s x4) true) true))), some (kBool.val true)) := by kernel_rfl
def xtC (s : Int) (g : Kz) (l0 l1 l2 l3 l4 : W6) : Bool :=
 bt (tt (t.q s l3 l1)) (bt (tt (t.q s (t.ml s l3 l1).1 l2)) (bt (tt (t.q s l4 l1)) (bt (tt (t.q s (t.ml s l4 l1).1 l2)) (bt (tt (t.eq s l3 (xtA t s l3 l1 l2) l4 (xtA t s l4 l1 l2)))
 (bt (t.fi (t.m g l0).1 (t.m (t.m g l0).1 l1).1 (t.m (t.m g l0).1 l2).1 l3 (xtA t s l3 l1 l2)).1 (bt (t.fi (t.m g l0).1 (t.m (t.m g l0).1 l1).1 (t.m (t.m g l0).1 l2).1 l4 (xtA t s l4 l1 l2)).1
 (bt ((t.fi (t.m g l0).1 (t.m (t.m g l0).1 l1).1 (t.m (t.m g l0).1 l2).1 l3 (xtA t s l3 l1 l2)).2 == 0) (bt ((t.fi (t.m g l0).1 (t.m (t.m g l0).1 l1).1 (t.m (t.m g l0).1 l2).1 l4 (xtA t s l4 l1 l2)).2 == 0)
 (bt (eqWk (t.ef s l3 (xtA t s l3 l1 l2) l4 (xtA t s l4 l1 l2)).1 l1 true) true)))))))))
set_option maxRecDepth 1000000 in
theorem xt_4 : valP [false, false, false, false, true, true, true, true, true] (xtT t s x0 x1 x2 x3 x4) =
 some (nt (decide (s < 0)) (nt (decide (s > 2)) (nt (eqW6 (xtL t s x0) true) (nt (eqWk (xtL t s x3) (xtL t s x4) true) (xtC t s (t.gn s).1 (xtL t s x0) (xtL t s x1) (xtL t s x2) (xtL t s x3) (xtL t s x4))))),
  some (kBool.val ((t.ef s (xtL t s x3) (xtA t s (xtL t s x3) (xtL t s x1) (xtL t s x2)) (xtL t s x4) (xtA t s (xtL t s x4) (xtL t s x1) (xtL t s x2))).2 == 0))) := by kernel_rfl
end
theorem add_cancel_mod {r x y z : Nat} (hr : 0 < r) (h : (x + z) % r = (y + z) % r) : x % r = y % r := by
 have hk : ∀ w, (w + z + (r - z % r)) % r = w % r := by
  intro w
  have hd := Nat.div_add_mod z r
  have hl : z % r < r := Nat.mod_lt _ hr
  rw [show w + z + (r - z % r) = w + r * (z / r) + r by omega, Nat.add_mod_right, Nat.add_mul_mod_self_left]
 rw [<- hk x, <- hk y, Nat.add_mod, h, <- Nat.add_mod]
theorem lin_mod (a b l r : Nat) : (a * b % r + l) % r % r = (a * b + l) % r := by
 rw [Nat.mod_mod, Nat.add_mod, Nat.mod_mod, <- Nat.add_mod]
theorem ext_diff {r l1 l2 l3 l4 : Nat} (h4 : l4 < r) : ((l3 * l1 % r + l2) % r + (r - (l4 * l1 % r + l2) % r)) % r = (l3 + (r - l4)) % r * l1 % r := by
 have hr : 0 < r := by omega
 have hz : (l4 * l1 % r + l2) % r < r := Nat.mod_lt _ hr
 apply add_cancel_mod (z := (l4 * l1 % r + l2) % r) hr
 have u : ((l3 + (r - l4)) % r * l1) % r = ((l3 + (r - l4)) * l1) % r := Nat.mod_mul_mod ..
 have e : (l3 + (r - l4)) * l1 + (l4 * l1 + l2) = l3 * l1 + l2 + r * l1 := by
  have : (l3 + (r - l4)) * l1 + l4 * l1 = (l3 + r) * l1 := by rw [<- Nat.add_mul, show l3 + (r - l4) + l4 = l3 + r by omega]
  rw [<- Nat.add_assoc, this, Nat.add_mul]
  omega
 rw [show (l3 * l1 % r + l2) % r + (r - (l4 * l1 % r + l2) % r) + (l4 * l1 % r + l2) % r = (l3 * l1 % r + l2) % r + r by omega, Nat.add_mod_right, lin_mod,
  Nat.add_mod ((l3 + (r - l4)) % r * l1), u, lin_mod, <- Nat.add_mod, e, Nat.add_mul_mod_self_left]
theorem ext_nat {r l1 l2 l3 l4 i : Nat} (h1 : l1 < r) (h4 : l4 < r) (hi : (l3 + (r - l4)) % r * i % r = 1) : ((l3 * l1 % r + l2) % r + (r - (l4 * l1 % r + l2) % r)) % r * i % r = l1 := by
 rw [ext_diff h4, Nat.mod_mul_mod, show (l3 + (r - l4)) % r * l1 * i = (l3 + (r - l4)) % r * i * l1 by rw [Nat.mul_right_comm], Nat.mul_mod, hi, Nat.one_mul, Nat.mod_mod, Nat.mod_eq_of_lt h1]
theorem diff_pos {r x y : Nat} (hx : x < r) (hy : y < r) (h : x ≠ y) : (x + (r - y)) % r ≠ 0 := by
 by_cases hle : y <= x
 . rw [show x + (r - y) = (x - y) + r by omega, Nat.add_mod_right, Nat.mod_eq_of_lt (by omega)]
   omega
 . rw [Nat.mod_eq_of_lt (by omega)]
   omega
theorem fit_mod {r l0 l1 l2 c : Nat} : 1 * l0 * ((c * l1 % r + l2) % r) % r = (1 * l0 * l2 + 1 * l0 * l1 * c) % r := by
 rw [Nat.mul_mod, Nat.mod_mod, <- Nat.mul_mod, Nat.mul_mod, Nat.add_mod, Nat.mod_mod, <- Nat.add_mod, <- Nat.mul_mod, Nat.mul_add, Nat.add_comm]
 congr 2
 rw [Nat.mul_assoc (1 * l0), Nat.mul_comm l1 c]
structure Ar (O : Int -> W6 × Int) (Q : Q3) (P : Int -> W6 -> Bool) (A S M : S3) (V : Int -> W6 -> W6 × Int) (s : Int) (r : Nat) : Prop where
 oz : (O s).2 = 0
 q : ∀ a b : W6, a.val < r -> b.val < r -> Q s a b = true
 p : ∀ a : W6, a.val < r -> P s a = true
 ad : ∀ a b : W6, a.val < r -> b.val < r -> (A s a b).2 = 0 /\ (A s a b).1.val = (a.val + b.val) % r
 sb : ∀ a b : W6, a.val < r -> b.val < r -> (S s a b).2 = 0 /\ (S s a b).1.val = (a.val + (r - b.val)) % r
 ml : ∀ a b : W6, a.val < r -> b.val < r -> (M s a b).2 = 0 /\ (M s a b).1.val = a.val * b.val % r
 iv : ∀ a : W6, a.val < r -> a.val ≠ 0 -> (V s a).2 = 0 /\ (V s a).1.val < r /\ a.val * (V s a).1.val % r = 1
section
variable {K : Kz -> Bool} {O : Int -> W6 × Int} {C : W6 -> W6 -> Int} {M : ZM} {A : ZZ} {N : Kz -> Kz × Int} {s : Int} {r : Nat} {φ : Nat -> Kz} {Q : Q3} {P : Int -> W6 -> Bool} {AD SB ML : S3} {IV : Int -> W6 -> W6 × Int}
theorem Ar.ans (h : Ar O Q P AD SB ML IV s r) (hr : 0 < r) {l1 l2 c : W6} (h1 : l1.val < r) (h2 : l2.val < r) (hc : c.val < r) : (AD s (ML s c l1).1 l2).1.val = (c.val * l1.val % r + l2.val) % r /\ (ML s c l1).1.val < r /\ (AD s (ML s c l1).1 l2).1.val < r := by
 have e1 := (h.ml c l1 hc h1).2
 have k1 : (ML s c l1).1.val < r := by rw [e1]; exact Nat.mod_lt _ hr
 have e2 := (h.ad (ML s c l1).1 l2 k1 h2).2
 rw [e1] at e2
 exact ⟨e2, k1, by rw [e2]; exact Nat.mod_lt _ hr⟩
theorem Cy.fit (h : Cy K O C M A N s r φ) {l0 l1 l2 c z : W6} (h0 : l0.val < r) (h1 : l1.val < r) (h2 : l2.val < r) (hc : c.val < r) (hz : z.val < r) (e : z.val = (c.val * l1.val % r + l2.val) % r) :
 pfiF K O C (fun a n => (M a n).1) A (M (φ 1) l0).1 (M (M (φ 1) l0).1 l1).1 (M (M (φ 1) l0).1 l2).1 c z = (true, 0) := by
 rw [h.mul 1 l0 h0]
 dsimp only
 rw [h.mul _ l1 h1, h.mul _ l2 h2]
 dsimp only
 unfold pfiF
 rw [h.pk3 _ _ _ hc hz]
 simp only [bne_self_eq_false, cond_false]
 rw [h.mul _ z hz, h.mul _ c hc]
 dsimp only
 rw [h.add]
 have k : eqKz (φ (1 * l0.val * z.val)) (φ (1 * l0.val * l2.val + 1 * l0.val * l1.val * c.val)) = true := by
  rw [eqKz_iff, h.inj, e]
  exact fit_mod
 rw [k]
theorem Ar.ext (h : Ar O Q P AD SB ML IV s r) (k : Cy K O C M A N s r φ) (hr : 0 < r) {l1 l2 c d : W6} (h1 : l1.val < r) (h2 : l2.val < r) (hc : c.val < r) (hd : d.val < r) (hn : eqWk c d true = false) :
 exQ O C Q P SB IV s c (AD s (ML s c l1).1 l2).1 d (AD s (ML s d l1).1 l2).1 = true /\ (exF SB ML IV s c (AD s (ML s c l1).1 l2).1 d (AD s (ML s d l1).1 l2).1) = (l1, 0) := by
 obtain ⟨a1, a2, a3⟩ := h.ans hr h1 h2 hc
 obtain ⟨b1, b2, b3⟩ := h.ans hr h1 h2 hd
 generalize (AD s (ML s c l1).1 l2).1 = a at *
 generalize (AD s (ML s d l1).1 l2).1 = b at *
 have hne : c.val ≠ d.val := by
  intro e
  have : eqWk c d true = true := (eqWk_iff _ _ _).2 ⟨W6.val_inj e, rfl⟩
  rw [this] at hn; cases hn
 obtain ⟨-, s1⟩ := h.sb a b a3 b3
 obtain ⟨-, s2⟩ := h.sb c d hc hd
 have t1 : (SB s a b).1.val < r := by rw [s1]; exact Nat.mod_lt _ hr
 have t2 : (SB s c d).1.val < r := by rw [s2]; exact Nat.mod_lt _ hr
 have t3 : (SB s c d).1.val ≠ 0 := by rw [s2]; exact diff_pos hc hd hne
 obtain ⟨-, v2, v3⟩ := h.iv _ t2 t3
 have ge : ∀ x : W6, x.val < r -> geR O C s x = false := fun x hx => by unfold geR; exact k.cmp x hx
 refine ⟨?_, ?_⟩
 . unfold exQ
   rw [h.oz, ge c hc, ge a a3, ge d hd, ge b b3, hn, h.q a b a3 b3, h.q c d hc hd, h.p _ t2, h.q _ _ t1 v2]
   rfl
 . unfold exF
   obtain ⟨m1, m2⟩ := h.ml _ _ t1 v2
   rw [s2] at v3
   have m3 : (ML s (SB s a b).1 (IV s (SB s c d).1).1).1 = l1 := by
    apply W6.val_inj
    rw [m2, s1, a1, b1]
    exact ext_nat h1 hd v3
   rw [<- m3]
   generalize ML s (SB s a b).1 (IV s (SB s c d).1).1 = w at *
   obtain ⟨w1, w2⟩ := w
   simp only at m1
   rw [m1]
end
section
variable {K : Kz -> Bool} {C : W6 -> W6 -> Int} {A : ZZ} {N : Kz -> Kz × Int} {P : Int -> W6 -> Bool} {S : S3} {V : Int -> W6 -> W6 × Int} {gn : Int -> Kz × Int} {m : ZM} {o : Int -> W6 × Int} {d : DF} {q : Q3} {ad ml : S3}
noncomputable def xtX (K : Kz -> Bool) (C : W6 -> W6 -> Int) (A : ZZ) (P : Int -> W6 -> Bool) (S : S3) (V : Int -> W6 -> W6 × Int) (gn : Int -> Kz × Int) (m : ZM) (o : Int -> W6 × Int) (d : DF) (q : Q3) (ad ml : S3) : XT :=
 ⟨gn, m, pfiF K o C (fun a n => (m a n).1) A, o, d, q, ad, ml, exQ o C q P S V, exF S ml V⟩
def SvOk (K : Kz -> Bool) (C : W6 -> W6 -> Int) (A : ZZ) (N : Kz -> Kz × Int) (P : Int -> W6 -> Bool) (S : S3) (V : Int -> W6 -> W6 × Int) (gn : Int -> Kz × Int) (m : ZM) (o : Int -> W6 × Int) (d : DF) (q : Q3) (ad ml : S3) (s : Int) : Prop :=
 ∃ (r : Nat) (φ : Nat -> Kz), Cy K o C m A N s r φ /\ Ar o q P ad S ml V s r /\ (gn s).1 = φ 1 /\ ∀ x, (d x (o s).1).2.1.val < r
theorem xt_gives (h : ∀ s : Int, 0 <= s -> s <= 2 -> SvOk K C A N P S V gn m o d q ad ml s) (s : Int) (x0 x1 x2 x3 x4 : W6) : Gives (xtT (xtX K C A P S V gn m o d q ad ml) s x0 x1 x2 x3 x4) (kBool.val true) := by
 generalize ht : xtX K C A P S V gn m o d q ad ml = t
 cases c0 : decide (s < 0) with
 | true => exact Go.Rq.givesP (xt_0 t s x0 x1 x2 x3 x4) (by rw [c0]; rfl)
 | false =>
  cases c1 : decide (s > 2) with
  | true => exact Go.Rq.givesP (xt_1 t s x0 x1 x2 x3 x4) (by rw [c0, c1]; rfl)
  | false =>
   cases c2 : eqW6 (xtL t s x0) true with
   | true => exact Go.Rq.givesP (xt_2 t s x0 x1 x2 x3 x4) (by rw [c0, c1, c2]; rfl)
   | false =>
    cases c3 : eqWk (xtL t s x3) (xtL t s x4) true with
    | true => exact Go.Rq.givesP (xt_3 t s x0 x1 x2 x3 x4) (by rw [c0, c1, c2, c3]; rfl)
    | false =>
     have h0 := of_decide_eq_false c0
     have h1 := of_decide_eq_false c1
     obtain ⟨r, φ, k1, k2, k3, k4⟩ := h s (by omega) (by omega)
     have hl : ∀ x, (xtL t s x).val < r := fun x => by rw [<- ht]; exact k4 x
     have hr : 0 < r := Nat.lt_of_le_of_lt (Nat.zero_le _) (hl x0)
     have n0 := hl x0
     have n1 := hl x1
     have n2 := hl x2
     have n3 := hl x3
     have n4 := hl x4
     have run := xt_4 t s x0 x1 x2 x3 x4
     have hg : (t.gn s).1 = φ 1 := by rw [<- ht]; exact k3
     rw [hg] at run
     generalize xtL t s x0 = l0 at *
     generalize xtL t s x1 = l1 at *
     generalize xtL t s x2 = l2 at *
     generalize xtL t s x3 = l3 at *
     generalize xtL t s x4 = l4 at *
     obtain ⟨a1, a2, a3⟩ := k2.ans hr n1 n2 n3
     obtain ⟨b1, b2, b3⟩ := k2.ans hr n1 n2 n4
     obtain ⟨e1, e2⟩ := k2.ext k1 hr n1 n2 n3 n4 c3
     have f1 := Cy.fit k1 n0 n1 n2 n3 a3 a1
     have f2 := Cy.fit k1 n0 n1 n2 n4 b3 b1
     have q1 := k2.q l3 l1 n3 n1
     have q2 := k2.q _ l2 a2 n2
     have q3 := k2.q l4 l1 n4 n1
     have q4 := k2.q _ l2 b2 n2
     have ew : eqWk l1 l1 true = true := (eqWk_iff _ _ _).2 ⟨rfl, rfl⟩
     have hC : xtC t s (φ 1) l0 l1 l2 l3 l4 = true := by
      rw [<- ht]
      unfold xtC xtA xtX
      dsimp only
      rw [f1, f2, q1, q2, q3, q4, e1, e2]
      dsimp only
      rw [ew]
      rfl
     have hV : ((t.ef s l3 (xtA t s l3 l1 l2) l4 (xtA t s l4 l1 l2)).2 == 0) = true := by
      rw [<- ht]
      unfold xtA xtX
      dsimp only
      rw [e2]
      rfl
     rw [hV, c0, c1, c2, c3, hC] at run
     exact Go.Rq.givesP run rfl
end
theorem pr_md (s : Sx) (m : Md) (h : mdS s = some m) : Pr (mdN m) := by
 cases s <;> cases h
 . exact pr_r
 . exact pr_65521
 . exact pr_72057594037927889
theorem ar_su {s : Int} {m : Md} (h : mdS (Sx.of s) = some m) (hz : (OZ s).2 = 0) : Ar OZ q2Z q1Z adZ sbZ mlZ ivZ s (mdN m) := by
 have M := mg_md m
 have hv := modS_val m
 have hq : ∀ a : W6, a.val < mdN m -> scQ (Sx.of s) a = true := fun a ha => by
  unfold scQ
  rw [h]
  exact decide_eq_true ha
 have ho : ∀ (op : Mo -> W6 -> W6 -> W6) (a b : W6), opF op (Sx.of s) a b = (op (modS m) a b, 0) := fun op a b => by
  unfold opF
  rw [h]
 refine ⟨hz, fun a b ha hb => ?_, fun a ha => hq a ha, fun a b _ _ => ?_, fun a b ha hb => ?_, fun a b _ hb => ?_, fun a ha hn => ?_⟩
 . show (scQ (Sx.of s) a && scQ (Sx.of s) b) = true
   rw [hq a ha, hq b hb]; rfl
 . show (opF qaddW (Sx.of s) a b).2 = 0 /\ (opF qaddW (Sx.of s) a b).1.val = _
   rw [ho]
   refine ⟨rfl, ?_⟩
   have := mg_add M a b
   rw [hv] at this
   exact this
 . show (opF qsubW (Sx.of s) a b).2 = 0 /\ (opF qsubW (Sx.of s) a b).1.val = _
   rw [ho]
   refine ⟨rfl, ?_⟩
   have := mg_sub M a b
   rw [hv, Nat.mod_eq_of_lt ha, Nat.mod_eq_of_lt hb] at this
   exact this
 . show (opF qmulW (Sx.of s) a b).2 = 0 /\ (opF qmulW (Sx.of s) a b).1.val = _
   rw [ho]
   refine ⟨rfl, ?_⟩
   have := mg_mul M a b (by rw [hv]; exact hb)
   rw [hv] at this
   exact this
 . show (ivF (Sx.of s) a).2 = 0 /\ (ivF (Sx.of s) a).1.val < mdN m /\ a.val * (ivF (Sx.of s) a).1.val % mdN m = 1
   have e : ivF (Sx.of s) a = invF m a := by
    unfold ivF
    rw [h]
   rw [e]
   exact inv_val (pr_md _ m h) fun hd => hn (Nat.eq_zero_of_dvd_of_lt hd ha)
theorem sv_all (s : Int) (h0 : 0 <= s) (h2 : s <= 2) : SvOk KZ cmpX AZ NZ q1Z sbZ ivZ GZ MZ OZ divF q2Z adZ mlZ s := by
 obtain ⟨φ, k1, k2, k3⟩ := su_allR s h0 h2
 have h : s = 0 \/ s = 1 \/ s = 2 := by omega
 have key : ∀ m : Md, mdS (Sx.of s) = some m -> (OZ s).2 = 0 -> suRi s = mdN m -> SvOk KZ cmpX AZ NZ q1Z sbZ ivZ GZ MZ OZ divF q2Z adZ mlZ s := fun m e1 e2 e3 =>
  ⟨suRi s, φ, k1, by rw [e3]; exact ar_su e1 e2, k2, k3⟩
 rcases h with rfl | rfl | rfl
 . exact key .ro rfl rfl rfl
 . exact key .rl rfl rfl rfl
 . exact key .rm rfl rfl rfl
theorem exZ_ok : CallOk PR 13 (fnQ5 (kInt .i64) c6.agg c6.agg c6.agg c6.agg kWE (exQ OZ cmpX q2Z q1Z sbZ ivZ) (exF sbZ mlZ ivZ)) := pxq_ok OZ_ok cmp_ok sbZ_ok mlZ_ok ivZ_ok
theorem xtE_ok {t : XT} (h1 : CallOk PR 8 (fn1 (kInt .i64) kKzE t.gn)) (h2 : CallOk PR 9 (fn2 cKz.agg c6.agg kKzE t.m)) (h3 : CallOk PR 10 (fnQ3 (kInt .i64) c6.agg c6.agg kWE t.q t.ml)) (h4 : CallOk PR 11 (fnQ3 (kInt .i64) c6.agg c6.agg kWE t.q t.ad))
 (h5 : CallOk PR 13 (fnQ5 (kInt .i64) c6.agg c6.agg c6.agg c6.agg kWE t.eq t.ef)) (h6 : CallOk PR 12 (fn5 cKz.agg cKz.agg cKz.agg c6.agg c6.agg kBE t.fi)) (h7 : ActOk PR 4096 7 (scG t.o t.d)) (h8 : CallOk PR 6 (fn0 kBool true)) : EnvOk PR (xtE t) :=
 envD_ok eqsT_ok (TabPOk.cons h1 (TabPOk.cons h2 (TabPOk.cons h3 (TabPOk.cons h4 (TabPOk.cons h5 (TabPOk.cons h6 (TabPOk.cons h8 TabPOk.nil))))))) TabHOk.nil TabLOk.nil (TabDOk.cons sc_ent h7 TabDOk.nil)
noncomputable abbrev tZ : XT := xtX KZ cmpX AZ q1Z sbZ ivZ GZ MZ OZ divF q2Z adZ mlZ
theorem xt_ctx {t : XT} (h : EnvOk PR (xtE t)) : Ctx PR (xtE t) xtS (fun _ => none) 30 3 :=
 ctxB h mixed (by kernel_rfl)
theorem tZ_ok (h : CallOk PR 6 (fn0 kBool true)) : EnvOk PR (xtE tZ) := xtE_ok GZ_ok MZ_ok mlZ_ok adZ_ok exZ_ok FIZ_ok scZ_ok h
theorem extracts_pure (h : CallOk PR 6 (fn0 kBool true)) : PureOk PR 3 (fn6 (kInt .i64) c6.agg c6.agg c6.agg c6.agg c6.agg kBool (fun _ _ _ _ _ _ => true)) :=
 pure6 (xt_ctx (tZ_ok h)) fun s x0 x1 x2 x3 x4 => xt_gives sv_all s x0 x1 x2 x3 x4
end Go.Rq.Cl
