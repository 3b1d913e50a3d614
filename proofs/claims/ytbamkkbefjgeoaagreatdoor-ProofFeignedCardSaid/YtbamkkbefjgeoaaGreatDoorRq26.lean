/- The great suite's multiples of its generator. -/
import Derived.Test.YtbamkkbefjgeoaaGreatDoorRq23
import Derived.Test.YtbamkkbefjgeoaaGreatDoorRq25
import Derived.Test.YtbamkkbefjgeoaaGreatDoorRq21
import Derived.Test.YtbamkkbefjgeoaaGreatDoorRq10
namespace Go.Rq.Sm
open Go Go.Proofs Go.Rq

/-! Points of the first curve, in both forms. -/
def toAp (p : Px) : Ap W6 := ⟨p.1, p.2.1, p.2.2⟩
def ofAp (a : Ap W6) : Px := (a.x, a.y, a.zero)
def ofE (y : Ap W6 × Int) : Px × Int := (ofAp y.1, y.2)
theorem toAp_ofAp (a : Ap W6) : toAp (ofAp a) = a := rfl
theorem decA (a : AV) : aW.agg.dec a = (cPx.agg.dec a).map toAp := by
  simp only [CC.agg]
  cases aggOf a with
  | none => rfl
  | some l =>
    show (cAp c6).dec l = _
    unfold cAp cPx CC.iso
    dsimp only
    cases (CC.prod c6 (CC.prod c6 cBool)).dec l <;> rfl
theorem fnA1 {β β' : Type} {B : Cod β} {B' : Cod β'} {F : Ap W6 → β} {ψ : β → β'} (hB : ∀ y, B.enc y = B'.enc (ψ y)) : fn1 aW.agg B F = fn1 cPx.agg B' (fun a => ψ (F (toAp a))) := by
  funext args
  unfold fn1
  split
  · rename_i a
    rw [decA]
    cases cPx.agg.dec a with
    | none => rfl
    | some x => simp only [Option.map, hB]
  · rfl
theorem fnA1c {γ β β' : Type} {D : Cod γ} {B : Cod β} {B' : Cod β'} {F : Ap W6 → γ → β} {ψ : β → β'} (hB : ∀ y, B.enc y = B'.enc (ψ y)) : fn2 aW.agg D B F = fn2 cPx.agg D B' (fun a d => ψ (F (toAp a) d)) := by
  funext args
  unfold fn2
  split
  · rename_i a d
    rw [decA]
    cases cPx.agg.dec a with
    | none => rfl
    | some x => cases D.dec d <;> simp only [Option.map, hB]
  · rfl
theorem fnA2 {β β' : Type} {B : Cod β} {B' : Cod β'} {F : Ap W6 → Ap W6 → β} {ψ : β → β'} (hB : ∀ y, B.enc y = B'.enc (ψ y)) : fn2 aW.agg aW.agg B F = fn2 cPx.agg cPx.agg B' (fun a b => ψ (F (toAp a) (toAp b))) := by
  funext args
  unfold fn2
  split
  · rename_i a b
    rw [decA, decA]
    cases cPx.agg.dec a with
    | none => rfl
    | some x => cases cPx.agg.dec b <;> simp only [Option.map, hB]
  · rfl
theorem kPW_enc (y : Ap W6 × Int) : kPW.enc y = kPE.enc (ofE y) := rfl
/-- A contract turned into the other form. -/
theorem in_to {I : Ap W6 → Bool} (h : CallOk PR 109 (fn1 aW.agg kBool I)) : CallOk PR 109 (fn1 cPx.agg kBool (fun p => I (toAp p))) := by
  rw [fnA1 (B' := kBool) (ψ := fun b => b) fun y => rfl] at h
  exact h
theorem ad_to {A : Ap W6 → Ap W6 → Ap W6 × Int} (h : CallOk PR 94 (fn2 aW.agg aW.agg kPW A)) : CallOk PR 94 (fn2 cPx.agg cPx.agg kPE (fun p q => ofE (A (toAp p) (toAp q)))) := by
  rw [fnA2 (B' := kPE) (ψ := ofE) kPW_enc] at h
  exact h
theorem mu_to {M : Ap W6 → W6 → Ap W6 × Int} (h : CallOk PR 36 (fn2 aW.agg c6.agg kPW M)) : CallOk PR 36 (fn2 cPx.agg c6.agg kPE (fun p n => ofE (M (toAp p) n))) := by
  rw [fnA1c (B' := kPE) (ψ := ofE) kPW_enc] at h
  exact h
theorem ne_to {N : Ap W6 → Ap W6 × Int} (h : CallOk PR 92 (fn1 aW.agg kPW N)) : CallOk PR 92 (fn1 cPx.agg kPE (fun p => ofE (N (toAp p)))) := by
  rw [fnA1 (B' := kPE) (ψ := ofE) kPW_enc] at h
  exact h

/-- What is needed of the first curve. -/
structure GrOk (I : Ap W6 → Bool) (A : Ap W6 → Ap W6 → Ap W6 × Int) (M : Ap W6 → W6 → Ap W6 × Int) (N : Ap W6 → Ap W6 × Int) (g : Ap W6) (ν : Nat → Ap W6) : Prop where
  chk : ∀ n, I (ν n) = true
  add : ∀ m n, (A (ν m) (ν n)).1 = ν (m + n)
  mul : ∀ (n : Nat) (x : W6), (M (ν n) x).1 = ν (n * x.val)
  neg : ∀ n, (N (ν n)).1 = ν (n * (rN - 1))
  inj : ∀ m n, ν m = ν n ↔ m % rN = n % rN
  gen : ν 1 = g
theorem rN_pos : 0 < rN := by unfold rN; decide

section
variable {K : Type} [Rg K] {iv : K → K} {e : K → K → Bool} {M P : K → W6 → Prop} {f : Fl K}
theorem gr_of (L : Lk iv e M P f) (hlt : ∀ {x : K} {w : W6}, P x w → w.val < pN) (C : Cv L.F f.b) : ∃ ν : Nat → Ap W6, GrOk inGroup1 addP1 sumP1W negP1 gen1P ν := by
  obtain ⟨G, g1, g2, g3, g4⟩ := L.gen hlt C
  have B := L.br hlt
  have pt : ∀ n, Go.Rq.Pt f.b (Go.Rq.nsm iv e G n) := fun n => nsm_pt L.F g2 n
  have ex : ∀ n, ∃ p : Ap W6, RA P (Go.Rq.nsm iv e G n) p := by
    intro n
    induction n with
    | zero => exact ⟨_, B.zp⟩
    | succ n ih =>
      obtain ⟨p, hp⟩ := ih
      exact ⟨_, (B.ad hp g1 (pt n) g2).2⟩
  obtain ⟨ν, hν⟩ : ∃ ν : Nat → Ap W6, ∀ n, RA P (Go.Rq.nsm iv e G n) (ν n) := ⟨fun n => Classical.choose (ex n), fun n => Classical.choose_spec (ex n)⟩
  have hadd : ∀ m n, (addP1 (ν m) (ν n)).1 = ν (m + n) := fun m n => by
    have h := (B.ad (hν m) (hν n) (pt m) (pt n)).2
    rw [← nsm_add L.F C g2] at h
    exact B.inj h (hν (m + n))
  refine ⟨ν, fun n => ?_, hadd, fun n x => ?_, fun n => ?_, ?_, ?_⟩
  · rw [L.ingN hlt C (hν n) (pt n), ← nsm_mul L.F C g2, Nat.mul_comm, nsm_mul L.F C g2, g4, nsm_zero]
  · have h := (L.nsm hlt C (hν n) (pt n) x).2
    rw [← nsm_mul L.F C g2] at h
    exact B.inj h (hν (n * x.val))
  · have h := (B.ne (hν n) (pt n)).2
    have hc := sum_cancel L.F C (pt (n * (rN - 1))) (pt n)
    rw [← nsm_add L.F C g2, nsm_mod L.F C g2 g4, Nat.add_comm, neg_mod n rN_pos] at hc
    have h0 : sumA iv e (Go.Rq.nsm iv e G 0) (negK (Go.Rq.nsm iv e G n)) = negK (Go.Rq.nsm iv e G n) := rfl
    rw [h0] at hc
    rw [hc] at h
    exact B.inj h (hν (n * (rN - 1)))
  · exact cyc_inj (ν := ν) (S := fun p q => (addP1 p q).1) (Z := fun p => p.zero) rN_pos hadd
      (fun n => by
        show (ν n).zero = _
        rw [← (hν n).z, nsm_none L.F C g2 pr_r g4 g3])
      (fun n => by
        have h := hν n
        rw [nsm_mod L.F C g2 g4] at h
        exact B.inj h (hν (n % rN)))
  · have h := hν 1
    rw [nsm_one] at h
    exact B.inj h g1
end
theorem gr_ex : ∃ ν : Nat → Ap W6, GrOk inGroup1 addP1 sumP1W negP1 gen1P ν := by
  obtain ⟨b, L, C⟩ := link1c
  exact gr_of L rp_lt C

/-! The great suite's keys. -/
def phG (ν : Nat → Ap W6) (n : Nat) : Kz := (0, ofAp (ν n), zLx)
section
variable {I : Ap W6 → Bool} {A : Ap W6 → Ap W6 → Ap W6 × Int} {M : Ap W6 → W6 → Ap W6 × Int} {N : Ap W6 → Ap W6 × Int} {g : Ap W6} {ν : Nat → Ap W6}
theorem rWx_val : rWx.val = rN := by decide +kernel
theorem zLx_is : eqLz zLx = true := rfl
theorem kch_gr (h : GrOk I A M N g ν) (n : Nat) : kchX (fun p => I (toAp p)) (toKx (phG ν n)) = true := by
  show (bif eqLz zLx then I (toAp (ofAp (ν n))) else false) = true
  rw [zLx_is, cond_true, toAp_ofAp, h.chk]
theorem ky1_gr (h : GrOk I A M N g ν) (n : Nat) {x : W6} (hx : x.val < rN) : ky1 (kchX (fun p => I (toAp p))) ordX cmpX x (toKx (phG ν n)) = 0 := by
  unfold ky1
  rw [kch_gr h]
  have e : ordX (toKx (phG ν n)).1 = rWx := rfl
  rw [e, cmpX_ge (by rw [rWx_val]; exact hx)]
  simp
theorem ky2_gr (h : GrOk I A M N g ν) (m n : Nat) : ky2 (kchX (fun p => I (toAp p))) ordX cmpX zW6 (toKx (phG ν m)) (toKx (phG ν n)) = 0 := by
  unfold ky2
  rw [kch_gr h, kch_gr h]
  have e : ordX (toKx (phG ν m)).1 = rWx := rfl
  have e2 : (toKx (phG ν m)).1.int = (toKx (phG ν n)).1.int := rfl
  rw [e, cmpX_ge (by rw [rWx_val]; exact rN_pos), e2]
  simp
theorem cy_gr (h : GrOk I A M N g ν) :
    Cy (fun a => kchX (fun p => I (toAp p)) (toKx a)) (fun i => sorF ordX (Sx.of i)) cmpX (kmuX (fun p => I (toAp p)) (fun p n => ofE (M (toAp p) n))) (kadX (fun p => I (toAp p)) (fun p q => ofE (A (toAp p) (toAp q))))
      (kneX (fun p => I (toAp p)) (fun p => ofE (N (toAp p)))) 0 rN (phG ν) where
  chk n := kch_gr h n
  sui n := rfl
  cmp x hx := by
    have e : (sorF ordX (Sx.of 0)).1 = rWx := rfl
    rw [e]
    exact cmpX_ge (by rw [rWx_val]; exact hx)
  mul n x hx := by
    unfold kmuX kmuG
    rw [ky1_gr h n hx]
    show (((0 : Int), ofAp (M (toAp (ofAp (ν n))) x).1, zLx), (0 : Int)) = _
    rw [toAp_ofAp, h.mul]
    rfl
  add m n := by
    unfold kadX kadG
    rw [ky2_gr h m n]
    show (((0 : Int), ofAp (A (toAp (ofAp (ν m))) (toAp (ofAp (ν n)))).1, zLx), (0 : Int)) = _
    rw [toAp_ofAp, toAp_ofAp, h.add]
    rfl
  neg n := by
    refine ⟨n * (rN - 1), ?_, neg_mod n rN_pos⟩
    unfold kneX kneG
    rw [ky1_gr h n (x := zW6) rN_pos]
    show (((0 : Int), ofAp (N (toAp (ofAp (ν n)))).1, zLx), (0 : Int)) = _
    rw [toAp_ofAp, h.neg]
    rfl
  inj m n := by
    rw [← h.inj]
    constructor
    · intro hh
      have hh : ofAp (ν m) = ofAp (ν n) := (Prod.mk.inj (Prod.mk.inj hh).2).1
      rw [← toAp_ofAp (ν m), hh, toAp_ofAp]
    · intro hh
      unfold phG; rw [hh]
end
end Go.Rq.Sm

/- Numbers divided: the walk of words.Divide. -/
namespace Go.Rq
open Go Go.Proofs

/-- Words may be written at places that are variables. -/
def envX (eqs : List (TypeId × List Nat)) (ps : PureTab) : Env := ⟨lookP ps, fun _ => none, lookE eqs, true, true, [], [], fun _ => none, none, fun _ => none, false, [], 2⟩
theorem envX_ok {P : Program} {eqs : List (TypeId × List Nat)} {ps : PureTab} (he : EqsOk P eqs) (hp : TabPOk P ps) : EnvOk P (envX eqs ps) :=
  ⟨fun _ _ h => he _ (lookE_mem h), fun _ _ h => hp _ (lookP_mem h), fun _ _ h => by simp [envX] at h, fun _ _ h => by simp [envX] at h, fun _ _ h => by simp [envX] at h, by show 1 ≤ 2; omega⟩
/-- What is left open. -/
structure DV where
  ln : W6 → Int
  bt : W6 → Int → Int
  sh : W6 → W6
  cm : W6 → W6 → Int
  su : W6 → W6 → W6 × Bool
def dvT (t : DV) : PureTab := [(74, fn1 c6.agg (kInt .i64) t.ln), (76, fn2 c6.agg (kInt .i64) (kInt .i64) t.bt), (75, fn2 c6.agg (kAt .i64 1) c6.agg (fun a _ => t.sh a)),
  (45, fn2 c6.agg c6.agg (kInt .i64) t.cm), (77, fn2 c6.agg c6.agg kWB t.su)]
def dvE (t : DV) : Env := envX eqsT (dvT t)
def dvK : Keep := ⟨[2, 3, 4, 5, 6, 7, 8, 9], [0, 2, 4, 6, 16, 18], 26⟩
@[irreducible] noncomputable def dvX (t : DV) (a b : W6) : XS := (entryOf PR (dvE t) [13, 20, 38, 43] (fun _ => none) 10 32 [c6.agg.enc a, c6.agg.enc orderW] [] 0 0 dvK).setB 2 (c6.enc b)
@[irreducible] noncomputable def dvI (t : DV) (a b : W6) (d : Int × (W6 × W6)) : XS := (((dvX t a b).setT 9 (.v (.int .i64 d.1))).setB 16 (c6.enc d.2.1)).setB 18 (c6.enc d.2.2)
@[irreducible] noncomputable def dvC : Code := roundOf PR 32 0
def dvOff (z : Int) : Nat := 0 + (quo64 z).toNat * 1
def dvCond (z : Int) : Bool := Nat.blt (dvOff z) 6 && (decide (0 ≤ quo64 z ∧ quo64 z < 6) && (decide (0 ≤ Int.tmod z 64) && (decide (dvOff z < 6) && (decide (0 ≤ quo64 z ∧ quo64 z < 6) && true))))
def dvBit (z : Int) (o : W6) : BitVec 64 := [o.w0, o.w1, o.w2, o.w3, o.w4, o.w5].getD (dvOff z) 0#64 ||| (1#64 <<< Nat.min (Int.tmod z 64).toNat 64)
def dvPut (z : Int) (o : W6) (u : BitVec 64) : W6 := ⟨bif Nat.beq (dvOff z) 0 then u else o.w0, bif Nat.beq (dvOff z) 1 then u else o.w1, bif Nat.beq (dvOff z) 2 then u else o.w2, bif Nat.beq (dvOff z) 3 then u else o.w3, bif Nat.beq (dvOff z) 4 then u else o.w4, bif Nat.beq (dvOff z) 5 then u else o.w5⟩
/-- What is left, with the next bit. -/
def dvNext (t : DV) (a : W6) (z : Int) (l : W6) : W6 := ⟨(t.sh l).w0 ||| BitVec.ofInt 64 (t.bt a z), (t.sh l).w1, (t.sh l).w2, (t.sh l).w3, (t.sh l).w4, (t.sh l).w5⟩
def dvTop (l : W6) : Bool := l.w5 >>> 63 == 1#64
set_option maxRecDepth 1000000 in
theorem dv_round (t : DV) (a b : W6) (z : Int) (o l : W6) : Tree.but [6] 0 (roundT PR (dvE t) [13, 20, 38, 43] (fun _ => none) 10 dvK dvK dvK dvC (dvI t a b (z, (o, l)))) =
    .br (decide (z ≥ 0))
      (.br (dvTop l)
        (.need (dvCond z) (.leaf (.normal, dvI t a b (IntKind.i64.wrap (z - 1), (dvPut z o (dvBit z o), (t.su (dvNext t a z l) b).1)))))
        (.br (decide (t.cm (dvNext t a z l) b ≥ 0))
          (.need (dvCond z) (.leaf (.normal, dvI t a b (IntKind.i64.wrap (z - 1), (dvPut z o (dvBit z o), (t.su (dvNext t a z l) b).1)))))
          (.need true (.leaf (.normal, dvI t a b (IntKind.i64.wrap (z - 1), (o, dvNext t a z l)))))))
      (.leaf (.exit 0, dvI t a b (z, (o, l)))) := by kernel_rfl
set_option maxRecDepth 1000000 in
theorem dv_head (t : DV) (a b : W6) : dvX t a b = dvI t a b (IntKind.i64.wrap (t.ln a - 1), (zeroW, zeroW)) := by kernel_rfl
theorem dv_blk : blkAll 0 (bodyOf PR 32) = [.loop dvC] := by kernel_rfl
@[irreducible] noncomputable def dvB (t : DV) (a b q r : W6) : BEnt := ⟨dvK.tm, dvK.ids, dvK.n, dvX t a b, .leaf (.normal, dvI t a b (-1, (q, r)))⟩
theorem dvB_n (t : DV) (a b q r : W6) : (dvB t a b q r).n = 26 ∧ (dvB t a b q r).pre = dvX t a b ∧ (dvB t a b q r).post = .leaf (.normal, dvI t a b (-1, (q, r))) := by
  unfold dvB
  exact ⟨rfl, rfl, rfl⟩
def kWWE : Cod (W6 × (W6 × Int)) where
  enc x := .tup [c6.agg.enc x.1, c6.agg.enc x.2.1, .v (.int .i64 x.2.2)]
  dec _ := none
  val x := .tuple #[c6.agg.val x.1, c6.agg.val x.2.1, .int .i64 x.2.2]
  h1 x := by rfl
  h2 ρ a v x h r := by cases h
set_option maxRecDepth 1000000 in
theorem dv_run (t : DV) (a b q r : W6) : (afunR PR (dvE t) [13, 20, 38, 43] (tabOf [(0, dvB t a b q r)]) 10 32 [c6.agg.enc a, c6.agg.enc b]).strict =
    .br (eqW b zeroW) (.leaf (kWWE.enc (zeroW, (zeroW, 2)))) (.same (dvX t a b) (dvX t a b) (.leaf (kWWE.enc (q, (r, 0))))) := by kernel_rfl
end Go.Rq

/- Numbers divided: the contract of words.Divide; what is left is below what divides. -/
namespace Go.Rq
open Go Go.Proofs

def dvO : DV := ⟨lenI, bitI, shl1, cmW, wSubW⟩
theorem dvT_eq : [(74, fn1 c6.agg (kInt .i64) lenI), (76, fn2 c6.agg (kInt .i64) (kInt .i64) bitI), (75, fn2 c6.agg (kAt .i64 1) c6.agg (fun a _ => shl1 a)),
  (45, fn2 c6.agg c6.agg (kInt .i64) fun a b => chainV (cmpL a b) 0), (77, fn2 c6.agg c6.agg kWB wSubW)] = dvT dvO := by kernel_rfl
theorem dvT_ok : TabPOk PR (dvT dvO) := Eq.subst (motive := TabPOk PR) dvT_eq (TabPOk.cons len_ok (TabPOk.cons bit_ok (TabPOk.cons shl1_ok (TabPOk.cons cmp_ok (TabPOk.cons wsub_ok TabPOk.nil)))))
theorem dvE_ok : EnvOk PR (dvE dvO) := envX_ok eqsT_ok dvT_ok
theorem dv_codeOk : codeOk (dvE dvO) dvC = true := by kernel_rfl

def dvStep (t : DV) (a b : W6) (z : Int) (x : W6 × W6) : W6 × W6 :=
  bif dvTop x.2 then (dvPut z x.1 (dvBit z x.1), (t.su (dvNext t a z x.2) b).1) else
  bif decide (t.cm (dvNext t a z x.2) b ≥ 0) then (dvPut z x.1 (dvBit z x.1), (t.su (dvNext t a z x.2) b).1) else (x.1, dvNext t a z x.2)
def dvG (t : DV) (a b : W6) : Nat → W6 × W6 → W6 × W6
  | 0, x => x
  | k + 1, x => dvG t a b k (dvStep t a b (k : Int) x)
theorem dvCond_ok {z : Int} (h0 : 0 ≤ z) (h1 : z ≤ 383) : dvCond z = true := by
  have hq := quo64_eq h0 h1
  have hm : Int.tmod z 64 = z % 64 := Int.tmod_eq_emod_of_nonneg h0
  have e : dvOff z < 6 := by unfold dvOff; rw [hq]; omega
  have e2 : Nat.blt (dvOff z) 6 = true := Nat.ble_eq_true_of_le e
  unfold dvCond
  rw [e2, hq, hm]
  have e3 : (0 : Int) ≤ z / 64 ∧ z / 64 < 6 := by omega
  have e4 : (0 : Int) ≤ z % 64 := by omega
  rw [decide_eq_true e3, decide_eq_true e4, decide_eq_true e]
  rfl
theorem dv_law (t : DV) (a b : W6) (rt : XS → Tree (AExit × XS)) (I : Int × (W6 × W6) → XS) (hr : ∀ (z : Int) (o l : W6), Tree.but [6] 0 (rt (I (z, (o, l)))) =
    .br (decide (z ≥ 0))
      (.br (dvTop l)
        (.need (dvCond z) (.leaf (.normal, I (IntKind.i64.wrap (z - 1), (dvPut z o (dvBit z o), (t.su (dvNext t a z l) b).1)))))
        (.br (decide (t.cm (dvNext t a z l) b ≥ 0))
          (.need (dvCond z) (.leaf (.normal, I (IntKind.i64.wrap (z - 1), (dvPut z o (dvBit z o), (t.su (dvNext t a z l) b).1)))))
          (.need true (.leaf (.normal, I (IntKind.i64.wrap (z - 1), (o, dvNext t a z l)))))))
      (.leaf (.exit 0, I (z, (o, l))))) {R : W6 × W6} {Q : AExit → XS → Prop} (hK : Q .normal (I (-1, R))) :
    ∀ d : Int × (W6 × W6), (-1 ≤ d.1 ∧ d.1 ≤ 383 ∧ dvG t a b (d.1 + 1).toNat d.2 = R) → (rt (I d)).holds (fun r => match r.1 with
      | .normal => ∃ j : Int × (W6 × W6), (-1 ≤ j.1 ∧ j.1 ≤ 383 ∧ dvG t a b (j.1 + 1).toNat j.2 = R) ∧ (j.1 + 1).toNat < (d.1 + 1).toNat ∧ r.2 = I j
      | .exit q => if q = 0 then Q .normal r.2 else Q (.exit q) r.2
      | .ret => Q .ret r.2) := by
  rintro ⟨z, o, l⟩ ⟨h0, h1, h2⟩
  apply Tree.holds_but (l := [6]) (i := 0)
  rw [hr]
  refine ⟨fun hz => ?_, fun hz => ?_⟩
  · have hz : 0 ≤ z := by simpa using hz
    have hc : dvCond z = true := dvCond_ok hz h1
    have hw : IntKind.i64.wrap (z - 1) = z - 1 := wrap_id (by omega) (by omega)
    have hk : (z + 1).toNat = z.toNat + 1 := by omega
    simp only at h2
    rw [hk] at h2
    simp only [dvG] at h2
    rw [show ((z.toNat : Nat) : Int) = z by omega] at h2
    have hk' : (z - 1 + 1).toNat = z.toNat := by omega
    have go : ∀ x : W6 × W6, dvStep t a b z (o, l) = x → ∃ j : Int × (W6 × W6), (-1 ≤ j.1 ∧ j.1 ≤ 383 ∧ dvG t a b (j.1 + 1).toNat j.2 = R) ∧ (j.1 + 1).toNat < (z + 1).toNat ∧ I (IntKind.i64.wrap (z - 1), x) = I j := by
      intro x hx
      refine ⟨(z - 1, x), ⟨by simp only; omega, by simp only; omega, ?_⟩, ?_, by rw [hw]⟩
      · simp only [hk']
        rw [← hx]; exact h2
      · show (z - 1 + 1).toNat < (z + 1).toNat
        omega
    refine ⟨fun ht => ⟨hc, go _ ?_⟩, fun ht => ⟨fun hd => ⟨hc, go _ ?_⟩, fun hd => ⟨rfl, go _ ?_⟩⟩⟩
    · unfold dvStep; simp only [ht, cond_true]
    · unfold dvStep; simp only [ht, hd, cond_true, cond_false]
    · unfold dvStep; simp only [ht, hd, cond_false]
  · have hz : z = -1 := by
      have : ¬ 0 ≤ z := by simpa using hz
      omega
    subst hz
    have h2 : (o, l) = R := h2
    show (if (0 : Nat) = 0 then Q .normal (I (-1, (o, l))) else Q (.exit 0) (I (-1, (o, l))))
    rw [if_pos rfl, h2]
    exact hK
def dvR (a b : W6) : W6 × W6 := dvG dvO a b (lenI a).toNat (zeroW, zeroW)
theorem dv_start (a b : W6) : ∀ d : Int × (W6 × W6), d = (IntKind.i64.wrap (dvO.ln a - 1), (zeroW, zeroW)) → -1 ≤ d.1 ∧ d.1 ≤ 383 ∧ dvG dvO a b (d.1 + 1).toNat d.2 = dvR a b := by
  rintro d rfl
  have hl := lenI_le a
  have hw : IntKind.i64.wrap (dvO.ln a - 1) = lenI a - 1 := wrap_id (n := lenI a - 1) (by omega) (by omega)
  rw [hw]
  refine ⟨?_, ?_, ?_⟩
  · show -1 ≤ lenI a - 1
    omega
  · show lenI a - 1 ≤ 383
    omega
  · show dvG dvO a b (lenI a - 1 + 1).toNat _ = dvG dvO a b (lenI a).toNat _
    rw [show lenI a - 1 + 1 = lenI a by omega]
theorem dv_loop (a b : W6) {Fr0 : Fr} {ds : List Deferred} {Q : AExit → XS → Prop} (hK : Q .normal (dvI dvO a b (-1, dvR a b))) :
    Tri PR Fr0 ds 0 (.block 0 (.loop dvC)) (dvX dvO a b) Q :=
  Eq.subst (motive := fun y => Tri PR Fr0 ds 0 (.block 0 (.loop dvC)) y Q) (dv_head dvO a b).symm <| blockLoop (m := 0) dvE_ok mixed (sym := [13, 20, 38, 43]) (tab := fun _ => none) (lf := 10) (k := dvK) (kx := dvK) (kr := dvK) (Nat.zero_le _) (Nat.zero_le _) (Nat.zero_le _) dv_codeOk (tabOk_none _)
    (dvI dvO a b) (fun d => -1 ≤ d.1 ∧ d.1 ≤ 383 ∧ dvG dvO a b (d.1 + 1).toNat d.2 = dvR a b) (fun d => (d.1 + 1).toNat) _ (dv_start a b _ rfl)
    (dv_law dvO a b _ (dvI dvO a b) (dv_round dvO a b) hK)
theorem dv_ctx (a b : W6) : Ctx PR (dvE dvO) [13, 20, 38, 43] (tabOf [(0, dvB dvO a b (dvR a b).1 (dvR a b).2)]) 10 32 :=
  ctx_of dvE_ok mixed (fn := Tryz.f32) (by kernel_rfl) (by kernel_rfl) (by kernel_rfl)
    (tabOk_one (Nat.zero_le _) dv_blk fun Fr0 ds Q h => by
      obtain ⟨-, h2, h3⟩ := dvB_n dvO a b (dvR a b).1 (dvR a b).2
      rw [h3] at h
      rw [h2]
      exact dv_loop a b h)
def divF (a b : W6) : W6 × (W6 × Int) := bif eqW b zeroW then (zeroW, (zeroW, 2)) else ((dvR a b).1, ((dvR a b).2, 0))
theorem div_tree {x : XS} (c : Bool) (u v w : W6 × (W6 × Int)) (hw : w = bif c then u else v) : (Tree.br c (.leaf (kWWE.enc u)) (.same x x (.leaf (kWWE.enc v)))).holds (fun q => flat q = some (kWWE.val w)) := by
  subst hw
  cases c with
  | true => exact ⟨fun _ => kWWE.h1 u, fun h => by cases h⟩
  | false => exact ⟨fun h => (by cases h), fun _ => ⟨rfl, kWWE.h1 v⟩⟩
theorem gives_div {t : Tree AV} {x : XS} {c : Bool} {u v w : W6 × (W6 × Int)} (e : t.strict = .br c (.leaf (kWWE.enc u)) (.same x x (.leaf (kWWE.enc v)))) (hw : w = bif c then u else v) : Gives t (kWWE.val w) :=
  ⟨Tree.holds_strict (by rw [e]; exact div_tree c u v w hw)⟩
theorem div_gives (a b : W6) : Gives (afunR PR (dvE dvO) [13, 20, 38, 43] (tabOf [(0, dvB dvO a b (dvR a b).1 (dvR a b).2)]) 10 32 [c6.agg.enc a, c6.agg.enc b]) (kWWE.val (divF a b)) := by
  unfold divF
  exact gives_div (dv_run dvO a b (dvR a b).1 (dvR a b).2) rfl
theorem div_ok : CallOk PR 32 (fn2 c6.agg c6.agg kWWE divF) :=
  .inl ⟨enters_of (fn := Tryz.f32) (by kernel_rfl) (by kernel_rfl) (by kernel_rfl), pure2X fun a b => .of (dv_ctx a b) (div_gives a b)⟩

/-! What is left is below what divides. -/
theorem or_low (m : Nat) : (2 * m ||| 1) = 2 * m + 1 := by
  have h := Nat.shiftLeft_add_eq_or_of_lt (i := 1) (b := 1) (by decide) m
  rw [Nat.shiftLeft_eq, show m * 2 ^ 1 = 2 * m by omega] at h
  exact h.symm
theorem or_bit (x : BitVec 64) {c : Int} (hc : c = 0 ∨ c = 1) : ((x <<< 1) ||| BitVec.ofInt 64 c).toNat = (x <<< 1).toNat + c.toNat := by
  have hx : (x <<< 1).toNat = 2 * (x.toNat % 9223372036854775808) := by
    rw [BitVec.toNat_shiftLeft, Nat.shiftLeft_eq]
    omega
  rcases hc with rfl | rfl
  · have e : BitVec.ofInt 64 0 = 0#64 := rfl
    rw [e, BitVec.or_zero]
    rfl
  · have e : BitVec.ofInt 64 1 = 1#64 := rfl
    rw [e, BitVec.toNat_or, hx]
    exact or_low _
theorem bitI_two (a : W6) (z : Int) : bitI a z = 0 ∨ bitI a z = 1 := by
  unfold bitI
  cases decide (z < 0) with
  | true => exact .inl rfl
  | false =>
    cases decide (z ≥ 384) with
    | true => exact .inl rfl
    | false =>
      cases a.bit z.toNat with
      | true => exact .inr rfl
      | false => exact .inl rfl
theorem next_nat (a : W6) (z : Int) {l : W6} (h : l.val < rN) : (dvNext dvO a z l).val = 2 * l.val + (bitI a z).toNat := by
  have h1 := shl1_nat l h
  have h2 := or_bit l.w0 (bitI_two a z)
  have e : (dvNext dvO a z l).val = (shl1 l).val + (bitI a z).toNat := by
    show W6.val ⟨(shl1 l).w0 ||| BitVec.ofInt 64 (bitI a z), (shl1 l).w1, (shl1 l).w2, (shl1 l).w3, (shl1 l).w4, (shl1 l).w5⟩ = _
    have h3 : ((shl1 l).w0 ||| BitVec.ofInt 64 (bitI a z)).toNat = (shl1 l).w0.toNat + (bitI a z).toNat := h2
    unfold W6.val
    dsimp only
    rw [h3]
    omega
  rw [e, h1]
theorem top_low {l : W6} (h : l.val < rN) : dvTop l = false := by
  have h5 : l.w5.toNat = 0 := by
    unfold W6.val rN at h
    omega
  have e : l.w5 = 0#64 := BitVec.eq_of_toNat_eq h5
  unfold dvTop
  rw [e]; rfl
theorem sub_nat {x b : W6} (h : b.val ≤ x.val) : (wSubW x b).1.val = x.val - b.val := by
  have h1 := subs_nat x b
  have h2 := W6.val_lt (subs x b).1
  have h3 := W6.val_lt x
  show (subs x b).1.val = _
  cases hb : (subs x b).2 with
  | false =>
    rw [hb] at h1
    have : b2n false = 0 := rfl
    rw [this] at h1
    omega
  | true =>
    rw [hb] at h1
    have : b2n true = 1 := rfl
    rw [this] at h1
    omega
theorem step_lt {a b : W6} (hb : b.val ≤ rN) (z : Int) {x : W6 × W6} (h : x.2.val < b.val) : (dvStep dvO a b z x).2.val < b.val := by
  have hl : x.2.val < rN := by omega
  have h1 := next_nat a z hl
  have h2 := cmW_nat (dvNext dvO a z x.2) b
  have h3 : (bitI a z).toNat ≤ 1 := by rcases bitI_two a z with e | e <;> rw [e] <;> decide
  unfold dvStep
  rw [top_low hl, cond_false]
  by_cases hd : dvO.cm (dvNext dvO a z x.2) b ≥ 0
  · rw [decide_eq_true hd, cond_true]
    have hd : cmW (dvNext dvO a z x.2) b ≥ 0 := hd
    have h4 : b.val ≤ (dvNext dvO a z x.2).val := by
      have := mt h2.2 (by omega)
      omega
    have h5 := sub_nat h4
    show (wSubW (dvNext dvO a z x.2) b).1.val < b.val
    omega
  · rw [decide_eq_false hd, cond_false]
    have hd : ¬ cmW (dvNext dvO a z x.2) b ≥ 0 := hd
    have h4 := h2.1 (by omega)
    exact h4
theorem dvG_lt {a b : W6} (hb : b.val ≤ rN) : ∀ (k : Nat) {x : W6 × W6}, x.2.val < b.val → (dvG dvO a b k x).2.val < b.val
  | 0, _, h => h
  | k + 1, _, h => dvG_lt hb k (step_lt hb _ h)
/-- What is left. -/
theorem div_left {a b : W6} (hb : b.val ≤ rN) (h0 : 0 < b.val) : (divF a b).2.1.val < b.val := by
  have e : eqW b zeroW = false := by
    rw [Bool.eq_false_iff]
    intro h
    rw [(eqW_iff _ _).1 h, zero_val] at h0
    omega
  unfold divF
  rw [e, cond_false]
  exact dvG_lt hb _ (by rw [zero_val]; exact h0)
end Go.Rq

/- The law ProofFeigned, gone through: what is called left open. -/
namespace Go.Rq.Sm
open Go Go.Proofs Go.Rq

/-! The suites' generators. -/
noncomputable def lgnE : Env := envOf eqsT [(79, lofG)]
def lgnF : Sx → Lp × Int
  | .li => ((9723#64, 164643#64, false), 0)
  | .mi => ((613740293506734924#64, 666621259561003659#64, false), 0)
  | _ => (zLx, 2)
theorem lgn_run (s : Sx) : valS (afunR PR lgnE [] (fun _ => none) 10 34 [kSx.enc s]) = some (kLE.val (lgnF s)) := by cases s <;> kernel_rfl
theorem lgn_ctx : Ctx PR lgnE [] (fun _ => none) 10 34 :=
  ctx_of (envOf_ok eqsT_ok (TabPOk.cons lof_ok TabPOk.nil)) mixed (fn := Tryz.f34) (by kernel_rfl) (by kernel_rfl) (by kernel_rfl) (tabOk_none _)
theorem lgn_ok : CallOk PR 34 (fn1 kSx kLE lgnF) :=
  .inl ⟨enters_of (fn := Tryz.f34) (by kernel_rfl) (by kernel_rfl) (by kernel_rfl), pure1 lgn_ctx fun s => givesV (lgn_run s)⟩
noncomputable def sgnE (G : Px) (L : Sx → Lp × Int) : Env := envOf eqsT [(33, fn0 cPx.agg G), (34, fn1 kSx kLE L)]
def sgnF (G : Px) : Sx → Kx × Int
  | .gr => ((.gr, G, zLx), 0)
  | .li => ((.li, zPx, (9723#64, 164643#64, false)), 0)
  | .mi => ((.mi, zPx, (613740293506734924#64, 666621259561003659#64, false)), 0)
  | _ => (zKx, 2)
theorem sgn_run (G : Px) (s : Sx) : valS (afunR PR (sgnE G lgnF) [] (fun _ => none) 10 8 [kSx.enc s]) = some (kKE.val (sgnF G s)) := by cases s <;> kernel_rfl
theorem sgn_ctx {G : Px} (h : CallOk PR 33 (fn0 cPx.agg G)) : Ctx PR (sgnE G lgnF) [] (fun _ => none) 10 8 :=
  ctx_of (envOf_ok eqsT_ok (TabPOk.cons h (TabPOk.cons lgn_ok TabPOk.nil))) mixed (fn := Tryz.f8) (by kernel_rfl) (by kernel_rfl) (by kernel_rfl) (tabOk_none _)
theorem sgn_okx {G : Px} (h : CallOk PR 33 (fn0 cPx.agg G)) : CallOk PR 8 (fn1 kSx kKE (sgnF G)) :=
  .inl ⟨enters_of (fn := Tryz.f8) (by kernel_rfl) (by kernel_rfl) (by kernel_rfl), pure1 (sgn_ctx h) fun s => givesV (sgn_run G s)⟩
theorem fn1B {α β β' : Type} {A : Cod α} {B : Cod β} {B' : Cod β'} {F : α → β} {ψ : β → β'} (hB : ∀ y, B.enc y = B'.enc (ψ y)) : fn1 A B F = fn1 A B' (fun a => ψ (F a)) := by
  funext args
  unfold fn1
  split
  · rename_i a
    cases A.dec a with
    | none => rfl
    | some x => simp only [hB]
  · rfl
def sgnX (G : Px) (i : Int) : Kz × Int := toE (sgnF G (Sx.of i))
theorem sgn_ok {G : Px} (h : CallOk PR 33 (fn0 cPx.agg G)) : CallOk PR 8 (fn1 (kInt .i64) kKzE (sgnX G)) := by
  have k := sgn_okx h
  rw [fnS1, fn1B (B' := kKzE) (ψ := toE) fun y => rfl] at k
  exact k

/-! Fits as a function of its data. -/
def pfiF (K : Kz → Bool) (O : Int → W6 × Int) (C : W6 → W6 → Int) (T : Kz → W6 → Kz) (A : ZZ) (base key begin : Kz) (c z : W6) : Bool × Int :=
  (bif pk3 K O C base key begin c z != 0 then false else eqKz (T base z) (A begin (T key c)).1, bif pk3 K O C base key begin c z != 0 then pk3 K O C base key begin c z else 0)
set_option maxRecDepth 100000 in
theorem pfi_val (K : Kz → Bool) (O : Int → W6 × Int) (C : W6 → W6 → Int) (T : Kz → W6 → Kz) (A : ZZ) (base key begin : Kz) (c z : W6) :
    valS (afunR PR (pfiE K O C T A) [22] (fun _ => none) 20 12 [cKz.agg.enc base, cKz.agg.enc key, cKz.agg.enc begin, c6.agg.enc c, c6.agg.enc z]) = some (kBE.val (pfiF K O C T A base key begin c z)) := by kernel_rfl
theorem pfiB_ok {K : Kz → Bool} {O : Int → W6 × Int} {C : W6 → W6 → Int} {T : Kz → W6 → Kz} {A : ZZ} (hY : HeapOk PR 43 (pckV K O C)) (hT : CallOk PR 49 (fn2 cKz.agg c6.agg cKz.agg T))
    (hA : CallOk PR 50 (fn2 cKz.agg cKz.agg kKzE A)) : CallOk PR 12 (fn5 cKz.agg cKz.agg cKz.agg c6.agg c6.agg kBE (pfiF K O C T A)) :=
  .inl ⟨enters_of (fn := Tryz.f12) (by kernel_rfl) (by kernel_rfl) (by kernel_rfl),
    pure5 (ctx_of (envA_ok eqsT_ok (TabPOk.cons (pft_ok hT hA) TabPOk.nil) (TabHOk.cons pck_ent hY TabHOk.nil) TabLOk.nil TabAOk.nil) mixed (fn := Tryz.f12) (by kernel_rfl) (by kernel_rfl) (by kernel_rfl) (tabOk_none _))
      fun base key begin c z => givesV (pfi_val K O C T A base key begin c z)⟩

/-! Scalars. -/
abbrev DF : Type := W6 → W6 → W6 × (W6 × Int)
def scE (O : Int → W6 × Int) (D : DF) : Env := envD eqsT [(31, fn1 (kInt .i64) kWE O), (32, fn2 c6.agg c6.agg kWWE D)] [] [] [] [] false []
noncomputable def scG (O : Int → W6 × Int) (D : DF) : List AV → AH → Nat → Option (Bool × AV × AH) := deepG PR (scE O D) [] 30 7 4096 true
theorem sc_ent : Enters PR 7 := enters_of (fn := Tryz.f7) (by kernel_rfl) (by kernel_rfl) (by kernel_rfl)
theorem sc_ok {O : Int → W6 × Int} {D : DF} (hO : CallOk PR 31 (fn1 (kInt .i64) kWE O)) (hD : CallOk PR 32 (fn2 c6.agg c6.agg kWWE D)) : ActOk PR 4096 7 (scG O D) :=
  deep_ok (ctx_of (envD_ok eqsT_ok (TabPOk.cons hO (TabPOk.cons hD TabPOk.nil)) TabHOk.nil TabLOk.nil TabDOk.nil) mixed (fn := Tryz.f7) (by kernel_rfl) (by kernel_rfl) (by kernel_rfl) (tabOk_none _))
end Go.Rq.Sm

/- The law ProofFeigned, gone through and true. -/
namespace Go.Rq.Sm
open Go Go.Proofs Go.Rq

/-! Contracts of six arguments. -/
def fn6 {α γ δ ε ζ η β : Type} (A : Cod α) (C : Cod γ) (D : Cod δ) (G : Cod ε) (H : Cod ζ) (J : Cod η) (B : Cod β) (F : α → γ → δ → ε → ζ → η → β) : List AV → Option (Bool × AV)
  | [a, c, d, g, h, j] => match A.dec a, C.dec c, D.dec d, G.dec g, H.dec h, J.dec j with
    | some x, some y, some z, some u, some v, some w => some (true, B.enc (F x y z u v w))
    | _, _, _, _, _, _ => none
  | _ => none
theorem pure6 {P : Program} {E : Env} {sym : List Tmp} {tab : BTab} {lf f : Nat} {α β γ δ ε ζ η : Type} {A : Cod α} {B : Cod β} {C : Cod γ} {D : Cod δ} {G : Cod ε} {H : Cod ζ} {J : Cod η} (X : Ctx P E sym tab lf f) {F : α → γ → δ → ε → ζ → η → β}
    (h : ∀ x y z u v w, Gives (afunR P E sym tab lf f [A.enc x, C.enc y, D.enc z, G.enc u, H.enc v, J.enc w]) (B.val (F x y z u v w))) : PureOk P f (fn6 A C D G H J B F) := by
  refine pure_core X fun args r hg => ?_
  unfold fn6 at hg
  split at hg
  · rename_i a c d g q s
    split at hg
    · rename_i x y z u v w hx hy hz hu hv hw
      simp only [Option.some.injEq, Prod.mk.injEq, true_and] at hg
      subst hg
      refine ⟨[A.enc x, C.enc y, D.enc z, G.enc u, H.enc v, J.enc w], [A.val x, C.val y, D.val z, G.val u, H.val v, J.val w], fun ρ xs hxs => ?_, by simp [flatL, A.h1, C.h1, D.h1, G.h1, H.h1, J.h1], _, B.h1 _, (h x y z u v w).out⟩
      obtain ⟨v1, l1, rfl, h1, k1⟩ := hxs.uncons
      obtain ⟨v2, l2, rfl, h2, k2⟩ := k1.uncons
      obtain ⟨v3, l3, rfl, h3, k3⟩ := k2.uncons
      obtain ⟨v4, l4, rfl, h4, k4⟩ := k3.uncons
      obtain ⟨v5, l5, rfl, h5, k5⟩ := k4.uncons
      obtain ⟨v6, l6, rfl, h6, k6⟩ := k5.uncons
      rw [k6.unnil, A.h2 ρ _ _ _ hx h1, C.h2 ρ _ _ _ hy h2, D.h2 ρ _ _ _ hz h3, G.h2 ρ _ _ _ hu h4, H.h2 ρ _ _ _ hv h5, J.h2 ρ _ _ _ hw h6]
    · cases hg
  · cases hg

/-! The run. -/
abbrev F4Z : Type := Kz → Kz → W6 → W6 → Kz × Int
abbrev F5Z : Type := Kz → Kz → Kz → W6 → W6 → Bool × Int
noncomputable def fdE (GN : Int → Kz × Int) (M : ZM) (FG : F4Z) (FI : F5Z) (O : Int → W6 × Int) (D : DF) : Env :=
  envD eqsT [(8, fn1 (kInt .i64) kKzE GN), (9, fn2 cKz.agg c6.agg kKzE M), (14, fn4 cKz.agg cKz.agg c6.agg c6.agg kKzE FG), (12, fn5 cKz.agg cKz.agg cKz.agg c6.agg c6.agg kBE FI), (6, fn0 kBool true)]
    [] [] [(7, scG O D)] [] false [7]
def fdSy : List Tmp := [32, 35, 113, 117, 121, 125, 128]
def fdB (M : ZM) (FG : F4Z) (FI : F5Z) (g : Kz) (l0 l1 l2 l3 l4 : W6) : Bool :=
  bif (FG (M g l0).1 (M g l1).1 l2 l3).2 == 0 then (bif (FI (M g l0).1 (M g l1).1 (FG (M g l0).1 (M g l1).1 l2 l3).1 l2 l3).2 == 0 then (bif (FI (M g l0).1 (M g l1).1 (M g l4).1 l2 l3).2 == 0 then
    (bif (FI (M g l0).1 (M g l1).1 (FG (M g l0).1 (M g l1).1 l2 l3).1 l2 l3).1 then ((FI (M g l0).1 (M g l1).1 (M g l4).1 l2 l3).1 == eqKz (M g l4).1 (FG (M g l0).1 (M g l1).1 l2 l3).1) else false) else false) else false) else false
def fdV (GN : Int → Kz × Int) (M : ZM) (FG : F4Z) (FI : F5Z) (O : Int → W6 × Int) (D : DF) (s : Int) (x0 x1 x2 x3 x4 : W6) : Bool :=
  bif decide (s < 0) then true else bif decide (s > 2) then true else
    fdB M FG FI (GN s).1 (D x0 (O s).1).2.1 (D x1 (O s).1).2.1 (D x2 (O s).1).2.1 (D x3 (O s).1).2.1 (D x4 (O s).1).2.1
set_option maxRecDepth 1000000 in
theorem fd_run (GN : Int → Kz × Int) (M : ZM) (FG : F4Z) (FI : F5Z) (O : Int → W6 × Int) (D : DF) (s : Int) (x0 x1 x2 x3 x4 : W6) :
    valS (afunR PR (fdE GN M FG FI O D) fdSy (fun _ => none) 30 4 [(kInt .i64).enc s, c6.agg.enc x0, c6.agg.enc x1, c6.agg.enc x2, c6.agg.enc x3, c6.agg.enc x4]) = some (kBool.val (fdV GN M FG FI O D s x0 x1 x2 x3 x4)) := by kernel_rfl

/-! It is true. -/
section
variable {K : Kz → Bool} {O : Int → W6 × Int} {C : W6 → W6 → Int} {M : ZM} {A : ZZ} {N : Kz → Kz × Int} {s : Int} {r : Nat} {φ : Nat → Kz}
theorem fdB_true (h : Cy K O C M A N s r φ) {l0 l1 l2 l3 l4 : W6} (h0 : l0.val < r) (h1 : l1.val < r) (h2 : l2.val < r) (h3 : l3.val < r) (h4 : l4.val < r) :
    fdB M (pfgF K O C (fun a n => (M a n).1) A N) (pfiF K O C (fun a n => (M a n).1) A) (φ 1) l0 l1 l2 l3 l4 = true := by
  obtain ⟨k1, k2, k3, k4, k5⟩ := h.feigned (1 * l0.val) (1 * l1.val) (1 * l4.val) h2 h3
  unfold fdB
  rw [h.mul 1 l0 h0, h.mul 1 l1 h1, h.mul 1 l4 h4]
  dsimp only
  unfold pfiF
  rw [k1, k3, k2 (1 * l4.val)]
  simp only [bne_self_eq_false, cond_false, beq_self_eq_true, cond_true]
  rw [k4, cond_true, k5, beq_self_eq_true]
end
end Go.Rq.Sm

/- The law ProofFeigned: what its functions come to makes it true. -/
namespace Go.Rq.Sm
open Go Go.Proofs Go.Rq

section
variable {K : Kz → Bool} {O : Int → W6 × Int} {C : W6 → W6 → Int} {M : ZM} {A : ZZ} {N : Kz → Kz × Int} {GN : Int → Kz × Int} {D : DF}
/-- What is needed of a suite. -/
def SuOk (K : Kz → Bool) (O : Int → W6 × Int) (C : W6 → W6 → Int) (M : ZM) (A : ZZ) (N : Kz → Kz × Int) (GN : Int → Kz × Int) (D : DF) (s : Int) : Prop :=
  ∃ (r : Nat) (φ : Nat → Kz), Cy K O C M A N s r φ ∧ (GN s).1 = φ 1 ∧ ∀ x, (D x (O s).1).2.1.val < r
theorem fdV_true (h : ∀ s : Int, 0 ≤ s → s ≤ 2 → SuOk K O C M A N GN D s) (s : Int) (x0 x1 x2 x3 x4 : W6) :
    fdV GN M (pfgF K O C (fun a n => (M a n).1) A N) (pfiF K O C (fun a n => (M a n).1) A) O D s x0 x1 x2 x3 x4 = true := by
  unfold fdV
  by_cases h1 : s < 0
  · rw [decide_eq_true h1, cond_true]
  · rw [decide_eq_false h1, cond_false]
    by_cases h2 : s > 2
    · rw [decide_eq_true h2, cond_true]
    · rw [decide_eq_false h2, cond_false]
      obtain ⟨r, φ, k1, k2, k3⟩ := h s (by omega) (by omega)
      rw [k2]
      exact fdB_true k1 (k3 x0) (k3 x1) (k3 x2) (k3 x3) (k3 x4)
end

/-! The functions as they are. -/
def inX (p : Px) : Bool := inGroup1 (toAp p)
def adX (p q : Px) : Px × Int := ofE (addP1 (toAp p) (toAp q))
def muX (p : Px) (n : W6) : Px × Int := ofE (sumP1W (toAp p) n)
def neX (p : Px) : Px × Int := ofE (negP1 (toAp p))
theorem inX_ok : CallOk PR 109 (fn1 cPx.agg kBool inX) := in_to isinp1_ok
theorem adX_ok : CallOk PR 94 (fn2 cPx.agg cPx.agg kPE adX) := ad_to addp1_ok
theorem muX_ok : CallOk PR 36 (fn2 cPx.agg c6.agg kPE muX) := mu_to mulp1_ok
theorem neX_ok : CallOk PR 92 (fn1 cPx.agg kPE neX) := ne_to negp1_ok
theorem gn_to {G : Ap W6} (h : CallOk PR 33 (fn0 (cAp c6).agg G)) : CallOk PR 33 (fn0 cPx.agg (ofAp G)) := h
theorem gnX_ok : CallOk PR 33 (fn0 cPx.agg (ofAp gen1P)) := gn_to gen1_ok
noncomputable abbrev KZ : Kz → Bool := fun a => kchX inX (toKx a)
noncomputable abbrev OZ : Int → W6 × Int := fun i => sorF ordX (Sx.of i)
noncomputable abbrev MZ : ZM := kmuX inX muX
noncomputable abbrev AZ : ZZ := kadX inX adX
noncomputable abbrev NZ : Kz → Kz × Int := kneX inX neX
noncomputable abbrev GZ : Int → Kz × Int := sgnX (ofAp gen1P)
theorem MZ_ok : CallOk PR 9 (fn2 cKz.agg c6.agg kKzE MZ) := kmuX_ok inX_ok muX_ok
theorem AZ_ok : CallOk PR 50 (fn2 cKz.agg cKz.agg kKzE AZ) := kadX_ok inX_ok adX_ok
theorem GZ_ok : CallOk PR 8 (fn1 (kInt .i64) kKzE GZ) := sgn_ok gnX_ok
theorem OZ_ok : CallOk PR 31 (fn1 (kInt .i64) kWE OZ) := sor_ok
theorem FGZ_ok : CallOk PR 14 (fn4 cKz.agg cKz.agg c6.agg c6.agg kKzE (pfgF KZ OZ cmpX (fun a n => (MZ a n).1) AZ NZ)) := pfgX_ok inX_ok adX_ok muX_ok neX_ok
theorem FIZ_ok : CallOk PR 12 (fn5 cKz.agg cKz.agg cKz.agg c6.agg c6.agg kBE (pfiF KZ OZ cmpX (fun a n => (MZ a n).1) AZ)) :=
  pfiB_ok (pck_ok (kchZ_ok inX_ok) sor_ok cmp_ok) (ptm_ok MZ_ok) AZ_ok
theorem scZ_ok : ActOk PR 4096 7 (scG OZ divF) := sc_ok OZ_ok div_ok

/-! The three suites. -/
theorem div_in {o : W6} {r : Nat} (h : o.val = r) (hr : r ≤ rN) (h0 : 0 < r) (x : W6) : (divF x o).2.1.val < r := by
  have k := div_left (a := x) (b := o) (by rw [h]; exact hr) (by rw [h]; exact h0)
  rw [h] at k
  exact k
theorem suRn_rN (s : Su) : suRn s ≤ rN := by cases s <;> (unfold suRn rN; decide)
theorem su_gr {I : Ap W6 → Bool} {A : Ap W6 → Ap W6 → Ap W6 × Int} {M : Ap W6 → W6 → Ap W6 × Int} {N : Ap W6 → Ap W6 × Int} {g : Ap W6} (h : ∃ ν, GrOk I A M N g ν) :
    SuOk (fun a => kchX (fun p => I (toAp p)) (toKx a)) OZ cmpX (kmuX (fun p => I (toAp p)) (fun p n => ofE (M (toAp p) n))) (kadX (fun p => I (toAp p)) (fun p q => ofE (A (toAp p) (toAp q))))
      (kneX (fun p => I (toAp p)) (fun p => ofE (N (toAp p)))) (sgnX (ofAp g)) divF 0 := by
  obtain ⟨ν, hν⟩ := h
  refine ⟨rN, phG ν, cy_gr hν, ?_, fun x => ?_⟩
  · unfold phG
    rw [hν.gen]
    rfl
  · have e : (OZ 0).1 = rWx := rfl
    rw [e]
    exact div_in rWx_val (Nat.le_refl _) rN_pos x
theorem su_lit (I : Px → Bool) (A1 : Px → Px → Px × Int) (M1 : Px → W6 → Px × Int) (N1 : Px → Px × Int) (G : Px) (s : Su) :
    SuOk (fun a => kchX I (toKx a)) OZ cmpX (kmuX I M1) (kadX I A1) (kneX I N1) (sgnX G) divF (suSx s).int := by
  refine ⟨suRn s, phS s, cy_lit I A1 M1 N1 s, ?_, fun x => ?_⟩
  · have e : wp (nu s 1) = (suX s, suY s, false) := by
      unfold nu
      rw [Cw.nsm_one, genA_wp]
    unfold phS
    rw [e]
    cases s <;> rfl
  · have e : (OZ (suSx s).int).1 = ordX (suSx s) := by
      show (sorF ordX (Sx.of (suSx s).int)).1 = _
      rw [Sx.of_int]; cases s <;> rfl
    rw [e]
    exact div_in (ordX_val s) (suRn_rN s) (suRn_pos s) x
theorem su_all (s : Int) (h0 : 0 ≤ s) (h2 : s ≤ 2) : SuOk KZ OZ cmpX MZ AZ NZ GZ divF s := by
  have h : s = 0 ∨ s = (suSx .lit).int ∨ s = (suSx .mid).int := by
    show s = 0 ∨ s = 1 ∨ s = 2
    omega
  rcases h with rfl | rfl | rfl
  · exact su_gr gr_ex
  · exact su_lit inX adX muX neX (ofAp gen1P) .lit
  · exact su_lit inX adX muX neX (ofAp gen1P) .mid

/-! The law. -/
theorem fdE_ok {GN : Int → Kz × Int} {M : ZM} {FG : F4Z} {FI : F5Z} {O : Int → W6 × Int} {D : DF} (h1 : CallOk PR 8 (fn1 (kInt .i64) kKzE GN)) (h2 : CallOk PR 9 (fn2 cKz.agg c6.agg kKzE M))
    (h3 : CallOk PR 14 (fn4 cKz.agg cKz.agg c6.agg c6.agg kKzE FG)) (h4 : CallOk PR 12 (fn5 cKz.agg cKz.agg cKz.agg c6.agg c6.agg kBE FI)) (h5 : ActOk PR 4096 7 (scG O D)) (h6 : CallOk PR 6 (fn0 kBool true)) :
    EnvOk PR (fdE GN M FG FI O D) :=
  envD_ok eqsT_ok (TabPOk.cons h1 (TabPOk.cons h2 (TabPOk.cons h3 (TabPOk.cons h4 (TabPOk.cons h6 TabPOk.nil))))) TabHOk.nil TabLOk.nil (TabDOk.cons sc_ent h5 TabDOk.nil)
theorem fd_ctx {GN : Int → Kz × Int} {M : ZM} {FG : F4Z} {FI : F5Z} {O : Int → W6 × Int} {D : DF} (h : EnvOk PR (fdE GN M FG FI O D)) : Ctx PR (fdE GN M FG FI O D) fdSy (fun _ => none) 30 4 :=
  ctx_of h mixed (fn := Tryz.f4) (by kernel_rfl) (by kernel_rfl) (by kernel_rfl) (tabOk_none _)
theorem fd_pure {GN : Int → Kz × Int} {M : ZM} {FG : F4Z} {FI : F5Z} {O : Int → W6 × Int} {D : DF} (h : EnvOk PR (fdE GN M FG FI O D)) (ht : ∀ s x0 x1 x2 x3 x4, fdV GN M FG FI O D s x0 x1 x2 x3 x4 = true) :
    PureOk PR 4 (fn6 (kInt .i64) c6.agg c6.agg c6.agg c6.agg c6.agg kBool (fun _ _ _ _ _ _ => true)) :=
  pure6 (fd_ctx h) fun s x0 x1 x2 x3 x4 => by
    have k := givesV (fd_run GN M FG FI O D s x0 x1 x2 x3 x4)
    rw [ht] at k
    exact k
/-- The law holds, where awake answers true. -/
theorem feigned_pure (h : CallOk PR 6 (fn0 kBool true)) : PureOk PR 4 (fn6 (kInt .i64) c6.agg c6.agg c6.agg c6.agg c6.agg kBool (fun _ _ _ _ _ _ => true)) :=
  fd_pure (fdE_ok GZ_ok MZ_ok FGZ_ok FIZ_ok scZ_ok h) (fdV_true su_all)
theorem feigned_fn (s : Int) (x0 x1 x2 x3 x4 : W6) : fn6 (kInt .i64) c6.agg c6.agg c6.agg c6.agg c6.agg kBool (fun _ _ _ _ _ _ => true) [(kInt .i64).enc s, c6.agg.enc x0, c6.agg.enc x1, c6.agg.enc x2, c6.agg.enc x3, c6.agg.enc x4] = some (true, kBool.enc true) := by kernel_rfl
theorem feigned_rvs (s : Int) (x0 x1 x2 x3 x4 : W6) (ρ : Ren) : Rvs ρ [(kInt .i64).enc s, c6.agg.enc x0, c6.agg.enc x1, c6.agg.enc x2, c6.agg.enc x3, c6.agg.enc x4] [(kInt .i64).val s, c6.agg.val x0, c6.agg.val x1, c6.agg.val x2, c6.agg.val x3, c6.agg.val x4] :=
  Rvs.of_flatL (by simp [flatL, (kInt .i64).h1, c6.agg.h1])
end Go.Rq.Sm

/- SHA-256's block: what is gone through. -/
namespace Go.Rq.Cl
open Go Go.Proofs Go.Rq Go.Rq.Sm

abbrev kW : Cod Int := kInt .u32
/-- The operations on words of 32 bits, as the model has them. -/
def wAdd (x y : Int) : Int := IntKind.u32.wrap (x + y)
def wXor (x y : Int) : Int := IntKind.u32.wrap ((BitVec.ofInt 32 x ^^^ BitVec.ofInt 32 y).toNat : Int)
def wAnd (x y : Int) : Int := IntKind.u32.wrap ((BitVec.ofInt 32 x &&& BitVec.ofInt 32 y).toNat : Int)
def wOr (x y : Int) : Int := IntKind.u32.wrap ((BitVec.ofInt 32 x ||| BitVec.ofInt 32 y).toNat : Int)
def wShl (x : Int) (n : Nat) : Int := IntKind.u32.wrap (x * 2 ^ n)
def wShr (x : Int) (n : Nat) : Int := x.fdiv (2 ^ n)
def wNot (x : Int) : Int := wXor IntKind.u32.max x
def rolG (x k : Int) : Int := wOr (wShl x (min (Int.ofNat (BitVec.ofInt 64 k &&& BitVec.ofInt 64 31).toNat).toNat 32)) (wShr x (min (Int.ofNat (BitVec.ofInt 64 32 - (BitVec.ofInt 64 k &&& BitVec.ofInt 64 31)).toNat).toNat 32))
theorem rol_run (x k : Int) : (afunR PR (envOf eqsT []) [] (fun _ => none) 10 199 [kW.enc x, (kInt .i64).enc k]).strict = .leaf (kW.enc (rolG x k)) := by kernel_rfl
theorem rol_ctx : Ctx PR (envOf eqsT []) [] (fun _ => none) 10 199 :=
  ctx_of (envOf_ok eqsT_ok TabPOk.nil) mixed (fn := Tryz.f199) (by kernel_rfl) (by kernel_rfl) (by kernel_rfl) (tabOk_none _)
theorem rol_ok : CallOk PR 199 (fn2 kW (kInt .i64) kW rolG) :=
  .inl ⟨enters_of (fn := Tryz.f199) (by kernel_rfl) (by kernel_rfl) (by kernel_rfl), pure2 rol_ctx fun x k => leafVal (B := kW) (y := rolG x k) (rol_run x k)⟩
def rgT (R : Int → Int → Int) : PureTab := [(199, fn2 kW (kInt .i64) kW R)]
def rgG (R : Int → Int → Int) (x n : Int) : Int := R x (IntKind.i64.wrap (0 - n))
theorem rg_run (R : Int → Int → Int) (x n : Int) : (afunR PR (envOf eqsT (rgT R)) [] (fun _ => none) 10 210 [kW.enc x, (kInt .i64).enc n]).strict = .leaf (kW.enc (rgG R x n)) := by kernel_rfl
def rgF : Int → Int → Int := rgG rolG
theorem rg_ctx : Ctx PR (envOf eqsT (rgT rolG)) [] (fun _ => none) 10 210 :=
  ctx_of (envOf_ok eqsT_ok (TabPOk.cons rol_ok TabPOk.nil)) mixed (fn := Tryz.f210) (by kernel_rfl) (by kernel_rfl) (by kernel_rfl) (tabOk_none _)
theorem rg_ok : CallOk PR 210 (fn2 kW (kInt .i64) kW rgF) :=
  .inl ⟨enters_of (fn := Tryz.f210) (by kernel_rfl) (by kernel_rfl) (by kernel_rfl), pure2 rg_ctx fun x n => leafVal (B := kW) (y := rgF x n) (rg_run rolG x n)⟩

/-! A block. -/
def u32L (s : Nat → Int) : Nat → Nat → List AV
  | _, 0 => []
  | i, n + 1 => .v (.int .u32 (s i)) :: u32L s (i + 1) n
def bkT (R : Int → Int → Int) : PureTab := [(210, fn2 kW (kInt .i64) kW R)]
noncomputable def bkE (R : Int → Int → Int) : Env := envA eqsT (bkT R) [] [] [] [] [] true []
theorem bkE_ok : EnvOk PR (bkE rgF) := envA_ok eqsT_ok (TabPOk.cons rg_ok TabPOk.nil) TabHOk.nil TabLOk.nil TabAOk.nil
/-- How a block's bytes lie: behind the state in a hash, in a row of 64, or in the one or the other half of a row of 128. -/
inductive BP where
  | hash (n : Int) (md : Bool)
  | row (wb : Bool)
  | low (wb : Bool) (q : Nat → Int)
  | high (wb : Bool) (q : Nat → Int)
def bpArgs : BP → List AV
  | .hash _ _ => [.ptr 0 0, .slc 0 8 64 64]
  | .row _ => [.ptr 0 0, .own 1 1 0 64]
  | .low _ _ => [.ptr 0 0, .own 1 1 0 64]
  | .high _ _ => [.ptr 0 0, .own 1 1 64 64]
def bpHeap (s b : Nat → Int) : BP → AH
  | .hash n md => [(0, some ⟨true, 258, u32L s 0 8 ++ (bytL b 0 64 ++ [.v (.int .i64 n), .lit md])⟩)]
  | .row wb => [(0, some ⟨true, 255, u32L s 0 8⟩), (1, some ⟨wb, 5, bytL b 0 64⟩)]
  | .low wb q => [(0, some ⟨true, 255, u32L s 0 8⟩), (1, some ⟨wb, 5, bytL b 0 64 ++ bytL q 0 64⟩)]
  | .high wb q => [(0, some ⟨true, 255, u32L s 0 8⟩), (1, some ⟨wb, 5, bytL q 0 64 ++ bytL b 0 64⟩)]
def bpN : BP → Nat
  | .hash _ _ => 1
  | _ => 2
def bpIds : BP → List Nat
  | .hash _ _ => [0]
  | _ => [0, 1]

def upd (w : Nat → Int) (t : Nat) (v : Int) : Nat → Int := fun k => bif Nat.beq k t then v else w k
/-- A word of the schedule. -/
def wv (R : Int → Int → Int) (b w : Nat → Int) (t : Nat) : Int := bif Nat.blt t 16 then
    wOr (wOr (wOr (wShl (IntKind.u32.wrap (b (4 * t))) 24) (wShl (IntKind.u32.wrap (b (4 * t + 1))) 16)) (wShl (IntKind.u32.wrap (b (4 * t + 2))) 8)) (IntKind.u32.wrap (b (4 * t + 3)))
  else wAdd (wAdd (wAdd (wXor (wXor (R (w (t - 2)) 17) (R (w (t - 2)) 19)) (wShr (w (t - 2)) 10)) (w (t - 7))) (wXor (wXor (R (w (t - 15)) 7) (R (w (t - 15)) 18)) (wShr (w (t - 15)) 3))) (w (t - 16))
def b1K (p : BP) : Keep := ⟨[0, 1, 4, 15], bpN p :: bpIds p, bpN p + 2⟩
@[irreducible] noncomputable def b1X (R : Int → Int → Int) (s b : Nat → Int) (p : BP) : XS := entryOf PR (bkE R) [] (fun _ => none) 10 207 (bpArgs p) (bpHeap s b p) (bpN p) 0 (b1K p)
@[irreducible] noncomputable def b1C : Code := roundOf PR 207 0
@[irreducible] noncomputable def b1I (R : Int → Int → Int) (s b : Nat → Int) (p : BP) (d : Nat × (Nat → Int)) : XS := ((b1X R s b p).setT 15 (.v (.int .i64 (Int.ofNat d.1)))).setB (bpN p) (u32L d.2 0 64)

/-! The rounds. -/
def shaKI : List Int := shaK.map fun v => match v with
  | .int _ n => n
  | _ => 0
def shaAt (t : Nat) : Int := match shaKI[t]? with
  | some n => n
  | none => 0
def rvP (R : Int → Int → Int) (w v : Nat → Int) (t : Nat) : Int :=
  wAdd (wAdd (wAdd (wAdd (v 7) (wXor (wXor (R (v 4) 6) (R (v 4) 11)) (R (v 4) 25))) (wXor (wAnd (v 4) (v 5)) (wAnd (wNot (v 4)) (v 6)))) (shaAt t)) (w t)
def rvQ (R : Int → Int → Int) (v : Nat → Int) : Int := wAdd (wXor (wXor (R (v 0) 2) (R (v 0) 13)) (R (v 0) 22)) (wXor (wXor (wAnd (v 0) (v 1)) (wAnd (v 0) (v 2))) (wAnd (v 1) (v 2)))
def rv (R : Int → Int → Int) (w v : Nat → Int) (t : Nat) : Nat → Int := fun i => bif Nat.beq i 0 then wAdd (rvP R w v t) (rvQ R v) else bif Nat.beq i 4 then wAdd (v 3) (rvP R w v t) else v (i - 1)
@[irreducible] noncomputable def b1B (R : Int → Int → Int) (s b : Nat → Int) (p : BP) (w : Nat → Int) : BEnt := ⟨(b1K p).tm, (b1K p).ids, (b1K p).n, b1X R s b p, .leaf (.normal, b1I R s b p (64, w))⟩
def b2K (p : BP) : Keep := ⟨[0, 4, 8, 96], (bpN p + 5) :: bpN p :: bpIds p, bpN p + 8⟩
@[irreducible] noncomputable def b2X (R : Int → Int → Int) (s b : Nat → Int) (p : BP) (w : Nat → Int) : XS := entryB PR (bkE R) [] (tabOf [(0, b1B R s b p w)]) 10 207 (bpArgs p) (bpHeap s b p) (bpN p) 2 (b2K p)
@[irreducible] noncomputable def b2C : Code := roundOf PR 207 2
@[irreducible] noncomputable def b2I (R : Int → Int → Int) (s b : Nat → Int) (p : BP) (w : Nat → Int) (d : Nat × (Nat → Int)) : XS := ((b2X R s b p w).setT 96 (.v (.int .i64 (Int.ofNat d.1)))).setB (bpN p + 5) (u32L d.2 0 8)
@[irreducible] noncomputable def b2B (R : Int → Int → Int) (s b : Nat → Int) (p : BP) (w v : Nat → Int) : BEnt := ⟨(b2K p).tm, (b2K p).ids, (b2K p).n, b2X R s b p w, .leaf (.normal, b2I R s b p w (64, v))⟩
def b3K (p : BP) : Keep := ⟨[0, 8, 178], (bpN p + 5) :: bpIds p, bpN p + 9⟩
@[irreducible] noncomputable def b3X (R : Int → Int → Int) (s b : Nat → Int) (p : BP) (w v : Nat → Int) : XS := entryB PR (bkE R) [] (tabOf [(0, b1B R s b p w), (2, b2B R s b p w v)]) 10 207 (bpArgs p) (bpHeap s b p) (bpN p) 4 (b3K p)
@[irreducible] noncomputable def b3C : Code := roundOf PR 207 4
/-- The state's cells, at the beginning of its block. -/
def bpSet (z b : Nat → Int) : BP → List AV
  | .hash n md => u32L z 0 8 ++ (bytL b 0 64 ++ [.v (.int .i64 n), .lit md])
  | _ => u32L z 0 8
@[irreducible] noncomputable def b3I (R : Int → Int → Int) (s b : Nat → Int) (p : BP) (w v : Nat → Int) (d : Nat × (Nat → Int)) : XS := ((b3X R s b p w v).setT 178 (.v (.int .i64 (Int.ofNat d.1)))).setB 0 (bpSet d.2 b p)
@[irreducible] noncomputable def b3B (R : Int → Int → Int) (s b : Nat → Int) (p : BP) (w v z : Nat → Int) : BEnt := ⟨(b3K p).tm, (b3K p).ids, (b3K p).n, b3X R s b p w v, .leaf (.normal, b3I R s b p w v (8, z))⟩
def zv (v z : Nat → Int) (t : Nat) : Nat → Int := upd z t (wAdd (z t) (v t))

/-- What lies behind it. -/
def bpHeap2 (z b : Nat → Int) : BP → AH
  | .hash n md => [(0, some ⟨true, 258, u32L z 0 8 ++ (bytL b 0 64 ++ [.v (.int .i64 n), .lit md])⟩)]
  | .row wb => [(0, some ⟨true, 255, u32L z 0 8⟩), (1, some ⟨wb, 5, bytL b 0 64⟩)]
  | .low wb q => [(0, some ⟨true, 255, u32L z 0 8⟩), (1, some ⟨wb, 5, bytL b 0 64 ++ bytL q 0 64⟩)]
  | .high wb q => [(0, some ⟨true, 255, u32L z 0 8⟩), (1, some ⟨wb, 5, bytL q 0 64 ++ bytL b 0 64⟩)]
/-- Two blocks, as a value. -/
def bkOut1 : Option Blk → AV
  | some B => .tup [.v (.bool B.wr), .v (.int .i64 (Int.ofNat B.ty)), .agg B.cs]
  | none => .any
def bkOut (h : AH) : AV := .tup [bkOut1 (h.get 0), bkOut1 (h.get 1)]
end Go.Rq.Cl
