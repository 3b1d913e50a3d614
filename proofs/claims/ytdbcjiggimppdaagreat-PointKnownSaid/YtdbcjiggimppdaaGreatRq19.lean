/- The modulus of the order is made. -/
import Derived.Test.YtdbcjiggimppdaaGreatRq18
import Derived.Test.YtdbcjiggimppdaaGreatRq11
import Derived.Test.YtdbcjiggimppdaaGreatRq12
import Derived.Test.YtdbcjiggimppdaaGreatRq15
namespace Go.Rq
open Go Go.Proofs

/-! Twice a number. -/
def shl1 (a : W6) : W6 := ⟨a.w0 <<< 1, a.w1 <<< 1 ||| a.w0 >>> 63, a.w2 <<< 1 ||| a.w1 >>> 63, a.w3 <<< 1 ||| a.w2 >>> 63, a.w4 <<< 1 ||| a.w3 >>> 63, a.w5 <<< 1 ||| a.w4 >>> 63⟩
set_option maxRecDepth 100000 in
theorem shl1_run (a : W6) : (afunR PR (envOf eqsT []) [] (fun _ => none) 40 44 [c6.agg.enc a, (kInt .i64).enc 1]).strict = .leaf (c6.agg.enc (shl1 a)) := by kernel_rfl
theorem shl1_ok : CallOk PR 44 (fn2 c6.agg (kAt .i64 1) c6.agg (fun a _ => shl1 a)) :=
  .inl ⟨enters_of (fn := Tryz.f44) (by kernel_rfl) (by kernel_rfl) (by kernel_rfl), pure2 (C := kAt .i64 1) shift_ctx (fun a _ => leafVal (B := c6.agg) (y := shl1 a) (shl1_run a))⟩

/-! The walk. -/
structure NW where
  sh : W6 → W6
  ls : Mo → W6 → W6
def nwM : Mo := (orderW, 18446744069414584319#64, zeroW)
def nwT (t : NW) : PureTab := [(44, fn2 c6.agg (kAt .i64 1) c6.agg (fun a _ => t.sh a)), (169, fn1 c6.agg (kInt .i64) lenI), (49, fn2 c6.agg c6.agg (kInt .i64) cmW), (31, fn1 kU c6.agg ofW)]
noncomputable def nwE (t : NW) : Env := envH eqsT (nwT t) [(127, rdp 148 cFa (mc1 c6.agg) c6.agg t.ls)]
def nwK : Keep := ⟨[4, 6, 43], [20, 100], 103⟩
@[irreducible] noncomputable def nwX (t : NW) : XS := entryB PR (nwE t) [44] (fun _ => none) 10 123 [c6.agg.enc orderW] [] 0 2 nwK
@[irreducible] noncomputable def nwI (t : NW) (d : Int × W6) : XS := ((nwX t).setT 43 (.v (.int .i64 d.1))).setB 100 (c6.enc d.2)
@[irreducible] noncomputable def nwC : Code := roundOf PR 123 2
def nwR (t : NW) (I : Int × W6 → XS) (z : Int) (x : W6) : Tree (AExit × XS) :=
  .br (decide (z < 768)) (.leaf (.normal, I (IntKind.i64.wrap (z + 1), t.ls nwM (t.sh x)))) (.leaf (.exit 2, I (z, x)))
set_option maxRecDepth 1000000 in
theorem nw_round (t : NW) (z : Int) (x : W6) : (roundT PR (nwE t) [44] (fun _ => none) 10 nwK nwK nwK nwC (nwI t (z, x))).strict = nwR t (nwI t) z x := by kernel_rfl
def nwG (t : NW) : Nat → W6 → W6
  | 0, x => x
  | k + 1, x => nwG t k (t.ls nwM (t.sh x))

theorem nw_law (t : NW) (rt : XS → Tree (AExit × XS)) (I : Int × W6 → XS) (hr : ∀ (z : Int) (x : W6), (rt (I (z, x))).strict = nwR t I z x) {R : W6} {Q : AExit → XS → Prop} (hK : Q .normal (I (768, R))) :
    ∀ d : Int × W6, (0 ≤ d.1 ∧ d.1 ≤ 768 ∧ nwG t (768 - d.1).toNat d.2 = R) → (rt (I d)).holds (fun r => match r.1 with
      | .normal => ∃ j : Int × W6, (0 ≤ j.1 ∧ j.1 ≤ 768 ∧ nwG t (768 - j.1).toNat j.2 = R) ∧ (768 - j.1).toNat < (768 - d.1).toNat ∧ r.2 = I j
      | .exit q => if q = 2 then Q .normal r.2 else Q (.exit q) r.2
      | .ret => Q .ret r.2) := by
  rintro ⟨z, x⟩ ⟨h0, h1, h2⟩
  simp only at h0 h1
  apply Tree.holds_strict
  rw [hr]
  unfold nwR
  refine ⟨fun hz => ?_, fun hz => ?_⟩
  · have hz : z < 768 := by simpa using hz
    have hw : IntKind.i64.wrap (z + 1) = z + 1 := wrap_id (by omega) (by omega)
    have hk : (768 - z).toNat = (768 - (z + 1)).toNat + 1 := by omega
    simp only at h2
    rw [hk] at h2
    simp only [nwG] at h2
    refine ⟨⟨z + 1, t.ls nwM (t.sh x)⟩, ⟨by simp only; omega, by simp only; omega, h2⟩, ?_, ?_⟩
    · show (768 - (z + 1)).toNat < (768 - z).toNat
      omega
    · rw [hw]
  · have hz : z = 768 := by
      have : ¬ z < 768 := by simpa using hz
      omega
    subst hz
    have h2 : x = R := h2
    show (if (2 : Nat) = 2 then Q .normal (I (768, x)) else Q (.exit 2) (I (768, x)))
    rw [if_pos rfl, h2]
    exact hK

@[irreducible] noncomputable def nwB (t : NW) (r : W6) : BEnt := ⟨nwK.tm, nwK.ids, nwK.n, nwX t, .leaf (.normal, nwI t (768, r))⟩
theorem nwB_n (t : NW) (r : W6) : (nwB t r).n = 103 ∧ (nwB t r).pre = nwX t ∧ (nwB t r).post = .leaf (.normal, nwI t (768, r)) := by
  unfold nwB
  exact ⟨rfl, rfl, rfl⟩
def nwOut (r : W6) : Mo := (orderW, 18446744069414584319#64, r)
set_option maxRecDepth 1000000 in
theorem nw_run (t : NW) (r : W6) : (afunQ PR (nwE t) [44] (tabOf [(2, nwB t r)]) 10 123 148 [c6.agg.enc orderW]).strict =
    .same (nwX t) (nwX t) (.leaf (.tup [.agg (cFa.enc (nwOut r)), .v (.int .i64 0)])) := by kernel_rfl
set_option maxRecDepth 1000000 in
theorem nw_head (t : NW) : nwX t = nwI t (0, ofW (bitW true)) := by kernel_rfl
theorem nw_blk : blkAll 2 (bodyOf PR 123) = [.loop nwC] := by kernel_rfl
end Go.Rq

/- The modulus of the order: its contract. -/
namespace Go.Rq
open Go Go.Proofs

def nwO : NW := ⟨shl1, moLessW⟩
theorem nwT_eq : [(44, fn2 c6.agg (kAt .i64 1) c6.agg (fun a _ => shl1 a)), (169, fn1 c6.agg (kInt .i64) lenI), (49, fn2 c6.agg c6.agg (kInt .i64) fun a b => chainV (cmpL a b) 0), (31, fn1 kU c6.agg ofW)] = nwT nwO := by kernel_rfl
theorem nwT_ok : TabPOk PR (nwT nwO) := Eq.subst (motive := TabPOk PR) nwT_eq (TabPOk.cons shl1_ok (TabPOk.cons len_ok (TabPOk.cons cmp_ok (TabPOk.cons of_ok TabPOk.nil))))
theorem nwE_ok : EnvOk PR (nwE nwO) := envH_ok eqsT_ok nwT_ok (TabHOk.cons ml_ent ml_ok TabHOk.nil)
theorem nw_codeOk : codeOk (nwE nwO) nwC = true := by kernel_rfl
def nwW : W6 := nwG nwO 768 (ofW (bitW true))
theorem nw_start : ∀ d : Int × W6, d = (0, ofW (bitW true)) → 0 ≤ d.1 ∧ d.1 ≤ 768 ∧ nwG nwO (768 - d.1).toNat d.2 = nwW := by
  rintro d rfl
  exact ⟨by simp, by simp, rfl⟩
theorem nw_loop {Fr0 : Fr} {ds : List Deferred} {Q : AExit → XS → Prop} (hK : Q .normal (nwI nwO (768, nwW))) :
    Tri PR Fr0 ds 0 (.block 2 (.loop nwC)) (nwX nwO) Q :=
  Eq.subst (motive := fun y => Tri PR Fr0 ds 0 (.block 2 (.loop nwC)) y Q) (nw_head nwO).symm <| blockLoop (m := 0) nwE_ok mixed (sym := [44]) (tab := fun _ => none) (lf := 10) (k := nwK) (kx := nwK) (kr := nwK) (Nat.zero_le _) (Nat.zero_le _) (Nat.zero_le _) nw_codeOk (tabOk_none _)
    (nwI nwO) (fun d => 0 ≤ d.1 ∧ d.1 ≤ 768 ∧ nwG nwO (768 - d.1).toNat d.2 = nwW) (fun d => (768 - d.1).toNat) _ (nw_start _ rfl)
    (nw_law nwO _ (nwI nwO) (nw_round nwO) hK)
theorem nw_ctx : Ctx PR (nwE nwO) [44] (tabOf [(2, nwB nwO nwW)]) 10 123 :=
  ctx_of nwE_ok mixed (fn := Tryz.f123) (by kernel_rfl) (by kernel_rfl) (by kernel_rfl)
    (tabOk_one (Nat.zero_le _) nw_blk fun Fr0 ds Q h => by
      obtain ⟨-, h2, h3⟩ := nwB_n nwO nwW
      rw [h3] at h
      rw [h2]
      exact nw_loop h)
def kOrd : Cod Unit := kIs c6.agg orderW eqW (fun x h => (eqW_iff x orderW).1 h)
theorem nw_gives (r : W6) : (afunQ PR (nwE nwO) [44] (tabOf [(2, nwB nwO r)]) 10 123 148 [c6.agg.enc orderW]).holds (fun a => a = .tup [.agg (cFa.enc (nwOut r)), .v (.int .i64 0)]) :=
  Tree.holds_strict (by rw [nw_run]; exact ⟨rfl, rfl⟩)
theorem nw_okL : LayOk PR 123 (layP kOrd 148 cFa 0 (fun _ => nwOut nwW)) :=
  layP_ok (tab := fun _ => tabOf [(2, nwB nwO nwW)]) (fun _ => nw_ctx) (fun _ => nw_gives nwW)
theorem nw_ent : Enters PR 123 := enters_of (fn := Tryz.f123) (by kernel_rfl) (by kernel_rfl) (by kernel_rfl)

/-! As numbers. -/
theorem shl_or (a b : BitVec 64) : (a <<< 1 ||| b >>> 63).toNat = 2 * a.toNat % 18446744073709551616 + b.toNat / 9223372036854775808 := by
  have hb : (b >>> 63).toNat = b.toNat / 9223372036854775808 := by rw [BitVec.toNat_ushiftRight, Nat.shiftRight_eq_div_pow]
  have hbl := b.isLt
  have ha : (a <<< 1).toNat = 2 * a.toNat % 18446744073709551616 := by
    rw [BitVec.toNat_shiftLeft, Nat.shiftLeft_eq, Nat.mul_comm]
  have hz : (a <<< 1) &&& (b >>> 63) = 0#64 := by
    apply BitVec.eq_of_toNat_eq
    rw [BitVec.toNat_and, ha, hb]
    have hc : b.toNat / 9223372036854775808 = 0 ∨ b.toNat / 9223372036854775808 = 1 := by omega
    rcases hc with h | h
    · rw [h, Nat.and_zero]; rfl
    · rw [h, Nat.and_one_is_mod]
      show _ = 0
      omega
  rw [← BitVec.add_eq_or_of_and_eq_zero _ _ hz, BitVec.toNat_add, ha, hb]
  apply Nat.mod_eq_of_lt
  omega
theorem shl_sum {a0 a1 a2 a3 a4 a5 m0 m1 m2 m3 m4 m5 c0 c1 c2 c3 c4 : Nat} (d0 : m0 + 18446744073709551616 * c0 = 2 * a0) (d1 : m1 + 18446744073709551616 * c1 = 2 * a1) (d2 : m2 + 18446744073709551616 * c2 = 2 * a2) (d3 : m3 + 18446744073709551616 * c3 = 2 * a3) (d4 : m4 + 18446744073709551616 * c4 = 2 * a4) (d5 : m5 + 18446744073709551616 * 0 = 2 * a5) :
    m0 + 18446744073709551616 * (m1 + c0) + 340282366920938463463374607431768211456 * (m2 + c1) + 6277101735386680763835789423207666416102355444464034512896 * (m3 + c2) + 115792089237316195423570985008687907853269984665640564039457584007913129639936 * (m4 + c3) + 2135987035920910082395021706169552114602704522356652769947041607822219725780640550022962086936576 * (m5 + c4) =
    2 * (a0 + 18446744073709551616 * a1 + 340282366920938463463374607431768211456 * a2 + 6277101735386680763835789423207666416102355444464034512896 * a3 + 115792089237316195423570985008687907853269984665640564039457584007913129639936 * a4 + 2135987035920910082395021706169552114602704522356652769947041607822219725780640550022962086936576 * a5) := by
  omega
theorem top_zero {a0 a1 a2 a3 a4 a5 : Nat} (h : a0 + 18446744073709551616 * a1 + 340282366920938463463374607431768211456 * a2 + 6277101735386680763835789423207666416102355444464034512896 * a3 + 115792089237316195423570985008687907853269984665640564039457584007913129639936 * a4 + 2135987035920910082395021706169552114602704522356652769947041607822219725780640550022962086936576 * a5 < 52435875175126190479447740508185965837690552500527637822603658699938581184513) : a5 = 0 := by
  omega
theorem dbl_parts (v : Nat) : 2 * v % 18446744073709551616 + 18446744073709551616 * (v / 9223372036854775808) = 2 * v := by omega
theorem shl1_words (x : W6) : (shl1 x).val = (2 * x.w0.toNat % 18446744073709551616) + 18446744073709551616 * (2 * x.w1.toNat % 18446744073709551616 + x.w0.toNat / 9223372036854775808) + 340282366920938463463374607431768211456 * (2 * x.w2.toNat % 18446744073709551616 + x.w1.toNat / 9223372036854775808) +
    6277101735386680763835789423207666416102355444464034512896 * (2 * x.w3.toNat % 18446744073709551616 + x.w2.toNat / 9223372036854775808) + 115792089237316195423570985008687907853269984665640564039457584007913129639936 * (2 * x.w4.toNat % 18446744073709551616 + x.w3.toNat / 9223372036854775808) +
    2135987035920910082395021706169552114602704522356652769947041607822219725780640550022962086936576 * (2 * x.w5.toNat % 18446744073709551616 + x.w4.toNat / 9223372036854775808) := by
  have h0 : (x.w0 <<< 1).toNat = 2 * x.w0.toNat % 18446744073709551616 := by rw [BitVec.toNat_shiftLeft, Nat.shiftLeft_eq, Nat.mul_comm]
  rw [← h0, ← shl_or, ← shl_or, ← shl_or, ← shl_or, ← shl_or]
  rfl
theorem shl1_nat (x : W6) (h : x.val < 52435875175126190479447740508185965837690552500527637822603658699938581184513) : (shl1 x).val = 2 * x.val := by
  have top : x.w5.toNat = 0 := top_zero h
  have d5 : 2 * x.w5.toNat % 18446744073709551616 + 18446744073709551616 * 0 = 2 * x.w5.toNat := by rw [top]
  rw [shl1_words]
  exact shl_sum (dbl_parts x.w0.toNat) (dbl_parts x.w1.toNat) (dbl_parts x.w2.toNat) (dbl_parts x.w3.toNat) (dbl_parts x.w4.toNat) d5
def dblN : Nat → Nat → Nat
  | 0, v => v
  | k + 1, v => dblN k (2 * v % rN)
theorem nwO_ls : nwO.ls = moLessW := by simp only [nwO]
theorem nwO_sh : nwO.sh = shl1 := by simp only [nwO]
theorem moLess_fst (sb : W6 → W6 → W6 × Bool) {m m' : Mo} (h : m.1 = m'.1) (x : W6) : moLess sb m x = moLess sb m' x := by
  unfold moLess
  rw [h]
theorem nwM_fst : nwM.1 = modO.1 := by simp only [nwM, modO]
theorem ls_same (x : W6) : nwO.ls nwM (nwO.sh x) = moLessW modO (shl1 x) := by
  rw [nwO_ls, nwO_sh]
  unfold moLessW
  exact moLess_fst wSubW nwM_fst _
theorem nwG_nat : ∀ (k : Nat) (x : W6), x.val < rN → (nwG nwO k x).val = dblN k x.val
  | 0, _, _ => rfl
  | k + 1, x, h => by
    simp only [nwG, dblN]
    rw [ls_same]
    have h1 := shl1_nat x h
    have h2 := moLess_nat (shl1 x) (by rw [h1]; omega)
    rw [h1] at h2
    rw [nwG_nat k _ (by rw [h2]; exact Nat.mod_lt _ (by decide +kernel)), h2]
theorem dbl_wide : dblN 768 1 = wideR := by decide +kernel
theorem nwW_eq : nwW = modO.2.2 := by
  apply W6.val_inj
  have h1 : (ofW (bitW true)).val = 1 := by decide +kernel
  rw [wideR_val]
  unfold nwW
  rw [nwG_nat 768 _ (by rw [h1]; decide +kernel), h1, dbl_wide]
theorem nwOut_eq : nwOut nwW = modO := by
  rw [nwW_eq]; rfl
theorem new_okL : LayOk PR 123 (layP kOrd 148 cFa 0 (fun _ => modO)) := by
  have h := nw_okL
  rw [nwOut_eq] at h
  exact h
end Go.Rq

/- Arithmetic by the great prime, as numbers. Written by a program of ours. -/
namespace Go.Rq
open Go Go.Proofs

/-- The prime's modulus. -/
def modP : Mo := (primeW, 9940570264628428797#64, ⟨0xf4df1f341c341746#64, 0xa76e6a609d104f1#64, 0x8de5476c4c95b6d5#64, 0x67eb88a9939d83c0#64, 0x9a793e85b519952d#64, 0x11988fe592cae3aa#64⟩)
theorem mp_sum {p0 t0 r0 c0 p1 t1 r1 c1 p2 t2 r2 c2 p3 t3 r3 c3 p4 t4 r4 c4 p5 t5 r5 c5 q k0 k6 s6 s1 k1 s2 k2 s3 k3 s4 k4 s5 k5 : Nat} (e0 : r0 + 18446744073709551616 * c0 = p0 + t0) (e1 : r1 + 18446744073709551616 * c1 = p1 + t1 + c0) (e2 : r2 + 18446744073709551616 * c2 = p2 + t2 + c1) (e3 : r3 + 18446744073709551616 * c3 = p3 + t3 + c2) (e4 : r4 + 18446744073709551616 * c4 = p4 + t4 + c3) (e5 : r5 + 18446744073709551616 * c5 = p5 + t5 + c4) (f0 : 18446744073709551616 * k0 = q * 13402431016077863595 + r0) (f1 : s1 + 18446744073709551616 * k1 = q * 2210141511517208575 + r1 + k0) (f2 : s2 + 18446744073709551616 * k2 = q * 7435674573564081700 + r2 + k1) (f3 : s3 + 18446744073709551616 * k3 = q * 7239337960414712511 + r3 + k2) (f4 : s4 + 18446744073709551616 * k4 = q * 5412103778470702295 + r4 + k3) (f5 : s5 + 18446744073709551616 * k5 = q * 1873798617647539866 + r5 + k4) (f6 : s6 + 18446744073709551616 * k6 = c5 + k5) :
    18446744073709551616 * (s1 + 18446744073709551616 * s2 + 340282366920938463463374607431768211456 * s3 + 6277101735386680763835789423207666416102355444464034512896 * s4 + 115792089237316195423570985008687907853269984665640564039457584007913129639936 * s5 + 2135987035920910082395021706169552114602704522356652769947041607822219725780640550022962086936576 * s6) + 726838724295606890549323807888004534353641360687318060281490199180639288113397923326191050713763565560762521606266177933534601628614656 * k6 = (p0 + 18446744073709551616 * p1 + 340282366920938463463374607431768211456 * p2 + 6277101735386680763835789423207666416102355444464034512896 * p3 + 115792089237316195423570985008687907853269984665640564039457584007913129639936 * p4 + 2135987035920910082395021706169552114602704522356652769947041607822219725780640550022962086936576 * p5) + (t0 + 18446744073709551616 * t1 + 340282366920938463463374607431768211456 * t2 + 6277101735386680763835789423207666416102355444464034512896 * t3 + 115792089237316195423570985008687907853269984665640564039457584007913129639936 * t4 + 2135987035920910082395021706169552114602704522356652769947041607822219725780640550022962086936576 * t5) + q * 4002409555221667393417789825735904156556882819939007885332058136124031650490837864442687629129015664037894272559787 := by
  omega

theorem mp_inv (r : BitVec 64) : (r * 9940570264628428797#64 * primeW.w0).toNat = (r.toNat * 18446744073709551615) % 18446744073709551616 := by
  rw [BitVec.mul_assoc, BitVec.toNat_mul]
  rfl

theorem mp_low (r : BitVec 64) : (mul64 (r * 9940570264628428797#64) primeW.w0).2 + r + bitW false = 0#64 := by
  apply BitVec.eq_of_toNat_eq
  show (r * 9940570264628428797#64 * primeW.w0 + r + bitW false).toNat = 0
  have hr := r.isLt
  rw [BitVec.toNat_add, BitVec.toNat_add, mp_inv, bitW_nat]
  show ((r.toNat * 18446744073709551615 % 18446744073709551616 + r.toNat) % 18446744073709551616 + 0) % 18446744073709551616 = 0
  omega

theorem q_words : primeW.w0.toNat = 13402431016077863595 ∧ primeW.w1.toNat = 2210141511517208575 ∧ primeW.w2.toNat = 7435674573564081700 ∧ primeW.w3.toNat = 7239337960414712511 ∧ primeW.w4.toNat = 5412103778470702295 ∧ primeW.w5.toNat = 1873798617647539866 := by decide +kernel

theorem mp_end {xA A T q v k : Nat} (ha : A < 4002409555221667393417789825735904156556882819939007885332058136124031650490837864442687629129015664037894272559787) (ht : T < A + 4002409555221667393417789825735904156556882819939007885332058136124031650490837864442687629129015664037894272559787) (hx : xA ≤ 18446744073709551615 * A) (hq : q < 18446744073709551616) (hs : 18446744073709551616 * v + 726838724295606890549323807888004534353641360687318060281490199180639288113397923326191050713763565560762521606266177933534601628614656 * k = xA + T + q * 4002409555221667393417789825735904156556882819939007885332058136124031650490837864442687629129015664037894272559787) : k = 0 ∧ v < A + 4002409555221667393417789825735904156556882819939007885332058136124031650490837864442687629129015664037894272559787 ∧ 18446744073709551616 * v = xA + T + q * 4002409555221667393417789825735904156556882819939007885332058136124031650490837864442687629129015664037894272559787 := by
  have hk : k = 0 := by omega
  subst hk
  omega

theorem mp_carry {q r m1 m2 : Nat} {c : Nat} (hc : c ≤ 1) (hq : q < 18446744073709551616) (hm : m2 + 18446744073709551616 * m1 = q * 13402431016077863595) (hs : 18446744073709551616 * c = m2 + r) : m1 + c < 18446744073709551616 ∧ 18446744073709551616 * (m1 + c) = q * 13402431016077863595 + r := by
  omega

theorem mpRound_eq {a : W6} {x : BitVec 64} {t : W8} {r0 r1 r2 r3 r4 r5 s1 s2 s3 s4 s5 m : BitVec 64 × BitVec 64} {s0 s6 u6 : BitVec 64 × Bool} {q k0 : BitVec 64}
    (hr0 : mac x a.w0 t.1.w0 (bitW false) = r0) (hr1 : mac x a.w1 t.1.w1 r0.2 = r1) (hr2 : mac x a.w2 t.1.w2 r1.2 = r2) (hr3 : mac x a.w3 t.1.w3 r2.2 = r3) (hr4 : mac x a.w4 t.1.w4 r3.2 = r4) (hr5 : mac x a.w5 t.1.w5 r4.2 = r5)
    (hu : add64 t.2.1 r5.2 false = u6) (hq : r0.1 * 9940570264628428797#64 = q) (hm : mul64 q primeW.w0 = m) (hs0 : add64 m.2 r0.1 false = s0) (hk : m.1 + bitW s0.2 = k0)
    (hs1 : mac q primeW.w1 r1.1 k0 = s1) (hs2 : mac q primeW.w2 r2.1 s1.2 = s2) (hs3 : mac q primeW.w3 r3.1 s2.2 = s3) (hs4 : mac q primeW.w4 r4.1 s3.2 = s4) (hs5 : mac q primeW.w5 r5.1 s4.2 = s5) (hs6 : add64 u6.1 s5.2 false = s6) :
    moRound mul64 add64 modP a x t = (⟨s1.1, s2.1, s3.1, s4.1, s5.1, s6.1⟩, bitW u6.2 + bitW s6.2, bitW u6.2) := by
  subst hr0 hr1 hr2 hr3 hr4 hr5 hu hq hm hs0 hk hs1 hs2 hs3 hs4 hs5 hs6
  rfl
theorem mp_round (a : W6) (x : BitVec 64) (t : W8) (hw : t.2.1 = 0#64) (ha : a.val < pN) (ht : t.1.val < a.val + pN) :
    ∃ q : Nat, (moRound mul64 add64 modP a x t).2.1 = 0#64 ∧ (moRound mul64 add64 modP a x t).1.val < a.val + pN ∧ 18446744073709551616 * (moRound mul64 add64 modP a x t).1.val = x.toNat * a.val + t.1.val + q * pN := by
  obtain ⟨g0, g1, g2, g3, g4, g5⟩ := q_words
  obtain ⟨r0, hr0⟩ : ∃ r, mac x a.w0 t.1.w0 (bitW false) = r := ⟨_, rfl⟩
  obtain ⟨r1, hr1⟩ : ∃ r, mac x a.w1 t.1.w1 r0.2 = r := ⟨_, rfl⟩
  obtain ⟨r2, hr2⟩ : ∃ r, mac x a.w2 t.1.w2 r1.2 = r := ⟨_, rfl⟩
  obtain ⟨r3, hr3⟩ : ∃ r, mac x a.w3 t.1.w3 r2.2 = r := ⟨_, rfl⟩
  obtain ⟨r4, hr4⟩ : ∃ r, mac x a.w4 t.1.w4 r3.2 = r := ⟨_, rfl⟩
  obtain ⟨r5, hr5⟩ : ∃ r, mac x a.w5 t.1.w5 r4.2 = r := ⟨_, rfl⟩
  obtain ⟨q, hq⟩ : ∃ q, r0.1 * 9940570264628428797#64 = q := ⟨_, rfl⟩
  obtain ⟨m, hm⟩ : ∃ m, mul64 q primeW.w0 = m := ⟨_, rfl⟩
  obtain ⟨s0, hs0⟩ : ∃ s, add64 m.2 r0.1 false = s := ⟨_, rfl⟩
  obtain ⟨k0, hk⟩ : ∃ k, m.1 + bitW s0.2 = k := ⟨_, rfl⟩
  obtain ⟨s1, hs1⟩ : ∃ s, mac q primeW.w1 r1.1 k0 = s := ⟨_, rfl⟩
  obtain ⟨s2, hs2⟩ : ∃ s, mac q primeW.w2 r2.1 s1.2 = s := ⟨_, rfl⟩
  obtain ⟨s3, hs3⟩ : ∃ s, mac q primeW.w3 r3.1 s2.2 = s := ⟨_, rfl⟩
  obtain ⟨s4, hs4⟩ : ∃ s, mac q primeW.w4 r4.1 s3.2 = s := ⟨_, rfl⟩
  obtain ⟨s5, hs5⟩ : ∃ s, mac q primeW.w5 r5.1 s4.2 = s := ⟨_, rfl⟩
  have hu : add64 t.2.1 r5.2 false = (r5.2, false) := by rw [hw]; exact add_zero64 _
  obtain ⟨s6, hs6⟩ : ∃ s, add64 r5.2 s5.2 false = s := ⟨_, rfl⟩
  have hres := mpRound_eq hr0 hr1 hr2 hr3 hr4 hr5 hu hq hm hs0 hk hs1 hs2 hs3 hs4 hs5 hs6
  have e0 := mac_nat x a.w0 t.1.w0 (bitW false)
  rw [hr0, show (bitW false).toNat = 0 from rfl, Nat.add_zero] at e0
  have e1 := mac_nat x a.w1 t.1.w1 r0.2
  rw [hr1] at e1
  have e2 := mac_nat x a.w2 t.1.w2 r1.2
  rw [hr2] at e2
  have e3 := mac_nat x a.w3 t.1.w3 r2.2
  rw [hr3] at e3
  have e4 := mac_nat x a.w4 t.1.w4 r3.2
  rw [hr4] at e4
  have e5 := mac_nat x a.w5 t.1.w5 r4.2
  rw [hr5] at e5
  have lz := mp_low r0.1
  rw [hq, hm] at lz
  have m0 := mul64_nat q primeW.w0
  rw [hm, g0] at m0
  have z0 := add64_nat m.2 r0.1 false
  rw [show (add64 m.2 r0.1 false).1 = 0#64 from lz, hs0, show b2n false = 0 from rfl, show (0#64).toNat = 0 from rfl, Nat.add_zero, Nat.zero_add] at z0
  obtain ⟨c1, c2⟩ := mp_carry (b2n_le s0.2) q.isLt m0 z0
  have hk0 : k0.toNat = m.1.toNat + b2n s0.2 := by
    rw [← hk, BitVec.toNat_add, bitW_nat]
    exact Nat.mod_eq_of_lt c1
  rw [← hk0] at c2
  have f1 := mac_nat q primeW.w1 r1.1 k0
  rw [hs1, g1] at f1
  have f2 := mac_nat q primeW.w2 r2.1 s1.2
  rw [hs2, g2] at f2
  have f3 := mac_nat q primeW.w3 r3.1 s2.2
  rw [hs3, g3] at f3
  have f4 := mac_nat q primeW.w4 r4.1 s3.2
  rw [hs4, g4] at f4
  have f5 := mac_nat q primeW.w5 r5.1 s4.2
  rw [hs5, g5] at f5
  have f6 := add64_nat r5.2 s5.2 false
  rw [hs6, show b2n false = 0 from rfl, Nat.add_zero] at f6
  have sum := mp_sum e0 e1 e2 e3 e4 e5 c2 f1 f2 f3 f4 f5 f6
  have xA : x.toNat * a.val ≤ 18446744073709551615 * a.val := Nat.mul_le_mul_right _ (Nat.le_of_lt_succ x.isLt)
  rw [← val_mul x.toNat a] at sum
  obtain ⟨n1, n2, n3⟩ := mp_end (v := (W6.mk s1.1 s2.1 s3.1 s4.1 s5.1 s6.1).val) (T := t.1.val) ha ht xA q.isLt sum
  refine ⟨q.toNat, ?_, ?_, ?_⟩
  · rw [hres]
    show bitW false + bitW s6.2 = 0#64
    cases hh : s6.2 with
    | false => rfl
    | true => rw [hh] at n1; cases n1
  · rw [hres]; exact n2
  · rw [hres]; exact n3


theorem mp_raw_sum {x1 q1 v1 x2 q2 v2 x3 q3 v3 x4 q4 v4 x5 q5 v5 x6 q6 v6 : Nat} (h1 : 18446744073709551616 * v1 = x1 + q1 * 4002409555221667393417789825735904156556882819939007885332058136124031650490837864442687629129015664037894272559787) (h2 : 18446744073709551616 * v2 = x2 + v1 + q2 * 4002409555221667393417789825735904156556882819939007885332058136124031650490837864442687629129015664037894272559787) (h3 : 18446744073709551616 * v3 = x3 + v2 + q3 * 4002409555221667393417789825735904156556882819939007885332058136124031650490837864442687629129015664037894272559787) (h4 : 18446744073709551616 * v4 = x4 + v3 + q4 * 4002409555221667393417789825735904156556882819939007885332058136124031650490837864442687629129015664037894272559787) (h5 : 18446744073709551616 * v5 = x5 + v4 + q5 * 4002409555221667393417789825735904156556882819939007885332058136124031650490837864442687629129015664037894272559787) (h6 : 18446744073709551616 * v6 = x6 + v5 + q6 * 4002409555221667393417789825735904156556882819939007885332058136124031650490837864442687629129015664037894272559787) :
    39402006196394479212279040100143613805079739270465446667948293404245721771497210611414266254884915640806627990306816 * v6 = (x1 + 18446744073709551616 * x2 + 340282366920938463463374607431768211456 * x3 + 6277101735386680763835789423207666416102355444464034512896 * x4 + 115792089237316195423570985008687907853269984665640564039457584007913129639936 * x5 + 2135987035920910082395021706169552114602704522356652769947041607822219725780640550022962086936576 * x6) + (q1 + 18446744073709551616 * q2 + 340282366920938463463374607431768211456 * q3 + 6277101735386680763835789423207666416102355444464034512896 * q4 + 115792089237316195423570985008687907853269984665640564039457584007913129639936 * q5 + 2135987035920910082395021706169552114602704522356652769947041607822219725780640550022962086936576 * q6) * 4002409555221667393417789825735904156556882819939007885332058136124031650490837864442687629129015664037894272559787 := by
  omega

def rinvP : Nat := 3231460744492646417066832100176244795738767926513225105051837195607029917124509527734802654356338138714468589979680
theorem rinvP_ok : 39402006196394479212279040100143613805079739270465446667948293404245721771497210611414266254884915640806627990306816 * rinvP % pN = 1 := by decide +kernel

theorem mpRaw_nat (a b : W6) (hb : b.val < pN) : (moRaw mul64 add64 modP a b).1.val < b.val + pN ∧ ∃ Q, 39402006196394479212279040100143613805079739270465446667948293404245721771497210611414266254884915640806627990306816 * (moRaw mul64 add64 modP a b).1.val = a.val * b.val + Q * pN := by
  have zv : zero8.1.val = 0 := rfl
  have hp : pN = 4002409555221667393417789825735904156556882819939007885332058136124031650490837864442687629129015664037894272559787 := rfl
  unfold moRaw
  obtain ⟨q1, w1, l1, h1⟩ := mp_round b a.w0 zero8 rfl hb (by rw [zv]; exact Nat.lt_of_lt_of_le (by decide +kernel : 0 < pN) (Nat.le_add_left _ _))
  generalize moRound mul64 add64 modP b a.w0 zero8 = t1 at w1 l1 h1 ⊢
  obtain ⟨q2, w2, l2, h2⟩ := mp_round b a.w1 t1 w1 hb l1
  generalize moRound mul64 add64 modP b a.w1 t1 = t2 at w2 l2 h2 ⊢
  obtain ⟨q3, w3, l3, h3⟩ := mp_round b a.w2 t2 w2 hb l2
  generalize moRound mul64 add64 modP b a.w2 t2 = t3 at w3 l3 h3 ⊢
  obtain ⟨q4, w4, l4, h4⟩ := mp_round b a.w3 t3 w3 hb l3
  generalize moRound mul64 add64 modP b a.w3 t3 = t4 at w4 l4 h4 ⊢
  obtain ⟨q5, w5, l5, h5⟩ := mp_round b a.w4 t4 w4 hb l4
  generalize moRound mul64 add64 modP b a.w4 t4 = t5 at w5 l5 h5 ⊢
  obtain ⟨q6, w6, l6, h6⟩ := mp_round b a.w5 t5 w5 hb l5
  generalize moRound mul64 add64 modP b a.w5 t5 = t6 at w6 l6 h6 ⊢
  refine ⟨l6, q1 + 18446744073709551616 * q2 + 340282366920938463463374607431768211456 * q3 + 6277101735386680763835789423207666416102355444464034512896 * q4 + 115792089237316195423570985008687907853269984665640564039457584007913129639936 * q5 + 2135987035920910082395021706169552114602704522356652769947041607822219725780640550022962086936576 * q6, ?_⟩
  rw [zv, Nat.add_zero] at h1
  rw [hp] at h1 h2 h3 h4 h5 h6 ⊢
  have hb : a.val * b.val = (a.w0.toNat * b.val) + 18446744073709551616 * (a.w1.toNat * b.val) + 340282366920938463463374607431768211456 * (a.w2.toNat * b.val) + 6277101735386680763835789423207666416102355444464034512896 * (a.w3.toNat * b.val) + 115792089237316195423570985008687907853269984665640564039457584007913129639936 * (a.w4.toNat * b.val) + 2135987035920910082395021706169552114602704522356652769947041607822219725780640550022962086936576 * (a.w5.toNat * b.val) := by
    rw [Nat.mul_comm, val_mul]
    simp only [Nat.mul_comm b.val]
  rw [hb]
  exact mp_raw_sum h1 h2 h3 h4 h5 h6

/-- The order taken away, if it goes. -/
theorem mpLess_nat (x : W6) (h : x.val < 2 * pN) : (moLessW modP x).val = x.val % pN := by
  have h1 := subs_nat x primeW
  rw [prime_val] at h1
  have hl := (subs x primeW).1.val_lt
  have e : moLessW modP x = bif !((subs x primeW).2 == true) then (subs x primeW).1 else x := rfl
  rw [e]
  have hp : pN = 4002409555221667393417789825735904156556882819939007885332058136124031650490837864442687629129015664037894272559787 := rfl
  rw [hp] at h h1 ⊢
  cases hb : (subs x primeW).2 with
  | true =>
    rw [hb, show b2n true = 1 from rfl] at h1
    show x.val = _
    rw [Nat.mod_eq_of_lt (by omega)]
  | false =>
    rw [hb, show b2n false = 0 from rfl] at h1
    show (subs x primeW).1.val = _
    rw [Nat.mod_eq_sub_mod (by omega), Nat.mod_eq_of_lt (by omega)]
    omega

theorem mpMont_nat (a b : W6) (hb : b.val < pN) : (moMontW modP a b).val = a.val * b.val * rinvP % pN := by
  obtain ⟨h1, Q, h2⟩ := mpRaw_nat a b hb
  have e : moMontW modP a b = moLessW modP (moRaw mul64 add64 modP a b).1 := rfl
  rw [e, mpLess_nat _ (Nat.lt_of_lt_of_le h1 (by rw [Nat.two_mul]; exact Nat.add_le_add_right (Nat.le_of_lt hb) _))]
  exact wide_mul rinvP_ok h2

def wideP : Nat := 2708263910654730174793787626328176511836455197166317677006154293982164122222515399004018013397331347120527951271750
theorem wideP_val : modP.2.2.val = wideP := by decide +kernel
theorem wideP_twice : wideP * rinvP * rinvP % pN = 1 := by decide +kernel
/-- What is left of a number. -/
theorem mpRed_nat (a : W6) : (moRedW modP a).val = a.val % pN := by
  have e : moRedW modP a = bif moNone modP then zeroW else bif decide (cmW a primeW < 0) then a else moMontW modP (moMontW modP a modP.2.2) (ofW (bitW true)) := rfl
  rw [e, show moNone modP = false by decide +kernel, cond_false]
  have hc := cmW_nat a primeW
  rw [prime_val] at hc
  by_cases h : a.val < pN
  · rw [decide_eq_true (hc.2 h), cond_true, Nat.mod_eq_of_lt h]
  · rw [decide_eq_false (fun h' => h (hc.1 h')), cond_false]
    have h1 : (ofW (bitW true)).val = 1 := by decide +kernel
    rw [mpMont_nat _ _ (by rw [h1]; decide +kernel), mpMont_nat a modP.2.2 (by rw [wideP_val]; decide +kernel), h1, wideP_val]
    exact mul_wide wideP_twice
end Go.Rq

/- The modulus of the great prime is made. Written by a program of ours. -/
namespace Go.Rq
open Go Go.Proofs

def nqM : Mo := (primeW, 9940570264628428797#64, zeroW)
def nqT (t : NW) : PureTab := [(44, fn2 c6.agg (kAt .i64 1) c6.agg (fun a _ => t.sh a)), (169, fn1 c6.agg (kInt .i64) lenI), (49, fn2 c6.agg c6.agg (kInt .i64) cmW), (31, fn1 kU c6.agg ofW)]
noncomputable def nqE (t : NW) : Env := envH eqsT (nqT t) [(127, rdp 148 cFa (mc1 c6.agg) c6.agg t.ls)]
def nqK : Keep := ⟨[4, 6, 43], [20, 100], 103⟩
@[irreducible] noncomputable def nqX (t : NW) : XS := entryB PR (nqE t) [44] (fun _ => none) 10 123 [c6.agg.enc primeW] [] 0 2 nqK
@[irreducible] noncomputable def nqI (t : NW) (d : Int × W6) : XS := ((nqX t).setT 43 (.v (.int .i64 d.1))).setB 100 (c6.enc d.2)
@[irreducible] noncomputable def nqC : Code := roundOf PR 123 2
def nqR (t : NW) (I : Int × W6 → XS) (z : Int) (x : W6) : Tree (AExit × XS) :=
  .br (decide (z < 768)) (.leaf (.normal, I (IntKind.i64.wrap (z + 1), t.ls nqM (t.sh x)))) (.leaf (.exit 2, I (z, x)))
set_option maxRecDepth 1000000 in
theorem nq_round (t : NW) (z : Int) (x : W6) : (roundT PR (nqE t) [44] (fun _ => none) 10 nqK nqK nqK nqC (nqI t (z, x))).strict = nqR t (nqI t) z x := by kernel_rfl
def nqG (t : NW) : Nat → W6 → W6
  | 0, x => x
  | k + 1, x => nqG t k (t.ls nqM (t.sh x))

theorem nq_law (t : NW) (rt : XS → Tree (AExit × XS)) (I : Int × W6 → XS) (hr : ∀ (z : Int) (x : W6), (rt (I (z, x))).strict = nqR t I z x) {R : W6} {Q : AExit → XS → Prop} (hK : Q .normal (I (768, R))) :
    ∀ d : Int × W6, (0 ≤ d.1 ∧ d.1 ≤ 768 ∧ nqG t (768 - d.1).toNat d.2 = R) → (rt (I d)).holds (fun r => match r.1 with
      | .normal => ∃ j : Int × W6, (0 ≤ j.1 ∧ j.1 ≤ 768 ∧ nqG t (768 - j.1).toNat j.2 = R) ∧ (768 - j.1).toNat < (768 - d.1).toNat ∧ r.2 = I j
      | .exit q => if q = 2 then Q .normal r.2 else Q (.exit q) r.2
      | .ret => Q .ret r.2) := by
  rintro ⟨z, x⟩ ⟨h0, h1, h2⟩
  simp only at h0 h1
  apply Tree.holds_strict
  rw [hr]
  unfold nqR
  refine ⟨fun hz => ?_, fun hz => ?_⟩
  · have hz : z < 768 := by simpa using hz
    have hw : IntKind.i64.wrap (z + 1) = z + 1 := wrap_id (by omega) (by omega)
    have hk : (768 - z).toNat = (768 - (z + 1)).toNat + 1 := by omega
    simp only at h2
    rw [hk] at h2
    simp only [nqG] at h2
    refine ⟨⟨z + 1, t.ls nqM (t.sh x)⟩, ⟨by simp only; omega, by simp only; omega, h2⟩, ?_, ?_⟩
    · show (768 - (z + 1)).toNat < (768 - z).toNat
      omega
    · rw [hw]
  · have hz : z = 768 := by
      have : ¬ z < 768 := by simpa using hz
      omega
    subst hz
    have h2 : x = R := h2
    show (if (2 : Nat) = 2 then Q .normal (I (768, x)) else Q (.exit 2) (I (768, x)))
    rw [if_pos rfl, h2]
    exact hK

@[irreducible] noncomputable def nqB (t : NW) (r : W6) : BEnt := ⟨nqK.tm, nqK.ids, nqK.n, nqX t, .leaf (.normal, nqI t (768, r))⟩
theorem nqB_n (t : NW) (r : W6) : (nqB t r).n = 103 ∧ (nqB t r).pre = nqX t ∧ (nqB t r).post = .leaf (.normal, nqI t (768, r)) := by
  unfold nqB
  exact ⟨rfl, rfl, rfl⟩
theorem nq_blk : blkAll 2 (bodyOf PR 123) = [.loop nqC] := by kernel_rfl
def nqOut (r : W6) : Mo := (primeW, 9940570264628428797#64, r)
set_option maxRecDepth 1000000 in
theorem nq_run (t : NW) (r : W6) : (afunQ PR (nqE t) [44] (tabOf [(2, nqB t r)]) 10 123 148 [c6.agg.enc primeW]).strict =
    .same (nqX t) (nqX t) (.leaf (.tup [.agg (cFa.enc (nqOut r)), .v (.int .i64 0)])) := by kernel_rfl
set_option maxRecDepth 1000000 in
theorem nq_head (t : NW) : nqX t = nqI t (0, ofW (bitW true)) := by kernel_rfl
def nqO : NW := ⟨shl1, moLessW⟩
theorem nqT_eq : [(44, fn2 c6.agg (kAt .i64 1) c6.agg (fun a _ => shl1 a)), (169, fn1 c6.agg (kInt .i64) lenI), (49, fn2 c6.agg c6.agg (kInt .i64) fun a b => chainV (cmpL a b) 0), (31, fn1 kU c6.agg ofW)] = nqT nqO := by kernel_rfl
theorem nqT_ok : TabPOk PR (nqT nqO) := Eq.subst (motive := TabPOk PR) nqT_eq (TabPOk.cons shl1_ok (TabPOk.cons len_ok (TabPOk.cons cmp_ok (TabPOk.cons of_ok TabPOk.nil))))
theorem nqE_ok : EnvOk PR (nqE nqO) := envH_ok eqsT_ok nqT_ok (TabHOk.cons ml_ent ml_ok TabHOk.nil)
theorem nq_codeOk : codeOk (nqE nqO) nqC = true := by kernel_rfl
def nqW : W6 := nqG nqO 768 (ofW (bitW true))
theorem nq_start : ∀ d : Int × W6, d = (0, ofW (bitW true)) → 0 ≤ d.1 ∧ d.1 ≤ 768 ∧ nqG nqO (768 - d.1).toNat d.2 = nqW := by
  rintro d rfl
  exact ⟨by simp, by simp, rfl⟩
theorem nq_loop {Fr0 : Fr} {ds : List Deferred} {Q : AExit → XS → Prop} (hK : Q .normal (nqI nqO (768, nqW))) :
    Tri PR Fr0 ds 0 (.block 2 (.loop nqC)) (nqX nqO) Q :=
  Eq.subst (motive := fun y => Tri PR Fr0 ds 0 (.block 2 (.loop nqC)) y Q) (nq_head nqO).symm <| blockLoop (m := 0) nqE_ok mixed (sym := [44]) (tab := fun _ => none) (lf := 10) (k := nqK) (kx := nqK) (kr := nqK) (Nat.zero_le _) (Nat.zero_le _) (Nat.zero_le _) nq_codeOk (tabOk_none _)
    (nqI nqO) (fun d => 0 ≤ d.1 ∧ d.1 ≤ 768 ∧ nqG nqO (768 - d.1).toNat d.2 = nqW) (fun d => (768 - d.1).toNat) _ (nq_start _ rfl)
    (nq_law nqO _ (nqI nqO) (nq_round nqO) hK)
theorem nq_ctx : Ctx PR (nqE nqO) [44] (tabOf [(2, nqB nqO nqW)]) 10 123 :=
  ctx_of nqE_ok mixed (fn := Tryz.f123) (by kernel_rfl) (by kernel_rfl) (by kernel_rfl)
    (tabOk_one (Nat.zero_le _) nq_blk fun Fr0 ds Q h => by
      obtain ⟨-, h2, h3⟩ := nqB_n nqO nqW
      rw [h3] at h
      rw [h2]
      exact nq_loop h)
def kPri : Cod Unit := kIs c6.agg primeW eqW (fun x h => (eqW_iff x primeW).1 h)
theorem nq_gives (r : W6) : (afunQ PR (nqE nqO) [44] (tabOf [(2, nqB nqO r)]) 10 123 148 [c6.agg.enc primeW]).holds (fun a => a = .tup [.agg (cFa.enc (nqOut r)), .v (.int .i64 0)]) :=
  Tree.holds_strict (by rw [nq_run]; exact ⟨rfl, rfl⟩)
theorem nq_okL : LayOk PR 123 (layP kPri 148 cFa 0 (fun _ => nqOut nqW)) :=
  layP_ok (tab := fun _ => tabOf [(2, nqB nqO nqW)]) (fun _ => nq_ctx) (fun _ => nq_gives nqW)

theorem top_small {a0 a1 a2 a3 a4 a5 : Nat} (h : a0 + 18446744073709551616 * a1 + 340282366920938463463374607431768211456 * a2 + 6277101735386680763835789423207666416102355444464034512896 * a3 + 115792089237316195423570985008687907853269984665640564039457584007913129639936 * a4 + 2135987035920910082395021706169552114602704522356652769947041607822219725780640550022962086936576 * a5 < 4002409555221667393417789825735904156556882819939007885332058136124031650490837864442687629129015664037894272559787) : 2 * a5 < 18446744073709551616 := by
  omega
theorem shl1p_nat (x : W6) (h : x.val < 4002409555221667393417789825735904156556882819939007885332058136124031650490837864442687629129015664037894272559787) : (shl1 x).val = 2 * x.val := by
  have top : 2 * x.w5.toNat < 18446744073709551616 := top_small h
  have d5 : 2 * x.w5.toNat % 18446744073709551616 + 18446744073709551616 * 0 = 2 * x.w5.toNat := by rw [Nat.mul_zero, Nat.add_zero]; exact Nat.mod_eq_of_lt top
  rw [shl1_words]
  exact shl_sum (dbl_parts x.w0.toNat) (dbl_parts x.w1.toNat) (dbl_parts x.w2.toNat) (dbl_parts x.w3.toNat) (dbl_parts x.w4.toNat) d5
def dblQ : Nat → Nat → Nat
  | 0, v => v
  | k + 1, v => dblQ k (2 * v % pN)
theorem nqO_ls : nqO.ls = moLessW := by simp only [nqO]
theorem nqO_sh : nqO.sh = shl1 := by simp only [nqO]
theorem nqM_fst : nqM.1 = modP.1 := by simp only [nqM, modP]
theorem lsp_same (x : W6) : nqO.ls nqM (nqO.sh x) = moLessW modP (shl1 x) := by
  rw [nqO_ls, nqO_sh]
  unfold moLessW
  exact moLess_fst wSubW nqM_fst _
theorem nqG_nat : ∀ (k : Nat) (x : W6), x.val < pN → (nqG nqO k x).val = dblQ k x.val
  | 0, _, _ => rfl
  | k + 1, x, h => by
    simp only [nqG, dblQ]
    rw [lsp_same]
    have h1 := shl1p_nat x h
    have h2 := mpLess_nat (shl1 x) (by rw [h1]; omega)
    rw [h1] at h2
    rw [nqG_nat k _ (by rw [h2]; exact Nat.mod_lt _ (by decide +kernel)), h2]
theorem dbl_wideP : dblQ 768 1 = wideP := by decide +kernel
theorem nqW_eq : nqW = modP.2.2 := by
  apply W6.val_inj
  have h1 : (ofW (bitW true)).val = 1 := by decide +kernel
  rw [wideP_val]
  unfold nqW
  rw [nqG_nat 768 _ (by rw [h1]; decide +kernel), h1, dbl_wideP]
theorem nqOut_eq : nqOut nqW = modP := by
  rw [nqW_eq]; rfl
theorem newP_okL : LayOk PR 123 (layP kPri 148 cFa 0 (fun _ => modP)) := by
  have h := nq_okL
  rw [nqOut_eq] at h
  exact h
end Go.Rq

/- Sums, differences and products by a modulus: contracts. -/
namespace Go.Rq
open Go Go.Proofs

/-- What a modulus' functions come to, left open. -/
structure MQ where
  no : Mo → Bool
  mm : Mo → W6 → W6 → W6
  ls : Mo → W6 → W6
  rd : Mo → W6 → W6
  ad : W6 → W6 → W6 × Bool
  sb : W6 → W6 → W6 × Bool

def mqT (t : MQ) : PureTab := [(126, fn2 c6.agg c6.agg kWB t.ad), (172, fn2 c6.agg c6.agg kWB t.sb)]
noncomputable def mqH (t : MQ) : HeapTab := [(124, rdp 148 cFa mc0 kBool (fun m _ => t.no m)), (125, rdp 148 cFa (mc2 c6.agg c6.agg) c6.agg (fun m x => t.mm m x.1 x.2)),
  (127, rdp 148 cFa (mc1 c6.agg) c6.agg t.ls), (77, rdp 148 cFa (mc1 c6.agg) c6.agg t.rd)]
def mqRo : List FuncId := [124, 125, 127, 77]
noncomputable def mqE (t : MQ) : Env := envA eqsT (mqT t) (mqH t) [] [] [] [] true mqRo
def mqO : MQ := ⟨moNone, moMontW, moLessW, moRedW, wAddW, wSubW⟩
theorem mqE_ok : EnvOk PR (mqE mqO) := envA_ok eqsT_ok (TabPOk.cons wadd_ok (TabPOk.cons wsub_ok TabPOk.nil)) (TabHOk.cons mn_ent mn_ok (TabHOk.cons mm_ent mm_ok (TabHOk.cons ml_ent ml_ok (TabHOk.cons mred_ent mred_ok TabHOk.nil)))) TabLOk.nil TabAOk.nil

/-! Products. -/
theorem qmul_run (t : MQ) (m : Mo) (a b : W6) : (afunP PR (mqE t) [8] 10 117 148 m [c6.agg.enc a, c6.agg.enc b]).strict =
    .br (t.no m) (.leaf (c6.agg.enc zeroW)) (.leaf (c6.agg.enc (t.mm m (t.mm m a m.2.2) b))) := by kernel_rfl
def qmulG (t : MQ) (m : Mo) (a b : W6) : W6 := bif t.no m then zeroW else t.mm m (t.mm m a m.2.2) b
def qmulW : Mo → W6 → W6 → W6 := qmulG mqO
theorem qmul_ent : Enters PR 117 := enters_of (fn := Tryz.f117) (by kernel_rfl) (by kernel_rfl) (by kernel_rfl)
theorem qmul_ok : HeapOk PR 117 (rdp 148 cFa (mc2 c6.agg c6.agg) c6.agg (fun m x => qmulW m x.1 x.2)) :=
  rdp_ok (E := mqE mqO) (sym := [8]) (lf := 10) mqE_ok mixed (fn := Tryz.f117) (c := bodyOf PR 117) (by kernel_rfl) (by kernel_rfl) (by kernel_rfl)
    (fun m x => givesP (qmul_run mqO m x.1 x.2) (holds_br (B := c6.agg) (holds_leaf (c6.agg.h1 _)) (holds_leaf (c6.agg.h1 _))))

/-! Sums. -/
theorem qadd_run (t : MQ) (m : Mo) (a b : W6) : (afunP PR (mqE t) [10] 10 78 148 m [c6.agg.enc a, c6.agg.enc b]).strict =
    .br (t.no m) (.leaf (c6.agg.enc zeroW)) (.leaf (c6.agg.enc (t.ls m (t.ad (t.rd m a) (t.rd m b)).1))) := by kernel_rfl
def qaddG (t : MQ) (m : Mo) (a b : W6) : W6 := bif t.no m then zeroW else t.ls m (t.ad (t.rd m a) (t.rd m b)).1
def qaddW : Mo → W6 → W6 → W6 := qaddG mqO
theorem qadd_ent : Enters PR 78 := enters_of (fn := Tryz.f78) (by kernel_rfl) (by kernel_rfl) (by kernel_rfl)
theorem qadd_ok : HeapOk PR 78 (rdp 148 cFa (mc2 c6.agg c6.agg) c6.agg (fun m x => qaddW m x.1 x.2)) :=
  rdp_ok (E := mqE mqO) (sym := [10]) (lf := 10) mqE_ok mixed (fn := Tryz.f78) (c := bodyOf PR 78) (by kernel_rfl) (by kernel_rfl) (by kernel_rfl)
    (fun m x => givesP (qadd_run mqO m x.1 x.2) (holds_br (B := c6.agg) (holds_leaf (c6.agg.h1 _)) (holds_leaf (c6.agg.h1 _))))

/-! Differences. -/
theorem qsub_run (t : MQ) (m : Mo) (a b : W6) : (afunP PR (mqE t) [10, 22] 10 189 148 m [c6.agg.enc a, c6.agg.enc b]).strict =
    .br (t.no m) (.leaf (c6.agg.enc zeroW)) (.br (t.sb (t.rd m a) (t.rd m b)).2 (.leaf (c6.agg.enc (t.ad (t.sb (t.rd m a) (t.rd m b)).1 m.1).1)) (.leaf (c6.agg.enc (t.sb (t.rd m a) (t.rd m b)).1))) := by kernel_rfl
def qsubG (t : MQ) (m : Mo) (a b : W6) : W6 := bif t.no m then zeroW else bif (t.sb (t.rd m a) (t.rd m b)).2 then (t.ad (t.sb (t.rd m a) (t.rd m b)).1 m.1).1 else (t.sb (t.rd m a) (t.rd m b)).1
def qsubW : Mo → W6 → W6 → W6 := qsubG mqO
theorem qsub_ent : Enters PR 189 := enters_of (fn := Tryz.f189) (by kernel_rfl) (by kernel_rfl) (by kernel_rfl)
theorem qsub_ok : HeapOk PR 189 (rdp 148 cFa (mc2 c6.agg c6.agg) c6.agg (fun m x => qsubW m x.1 x.2)) :=
  rdp_ok (E := mqE mqO) (sym := [10, 22]) (lf := 10) mqE_ok mixed (fn := Tryz.f189) (c := bodyOf PR 189) (by kernel_rfl) (by kernel_rfl) (by kernel_rfl)
    (fun m x => givesP (qsub_run mqO m x.1 x.2) (holds_br (B := c6.agg) (holds_leaf (c6.agg.h1 _)) (holds_br (B := c6.agg) (holds_leaf (c6.agg.h1 _)) (holds_leaf (c6.agg.h1 _)))))
noncomputable def qngE (S : Mo → W6 → W6 → W6) : Env := envA eqsT [] [(189, rdp 148 cFa (mc2 c6.agg c6.agg) c6.agg (fun m x => S m x.1 x.2))] [] [] [] [] true [189]
theorem qneg_run (S : Mo → W6 → W6 → W6) (m : Mo) (a : W6) : (afunP PR (qngE S) [] 10 166 148 m [c6.agg.enc a]).strict = .leaf (c6.agg.enc (S m zeroW a)) := by kernel_rfl
theorem qngE_ok : EnvOk PR (qngE qsubW) := envA_ok eqsT_ok TabPOk.nil (TabHOk.cons qsub_ent qsub_ok TabHOk.nil) TabLOk.nil TabAOk.nil
theorem qneg_ent : Enters PR 166 := enters_of (fn := Tryz.f166) (by kernel_rfl) (by kernel_rfl) (by kernel_rfl)
theorem qneg_ok : HeapOk PR 166 (rdp 148 cFa (mc1 c6.agg) c6.agg (fun m x => qsubW m zeroW x)) :=
  rdp_ok (E := qngE qsubW) (sym := []) (lf := 10) qngE_ok mixed (fn := Tryz.f166) (c := bodyOf PR 166) (by kernel_rfl) (by kernel_rfl) (by kernel_rfl)
    (fun m x => givesP (qneg_run qsubW m x) (holds_leaf (c6.agg.h1 _)))
end Go.Rq

/- Powers by the great prime: a contract. -/
namespace Go.Rq
open Go Go.Proofs

def eqMo (a b : Mo) : Bool := bif eqW a.1 b.1 then (bif a.2.1 == b.2.1 then eqW a.2.2 b.2.2 else false) else false
theorem eqMo_ok (a b : Mo) (h : eqMo a b = true) : a = b := by
  obtain ⟨a1, a2, a3⟩ := a
  obtain ⟨b1, b2, b3⟩ := b
  unfold eqMo at h
  dsimp only at h
  cases h1 : eqW a1 b1 with
  | false => rw [h1] at h; cases h
  | true =>
    cases h2 : (a2 == b2) with
    | false => rw [h1, h2] at h; cases h
    | true =>
      rw [h1, h2] at h
      have h2 : a2 = b2 := by simpa using h2
      rw [(eqW_iff _ _).1 h1, h2, (eqW_iff _ _).1 h]
/-- The prime's modulus in a block. -/
def cMP : CC Unit := ccIs cFa modP eqMo (fun x h => eqMo_ok x modP h)

/-- What is left open. -/
structure PQ where
  mm : Mo → W6 → W6 → W6
  ln : W6 → Int
  bt : W6 → Int → Int
def pqT (t : PQ) : PureTab := [(31, fn1 kU c6.agg ofW), (169, fn1 c6.agg (kInt .i64) t.ln), (180, fn2 c6.agg (kInt .i64) (kInt .i64) t.bt)]
noncomputable def pqE (t : PQ) : Env := envA eqsT (pqT t) [(124, rdp 148 cFa mc0 kBool (fun m _ => moNone m)), (125, rdp 148 cFa (mc2 c6.agg c6.agg) c6.agg (fun m x => t.mm m x.1 x.2))]
  [] [] [] [] true [124, 125]
def pqK : Keep := ⟨[0, 5, 6, 7, 8, 9], [0, 2, 3, 20, 21], 28⟩
@[irreducible] noncomputable def pqX (t : PQ) (a e : W6) : XS := entryOf PR (pqE t) [31, 41] (fun _ => none) 10 165 [.ptr 0 0, c6.agg.enc a, c6.agg.enc e] (oneAH cMP 148 ()) 1 0 pqK
@[irreducible] noncomputable def pqI (t : PQ) (a e : W6) (d : Int × W6) : XS := ((pqX t a e).setT 9 (.v (.int .i64 d.1))).setB 21 (c6.enc d.2)
@[irreducible] noncomputable def pqC : Code := roundOf PR 165 0
def pqA (t : PQ) (a : W6) : W6 := t.mm modP a modP.2.2
def pq1 (t : PQ) : W6 := t.mm modP (ofW (bitW true)) modP.2.2
set_option maxRecDepth 1000000 in
theorem pq_round (t : PQ) (a e : W6) (z : Int) (out : W6) : (roundT PR (pqE t) [31, 41] (fun _ => none) 10 pqK pqK pqK pqC (pqI t a e (z, out))).strict =
    .br (decide (z ≥ 0))
      (.br (t.bt e z == 1)
        (.leaf (.normal, pqI t a e (IntKind.i64.wrap (z - 1), t.mm modP (t.mm modP out out) (pqA t a))))
        (.leaf (.normal, pqI t a e (IntKind.i64.wrap (z - 1), t.mm modP out out))))
      (.leaf (.exit 0, pqI t a e (z, out))) := by kernel_rfl
set_option maxRecDepth 1000000 in
theorem pq_head (t : PQ) (a e : W6) : pqX t a e = pqI t a e (IntKind.i64.wrap (t.ln e - 1), pq1 t) := by kernel_rfl
theorem pq_blk : blkAll 0 (bodyOf PR 165) = [.loop pqC] := by kernel_rfl
@[irreducible] noncomputable def pqB (t : PQ) (a e : W6) (r : W6) : BEnt := ⟨pqK.tm, pqK.ids, pqK.n, pqX t a e, .leaf (.normal, pqI t a e (-1, r))⟩
theorem pqB_n (t : PQ) (a e r : W6) : (pqB t a e r).n = 28 ∧ (pqB t a e r).pre = pqX t a e ∧ (pqB t a e r).post = .leaf (.normal, pqI t a e (-1, r)) := by
  unfold pqB
  exact ⟨rfl, rfl, rfl⟩
set_option maxRecDepth 1000000 in
theorem pq_run (t : PQ) (a e r : W6) : ((afun PR (pqE t) [31, 41] (tabOf [(0, pqB t a e r)]) 10 165 [.ptr 0 0, c6.agg.enc a, c6.agg.enc e] (oneAH cMP 148 ()) 1).bind fun q => .leaf q.1).strict =
    .same (pqX t a e) (pqX t a e) (.leaf (c6.agg.enc (t.mm modP r (ofW (bitW true))))) := by kernel_rfl

def pqO : PQ := ⟨moMontW, lenI, bitI⟩
theorem pqT_eq : [(31, fn1 kU c6.agg ofW), (169, fn1 c6.agg (kInt .i64) lenI), (180, fn2 c6.agg (kInt .i64) (kInt .i64) bitI)] = pqT pqO := by kernel_rfl
theorem pqT_ok : TabPOk PR (pqT pqO) := Eq.subst (motive := TabPOk PR) pqT_eq (TabPOk.cons of_ok (TabPOk.cons len_ok (TabPOk.cons bit_ok TabPOk.nil)))
theorem pqE_ok : EnvOk PR (pqE pqO) := envA_ok eqsT_ok pqT_ok (TabHOk.cons mn_ent mn_ok (TabHOk.cons mm_ent mm_ok TabHOk.nil)) TabLOk.nil TabAOk.nil
theorem pq_codeOk : codeOk (pqE pqO) pqC = true := by kernel_rfl
def pqG (t : PQ) (a e : W6) (k : Nat) (u : W6) : W6 := sqG (fun u => t.mm modP u u) (fun u => t.mm modP u (pqA t a)) (t.bt e) k u
def pqR (a e : W6) : W6 := pqG pqO a e (lenI e).toNat (pq1 pqO)
theorem pq_start (a e : W6) : ∀ d : Int × W6, d = (IntKind.i64.wrap (pqO.ln e - 1), pq1 pqO) → -1 ≤ d.1 ∧ d.1 ≤ 383 ∧ pqG pqO a e (d.1 + 1).toNat d.2 = pqR a e := by
  rintro d rfl
  have hl := lenI_le e
  have hw : IntKind.i64.wrap (pqO.ln e - 1) = lenI e - 1 := wrap_id (n := lenI e - 1) (by omega) (by omega)
  rw [hw]
  refine ⟨?_, ?_, ?_⟩
  · show -1 ≤ lenI e - 1
    omega
  · show lenI e - 1 ≤ 383
    omega
  · show pqG pqO a e (lenI e - 1 + 1).toNat _ = pqG pqO a e (lenI e).toNat _
    rw [show lenI e - 1 + 1 = lenI e by omega]
theorem pq_loop (a e : W6) {Fr0 : Fr} {ds : List Deferred} {Q : AExit → XS → Prop} (hK : Q .normal (pqI pqO a e (-1, pqR a e))) :
    Tri PR Fr0 ds 1 (.block 0 (.loop pqC)) (pqX pqO a e) Q :=
  Eq.subst (motive := fun y => Tri PR Fr0 ds 1 (.block 0 (.loop pqC)) y Q) (pq_head pqO a e).symm <| blockLoop (m := 1) pqE_ok mixed (sym := [31, 41]) (tab := fun _ => none) (lf := 10) (k := pqK) (kx := pqK) (kr := pqK) (by decide) (by decide) (by decide) pq_codeOk (tabOk_none _)
    (pqI pqO a e) (fun d => -1 ≤ d.1 ∧ d.1 ≤ 383 ∧ pqG pqO a e (d.1 + 1).toNat d.2 = pqR a e) (fun d => (d.1 + 1).toNat) _ (pq_start a e _ rfl)
    (sq_law (fun u => pqO.mm modP u u) (fun u => pqO.mm modP u (pqA pqO a)) (pqO.bt e) _ (pqI pqO a e) (pq_round pqO a e) hK)
def powP (a e : W6) : W6 := pqO.mm modP (pqR a e) (ofW (bitW true))
theorem pow_ent : Enters PR 165 := enters_of (fn := Tryz.f165) (by kernel_rfl) (by kernel_rfl) (by kernel_rfl)
theorem sameH {t : Tree (AV × AH)} {x : XS} {B : Cod W6} {y : W6} (h : (t.bind fun q => .leaf q.1).strict = .same x x (.leaf (B.enc y))) : GivesH t (B.val y) :=
  ⟨Tree.holds_bind (K := fun q : AV => flat q = some (B.val y)) (g := fun q : AV × AH => Tree.leaf q.1) (Tree.holds_strict (by rw [h]; exact ⟨rfl, B.h1 y⟩))⟩
theorem pow_gives (t : PQ) (x : W6 × W6) (r : W6) : GivesH (afun PR (pqE t) [31, 41] (tabOf [(0, pqB t x.1 x.2 r)]) 10 165 (.ptr 0 0 :: (mc2 c6.agg c6.agg).enc x) (oneAH cMP 148 ()) 1) (c6.agg.val (t.mm modP r (ofW (bitW true)))) :=
  sameH (pq_run t x.1 x.2 r)
theorem pow_giv (x : W6 × W6) : GivesH (afun PR (pqE pqO) [31, 41] (tabOf [(0, pqB pqO x.1 x.2 (pqR x.1 x.2))]) 10 165 (.ptr 0 0 :: (mc2 c6.agg c6.agg).enc x) (oneAH cMP 148 ()) 1) (c6.agg.val (powP x.1 x.2)) := by
  unfold powP
  exact pow_gives pqO x (pqR x.1 x.2)
theorem pow_tab (x : W6 × W6) : TabOk PR 1 (tabOf [(0, pqB pqO x.1 x.2 (pqR x.1 x.2))]) (bodyOf PR 165) :=
  tabOk_one (by rw [(pqB_n pqO x.1 x.2 (pqR x.1 x.2)).1]; decide) pq_blk fun Fr0 ds Q h => by
    obtain ⟨-, h2, h3⟩ := pqB_n pqO x.1 x.2 (pqR x.1 x.2)
    rw [h3] at h
    rw [h2]
    exact pq_loop x.1 x.2 h
end Go.Rq

/- Powers by the great prime: the contract. -/
namespace Go.Rq
open Go Go.Proofs
noncomputable def pqTab (_ : Unit) (x : W6 × W6) : BTab := tabOf [(0, pqB pqO x.1 x.2 (pqR x.1 x.2))]
def powF (_ : Unit) (x : W6 × W6) : W6 := powP x.1 x.2
theorem pow_tab2 (u : Unit) (x : W6 × W6) : TabOk PR 1 (pqTab u x) (bodyOf PR 165) := by
  unfold pqTab
  exact pow_tab x
theorem pow_giv2 (u : Unit) (x : W6 × W6) : GivesH (afun PR (pqE pqO) [31, 41] (pqTab u x) 10 165 (.ptr 0 0 :: (mc2 c6.agg c6.agg).enc x) (oneAH cMP 148 u) 1) (c6.agg.val (powF u x)) := by
  unfold pqTab powF
  cases u
  exact pow_giv x
theorem pow_code : codeOk (pqE pqO) (bodyOf PR 165) = true := by kernel_rfl
theorem pow_body : (Tryz.f165).body = some (bodyOf PR 165) := by kernel_rfl
theorem pow_fn : PR.funcs.toList[165]? = some Tryz.f165 := by kernel_rfl
theorem pow_okH : HeapOk PR 165 (rdp 148 cMP (mc2 c6.agg c6.agg) c6.agg powF) :=
  rdpT_ok (E := pqE pqO) (sym := [31, 41]) (lf := 10) (tab := pqTab) pqE_ok mixed pow_fn pow_body pow_code pow_tab2 pow_giv2
end Go.Rq

/- What the base's modulus comes to at the first generator. Written by a program of ours. -/
namespace Go.Rq
open Go Go.Proofs

def gX : W6 := ⟨0xfb3af00adb22c6bb#64, 0x6c55e83ff97a1aef#64, 0xa14e3a3f171bac58#64, 0xc3688c4f9774b905#64, 0x2695638c4fa9ac0f#64, 0x17f1d3a73197d794#64⟩
def gV1 : W6 := ⟨0x362863c0d062b979#64, 0x4071ac337f56b79f#64, 0x8a102615bff619c0#64, 0xe072f5eab6da1fce#64, 0x47b60aab6103fd71#64, 0xa959cfb3b492808#64⟩
def gV2 : W6 := ⟨0x3799e0afe2779a52#64, 0x3f6e07f754b6e793#64, 0x454b95a7d6a93f85#64, 0xf459c87e11ab01b3#64, 0xdab071ff6d880ae0#64, 0x64a3a594868a2a4#64⟩
def gV3 : W6 := ⟨0x3799e0afe2779a56#64, 0x3f6e07f754b6e793#64, 0x454b95a7d6a93f85#64, 0xf459c87e11ab01b3#64, 0xdab071ff6d880ae0#64, 0x64a3a594868a2a4#64⟩
def gE : W6 := ⟨0xee7fbfffffffeaab#64, 0x7aaffffac54ffff#64, 0xd9cc34a83dac3d89#64, 0xd91dd2e13ce144af#64, 0x92c6e9ed90d2eb35#64, 0x680447a8e5ff9a6#64⟩
def gC : W6 := ⟨0xcaa232946c5e7e1#64, 0xd03cc744a2888ae4#64, 0xdb18cb2c04b3ed#64, 0xfcf5e095d5d00af6#64, 0xa09e30ed741d8ae4#64, 0x8b3f481e3aaa0f1#64⟩
def gNg : W6 := ⟨0xad54dcd6b939c2ca#64, 0x4e6f38ba0ecb751b#64, 0x6655b9d5caac4236#64, 0x67816aef1db507c9#64, 0xaa7d76c8cf2e21f2#64, 0x114d1d6855d545a8#64⟩
def fC : W6 := ⟨0xb9feffffffffaaa9#64, 0x1eabfffeb153ffff#64, 0x6730d2a0f6b0f624#64, 0x64774b84f38512bf#64, 0x4b1ba7b6434bacd7#64, 0x1a0111ea397fe69a#64⟩
def fNg : W6 := ⟨0x2#64, 0x0#64, 0x0#64, 0x0#64, 0x0#64, 0x0#64⟩
/-- What is listed, else what is reckoned. -/
def tabF {α β : Type} (e : α → α → Bool) (tab : List (α × β)) (F : α → β) (z : α) : β := match lookT e tab z with
  | some y => y
  | none => F z
theorem tabF_eq {α β : Type} {e : α → α → Bool} (he : ∀ x y, e x y = true → x = y) {tab : List (α × β)} {F : α → β} (ht : ∀ p ∈ tab, F p.1 = p.2) : tabF e tab F = F := by
  funext z
  unfold tabF
  split
  · rename_i y hy
    exact (ht _ (lookT_mem he hy)).symm
  · rfl
/-- Likewise, for one modulus. -/
def tabM {α β : Type} (e : α → α → Bool) (tab : List (α × β)) (F : Mo → α → β) (m : Mo) (z : α) : β := bif eqMo m modP then tabF e tab (F modP) z else F m z
theorem tabM_eq {α β : Type} {e : α → α → Bool} (he : ∀ x y, e x y = true → x = y) {tab : List (α × β)} {F : Mo → α → β} (ht : ∀ p ∈ tab, F modP p.1 = p.2) : tabM e tab F = F := by
  funext m z
  unfold tabM
  cases h : eqMo m modP with
  | true => rw [cond_true, tabF_eq he ht, eqMo_ok m modP h]
  | false => rfl
def eqW2 : W6 × W6 → W6 × W6 → Bool := pairB eqW eqW
theorem eqW2_ok (x y : W6 × W6) (h : eqW2 x y = true) : x = y := pairB_eq eqW_ok eqW_ok x y h

/-! Products and powers, as numbers. -/
theorem wide_mm {a b w r p : Nat} (h : w * r * r % p = 1) : (a * w * r % p) * b * r % p = a * b % p := by
  rw [Nat.mul_assoc, Nat.mod_mul_mod, show a * w * r * (b * r) = a * b * (w * r * r) by
    simp only [Nat.mul_comm, Nat.mul_left_comm], Nat.mul_mod, h, Nat.mul_one, Nat.mod_mod]
def sqN (p r A : Nat) (bt : Nat → Bool) : Nat → Nat → Nat
  | 0, u => u
  | k + 1, u => forceN (bif bt k then (u * u * r % p) * A * r % p else u * u * r % p) fun v => sqN p r A bt k v
theorem sq_nat {p r : Nat} {mm : W6 → W6 → W6} (hp : 0 < p) (hm : ∀ a b, b.val < p → (mm a b).val = a.val * b.val * r % p) {x : W6} (hx : x.val < p) (bt : Int → Int) : ∀ (k : Nat) (u : W6), u.val < p →
    (sqG (fun u => mm u u) (fun u => mm u x) bt k u).val = sqN p r x.val (fun i => bt (i : Int) == 1) k u.val
  | 0, u, h => rfl
  | k + 1, u, h => by
    have h1 := hm u u h
    have h2 := hm (mm u u) x hx
    simp only [sqG, sqN, forceN_eq]
    cases bt (k : Int) == 1
    · simp only [cond_false]
      rw [sq_nat hp hm hx bt k (mm u u) (by rw [h1]; exact Nat.mod_lt _ hp), h1]
    · simp only [cond_true]
      rw [sq_nat hp hm hx bt k (mm (mm u u) x) (by rw [h2]; exact Nat.mod_lt _ hp), h2, h1]
theorem mqO_no : mqO.no = moNone := by simp only [mqO]
theorem mqO_mm : mqO.mm = moMontW := by simp only [mqO]
theorem qmulG_def (t : MQ) (m : Mo) (a b : W6) : qmulG t m a b = bif t.no m then zeroW else t.mm m (t.mm m a m.2.2) b := rfl
theorem qmul_def (a b : W6) : qmulW modP a b = bif moNone modP then zeroW else moMontW modP (moMontW modP a modP.2.2) b := by
  unfold qmulW
  rw [qmulG_def, mqO_no, mqO_mm]
theorem moNone_p : moNone modP = false := by decide +kernel
theorem wide_lt : modP.2.2.val < pN := by rw [wideP_val]; decide +kernel
theorem oneV_val : (ofW (bitW true)).val = 1 := by decide +kernel
theorem oneV_lt : (ofW (bitW true)).val < pN := by rw [oneV_val]; decide +kernel
theorem qmul_nat {a b : W6} (hb : b.val < pN) : (qmulW modP a b).val = a.val * b.val % pN := by
  rw [qmul_def, moNone_p, cond_false, mpMont_nat _ _ hb, mpMont_nat a modP.2.2 wide_lt, wideP_val]
  exact wide_mm wideP_twice
theorem qmul_is {a b c : W6} (hb : b.val < pN) (h : a.val * b.val % pN = c.val) : qmulW modP a b = c := W6.val_inj (by rw [qmul_nat hb, h])
theorem red_is {a c : W6} (h : a.val % pN = c.val) : moRedW modP a = c := W6.val_inj (by rw [mpRed_nat, h])
theorem pqO_mm : pqO.mm = moMontW := by simp only [pqO]
theorem pqO_bt : pqO.bt = bitI := by simp only [pqO]
theorem pow_def (a e : W6) : powF () (a, e) = moMontW modP (sqG (fun u => moMontW modP u u) (fun u => moMontW modP u (moMontW modP a modP.2.2)) (bitI e) (lenI e).toNat (moMontW modP (ofW (bitW true)) modP.2.2)) (ofW (bitW true)) := by
  unfold powF powP pqR pqG pqA pq1
  rw [pqO_mm, pqO_bt]
theorem pow_is {a e c : W6} (h : sqN pN rinvP (a.val * wideP * rinvP % pN) (fun i => bitI e (i : Int) == 1) (lenI e).toNat (1 * wideP * rinvP % pN) * 1 * rinvP % pN = c.val) : powF () (a, e) = c := by
  apply W6.val_inj
  have h1 := mpMont_nat a modP.2.2 wide_lt
  have h2 := mpMont_nat (ofW (bitW true)) modP.2.2 wide_lt
  rw [wideP_val] at h1 h2
  rw [oneV_val] at h2
  have l1 : (moMontW modP a modP.2.2).val < pN := by rw [h1]; exact Nat.mod_lt _ pN_pos
  have l2 : (moMontW modP (ofW (bitW true)) modP.2.2).val < pN := by rw [h2]; exact Nat.mod_lt _ pN_pos
  have h3 := sq_nat pN_pos (mm := moMontW modP) (r := rinvP) (fun a b hb => mpMont_nat a b hb) l1 (bitI e) (lenI e).toNat (moMontW modP (ofW (bitW true)) modP.2.2) l2
  rw [pow_def, mpMont_nat _ _ oneV_lt, h3, h1, h2, oneV_val, h]

/-! The tables. -/
def qmulF (m : Mo) (x : W6 × W6) : W6 := qmulW m x.1 x.2
def qaddF (m : Mo) (x : W6 × W6) : W6 := qaddW m x.1 x.2
def qnegF (m : Mo) (x : W6) : W6 := qsubW m zeroW x
def tMul : List ((W6 × W6) × W6) := [((gX, gX), gV1), ((gV1, gX), gV2), ((gC, gC), gV3), ((zeroW, zeroW), zeroW), ((fC, fC), ofW 4#64)]
theorem tMul_ok : ∀ p ∈ tMul, qmulF modP p.1 = p.2 := fun p hp => by
  simp only [tMul, List.mem_cons, List.not_mem_nil, or_false] at hp
  rcases hp with rfl | rfl | rfl | rfl | rfl
  · exact qmul_is (by decide +kernel) (by decide +kernel)
  · exact qmul_is (by decide +kernel) (by decide +kernel)
  · exact qmul_is (by decide +kernel) (by decide +kernel)
  · exact qmul_is (by decide +kernel) (by decide +kernel)
  · exact qmul_is (by decide +kernel) (by decide +kernel)
def tRed : List (W6 × W6) := [(gV3, gV3), (ofW 4#64, ofW 4#64), (zeroW, zeroW)]
theorem tRed_ok : ∀ p ∈ tRed, moRedW modP p.1 = p.2 := fun p hp => by
  simp only [tRed, List.mem_cons, List.not_mem_nil, or_false] at hp
  rcases hp with rfl | rfl | rfl <;> exact red_is (by decide +kernel)
def tAdd : List ((W6 × W6) × W6) := [((gV2, ofW 4#64), gV3), ((zeroW, ofW 4#64), ofW 4#64)]
theorem tAdd_ok : ∀ p ∈ tAdd, qaddF modP p.1 = p.2 := fun p hp => by
  simp only [tAdd, List.mem_cons, List.not_mem_nil, or_false] at hp
  rcases hp with rfl | rfl <;> decide +kernel
def tNeg : List (W6 × W6) := [(gC, gNg), (fC, fNg)]
theorem tNeg_ok : ∀ p ∈ tNeg, qnegF modP p.1 = p.2 := fun p hp => by
  simp only [tNeg, List.mem_cons, List.not_mem_nil, or_false] at hp
  rcases hp with rfl | rfl <;> decide +kernel
def tPow : List ((W6 × W6) × W6) := [((gV3, gE), gC), ((ofW 4#64, gE), fC)]
theorem tPow_ok : ∀ p ∈ tPow, powF () p.1 = p.2 := fun p hp => by
  simp only [tPow, List.mem_cons, List.not_mem_nil, or_false] at hp
  rcases hp with rfl | rfl <;> exact pow_is (by decide +kernel)
end Go.Rq

/- The law on the chapter's examples: what its function comes to. -/
namespace Go.Rq
open Go Go.Proofs

end Go.Rq
