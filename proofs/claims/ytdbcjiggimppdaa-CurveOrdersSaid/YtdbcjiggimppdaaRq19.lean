/- The modulus of the order: its contract. -/
import Derived.Test.YtdbcjiggimppdaaRq18
import Derived.Test.YtdbcjiggimppdaaRq17
import Derived.Test.YtdbcjiggimppdaaRq11
namespace Go.Rq
open Go Go.Proofs

def nwO : NW := ⟨shl1, moLessW⟩
theorem nwT_eq : [(60, fn2 c6.agg (kAt .i64 1) c6.agg (fun a _ => shl1 a)), (116, fn1 c6.agg (kInt .i64) lenI), (117, fn2 c6.agg c6.agg (kInt .i64) fun a b => chainV (cmpL a b) 0), (63, fn1 kU c6.agg ofW)] = nwT nwO := by kernel_rfl
theorem nwT_ok : TabPOk PR (nwT nwO) := Eq.subst (motive := TabPOk PR) nwT_eq (TabPOk.cons shl1_ok (TabPOk.cons len_ok (TabPOk.cons cmp_ok (TabPOk.cons of_ok TabPOk.nil))))
theorem nwE_ok : EnvOk PR (nwE nwO) := envH_ok eqsT_ok nwT_ok (TabHOk.cons ml_ent ml_ok TabHOk.nil)
theorem nw_codeOk : codeOk (nwE nwO) nwC = true := by kernel_rfl
def nwW : W6 := nwG nwO 768 (ofW (bitW true))
theorem nw_start : ∀ d : Int × W6, d = (0, ofW (bitW true)) → 0 ≤ d.1 ∧ d.1 ≤ 768 ∧ nwG nwO (768 - d.1).toNat d.2 = nwW := by
  rintro d rfl
  exact ⟨by simp, by simp, rfl⟩
theorem nw_loop {Fr0 : Fr} {ds : List Deferred} {Q : AExit → XS → Prop} (hK : Q .normal (nwI nwO (768, nwW))) :
    Tri PR Fr0 ds 0 (.block 2 (.loop nwC)) (nwX nwO) Q :=
  Eq.subst (motive := fun y => Tri PR Fr0 ds 0 (.block 2 (.loop nwC)) y Q) (nw_head nwO).symm <| blockLoop (m := 0) nwE_ok mixed (sym := [44]) (tab := fun _ => none) (lf := 10) (k := nwK) (kx := nwK) (kr := nwK) (Nat.zero_le _) (Nat.zero_le _) (Nat.zero_le _) nw_codeOk (tabOk_none _)
    (nwI nwO) (fun d => 0 ≤ d.1 ∧ d.1 ≤ 768 ∧ nwG nwO (768 - d.1).toNat d.2 = nwW) (fun d => (768 - d.1).toNat) _ (nw_start _ rfl)
    (nw_law nwO _ (nwI nwO) (nw_round nwO) hK)
theorem nw_ctx : Ctx PR (nwE nwO) [44] (tabOf [(2, nwB nwO nwW)]) 10 66 :=
  ctx_of nwE_ok mixed (fn := Try.f66) (by kernel_rfl) (by kernel_rfl) (by kernel_rfl)
    (tabOk_one (Nat.zero_le _) nw_blk fun Fr0 ds Q h => by
      obtain ⟨-, h2, h3⟩ := nwB_n nwO nwW
      rw [h3] at h
      rw [h2]
      exact nw_loop h)
def kOrd : Cod Unit := kIs c6.agg orderW eqW (fun x h => (eqW_iff x orderW).1 h)
theorem nw_gives (r : W6) : (afunQ PR (nwE nwO) [44] (tabOf [(2, nwB nwO r)]) 10 66 165 [c6.agg.enc orderW]).holds (fun a => a = .tup [.agg (cFa.enc (nwOut r)), .v (.int .i64 0)]) :=
  Tree.holds_strict (by rw [nw_run]; exact ⟨rfl, rfl⟩)
theorem nw_okL : LayOk PR 66 (layP kOrd 165 cFa 0 (fun _ => nwOut nwW)) :=
  layP_ok (tab := fun _ => tabOf [(2, nwB nwO nwW)]) (fun _ => nw_ctx) (fun _ => nw_gives nwW)
theorem nw_ent : Enters PR 66 := enters_of (fn := Try.f66) (by kernel_rfl) (by kernel_rfl) (by kernel_rfl)

/-! As numbers. -/
theorem shl_or (a b : BitVec 64) : (a <<< 1 ||| b >>> 63).toNat = 2 * a.toNat % 18446744073709551616 + b.toNat / 9223372036854775808 := by
  have hb : (b >>> 63).toNat = b.toNat / 9223372036854775808 := by rw [BitVec.toNat_ushiftRight, Nat.shiftRight_eq_div_pow]
  have hbl := b.isLt
  have ha : (a <<< 1).toNat = 2 * a.toNat % 18446744073709551616 := by
    rw [BitVec.toNat_shiftLeft, Nat.shiftLeft_eq, Nat.mul_comm]
  have hz : (a <<< 1) &&& (b >>> 63) = 0#64 := by
    apply BitVec.eq_of_toNat_eq
    rw [BitVec.toNat_and, ha, hb]
    have hc : b.toNat / 9223372036854775808 = 0 ∨ b.toNat / 9223372036854775808 = 1 := by omega
    rcases hc with h | h
    · rw [h, Nat.and_zero]; rfl
    · rw [h, Nat.and_one_is_mod]
      show _ = 0
      omega
  rw [← BitVec.add_eq_or_of_and_eq_zero _ _ hz, BitVec.toNat_add, ha, hb]
  apply Nat.mod_eq_of_lt
  omega
theorem shl_sum {a0 a1 a2 a3 a4 a5 m0 m1 m2 m3 m4 m5 c0 c1 c2 c3 c4 : Nat} (d0 : m0 + 18446744073709551616 * c0 = 2 * a0) (d1 : m1 + 18446744073709551616 * c1 = 2 * a1) (d2 : m2 + 18446744073709551616 * c2 = 2 * a2) (d3 : m3 + 18446744073709551616 * c3 = 2 * a3) (d4 : m4 + 18446744073709551616 * c4 = 2 * a4) (d5 : m5 + 18446744073709551616 * 0 = 2 * a5) :
    m0 + 18446744073709551616 * (m1 + c0) + 340282366920938463463374607431768211456 * (m2 + c1) + 6277101735386680763835789423207666416102355444464034512896 * (m3 + c2) + 115792089237316195423570985008687907853269984665640564039457584007913129639936 * (m4 + c3) + 2135987035920910082395021706169552114602704522356652769947041607822219725780640550022962086936576 * (m5 + c4) =
    2 * (a0 + 18446744073709551616 * a1 + 340282366920938463463374607431768211456 * a2 + 6277101735386680763835789423207666416102355444464034512896 * a3 + 115792089237316195423570985008687907853269984665640564039457584007913129639936 * a4 + 2135987035920910082395021706169552114602704522356652769947041607822219725780640550022962086936576 * a5) := by
  omega
theorem top_zero {a0 a1 a2 a3 a4 a5 : Nat} (h : a0 + 18446744073709551616 * a1 + 340282366920938463463374607431768211456 * a2 + 6277101735386680763835789423207666416102355444464034512896 * a3 + 115792089237316195423570985008687907853269984665640564039457584007913129639936 * a4 + 2135987035920910082395021706169552114602704522356652769947041607822219725780640550022962086936576 * a5 < 52435875175126190479447740508185965837690552500527637822603658699938581184513) : a5 = 0 := by
  omega
theorem dbl_parts (v : Nat) : 2 * v % 18446744073709551616 + 18446744073709551616 * (v / 9223372036854775808) = 2 * v := by omega
theorem shl1_words (x : W6) : (shl1 x).val = (2 * x.w0.toNat % 18446744073709551616) + 18446744073709551616 * (2 * x.w1.toNat % 18446744073709551616 + x.w0.toNat / 9223372036854775808) + 340282366920938463463374607431768211456 * (2 * x.w2.toNat % 18446744073709551616 + x.w1.toNat / 9223372036854775808) +
    6277101735386680763835789423207666416102355444464034512896 * (2 * x.w3.toNat % 18446744073709551616 + x.w2.toNat / 9223372036854775808) + 115792089237316195423570985008687907853269984665640564039457584007913129639936 * (2 * x.w4.toNat % 18446744073709551616 + x.w3.toNat / 9223372036854775808) +
    2135987035920910082395021706169552114602704522356652769947041607822219725780640550022962086936576 * (2 * x.w5.toNat % 18446744073709551616 + x.w4.toNat / 9223372036854775808) := by
  have h0 : (x.w0 <<< 1).toNat = 2 * x.w0.toNat % 18446744073709551616 := by rw [BitVec.toNat_shiftLeft, Nat.shiftLeft_eq, Nat.mul_comm]
  rw [← h0, ← shl_or, ← shl_or, ← shl_or, ← shl_or, ← shl_or]
  rfl
theorem shl1_nat (x : W6) (h : x.val < 52435875175126190479447740508185965837690552500527637822603658699938581184513) : (shl1 x).val = 2 * x.val := by
  have top : x.w5.toNat = 0 := top_zero h
  have d5 : 2 * x.w5.toNat % 18446744073709551616 + 18446744073709551616 * 0 = 2 * x.w5.toNat := by rw [top]
  rw [shl1_words]
  exact shl_sum (dbl_parts x.w0.toNat) (dbl_parts x.w1.toNat) (dbl_parts x.w2.toNat) (dbl_parts x.w3.toNat) (dbl_parts x.w4.toNat) d5
def dblN : Nat → Nat → Nat
  | 0, v => v
  | k + 1, v => dblN k (2 * v % rN)
theorem nwO_ls : nwO.ls = moLessW := by simp only [nwO]
theorem nwO_sh : nwO.sh = shl1 := by simp only [nwO]
theorem moLess_fst (sb : W6 → W6 → W6 × Bool) {m m' : Mo} (h : m.1 = m'.1) (x : W6) : moLess sb m x = moLess sb m' x := by
  unfold moLess
  rw [h]
theorem nwM_fst : nwM.1 = modO.1 := by simp only [nwM, modO]
theorem ls_same (x : W6) : nwO.ls nwM (nwO.sh x) = moLessW modO (shl1 x) := by
  rw [nwO_ls, nwO_sh]
  unfold moLessW
  exact moLess_fst wSubW nwM_fst _
theorem nwG_nat : ∀ (k : Nat) (x : W6), x.val < rN → (nwG nwO k x).val = dblN k x.val
  | 0, _, _ => rfl
  | k + 1, x, h => by
    simp only [nwG, dblN]
    rw [ls_same]
    have h1 := shl1_nat x h
    have h2 := moLess_nat (shl1 x) (by rw [h1]; omega)
    rw [h1] at h2
    rw [nwG_nat k _ (by rw [h2]; exact Nat.mod_lt _ (by decide +kernel)), h2]
theorem dbl_wide : dblN 768 1 = wideR := by decide +kernel
theorem nwW_eq : nwW = modO.2.2 := by
  apply W6.val_inj
  have h1 : (ofW (bitW true)).val = 1 := by decide +kernel
  rw [wideR_val]
  unfold nwW
  rw [nwG_nat 768 _ (by rw [h1]; decide +kernel), h1, dbl_wide]
theorem nwOut_eq : nwOut nwW = modO := by
  rw [nwW_eq]; rfl
theorem new_okL : LayOk PR 66 (layP kOrd 165 cFa 0 (fun _ => modO)) := by
  have h := nw_okL
  rw [nwOut_eq] at h
  exact h
end Go.Rq

/- The law CurveOrders, gone through: what is called left open. -/
namespace Go.Rq
open Go Go.Proofs

structure OL where
  g1 : Ap W6
  mu1 : Ap W6 → W6 → Ap W6 × Int
  in1 : Ap W6 → Bool
  g2 : Ap D6
  mu2 : Ap D6 → W6 → Ap D6 × Int
  in2 : Ap D6 → Bool
  rd : Mo → W6 → W6
  mo : Mo
def orTree (t : OL) (n : W6) : Tree AV :=
  .br ((t.mu1 t.g1 n).2 == 0) (.br ((t.mu2 t.g2 n).2 == 0) (.br ((t.mu1 t.g1 (t.rd t.mo n)).2 == 0) (.br ((t.mu2 t.g2 (t.rd t.mo n)).2 == 0)
    (.br (eqP13 (t.mu1 t.g1 n).1 (t.mu1 t.g1 (t.rd t.mo n)).1) (.br (eqP25 (t.mu2 t.g2 n).1 (t.mu2 t.g2 (t.rd t.mo n)).1) (.br (t.in1 (t.mu1 t.g1 n).1) (.br (t.in2 (t.mu2 t.g2 n).1)
      (.br ((t.mu1 t.g1 n).1.zero == eqW (t.rd t.mo n) zeroW) (.leaf (kBool.enc ((t.mu2 t.g2 n).1.zero == eqW (t.rd t.mo n) zeroW))) grF) grF) grF) grF) grF) grF) grF) grF) grF
def orT (t : OL) : PureTab := [(55, fn0 kBool true), (33, fn0 aW.agg t.g1), (37, fn2 aW.agg c6.agg kPW t.mu1), (31, fn1 aW.agg kBool t.in1),
  (46, fn0 aD.agg t.g2), (50, fn2 aD.agg c6.agg kPD t.mu2), (44, fn1 aD.agg kBool t.in2), (64, fn0 c6.agg orderW)]
noncomputable def orE (t : OL) : Env := envL eqsT (orT t) [(67, rdp 165 cFa (mc1 c6.agg) c6.agg t.rd)] [(66, layP kOrd 165 cFa 0 (fun _ => t.mo))] false
set_option maxRecDepth 1000000 in
theorem orders_law (t : OL) (n : W6) : (afunR PR (orE t) [65, 69, 73, 77, 82, 87, 91, 95, 101] (fun _ => none) 10 11 [c6.agg.enc n]).strict = orTree t n := by kernel_rfl
end Go.Rq

/- The law CurveOrders holds of what the functions come to. -/
namespace Go.Rq
open Go Go.Proofs

section
variable {K V : Type} [Rg K] {iv : K → K} {e : K → K → Bool} {F : Fd K iv e} {b : K}

theorem orders_of {R : Ap K → Ap V → Prop} {eqP : Ap V → Ap V → Bool} {zp : Ap V} {g : GP V} (h : Br F b R eqP zp g) (C : Cv F b) {mu : Ap V → W6 → Ap V × Int}
    (hmu : ∀ {A : Ap K} {p : Ap V}, R A p → Pt b A → ∀ n : W6, (mu p n).2 = 0 ∧ R (nsm iv e A n.val) (mu p n).1) {gp : Ap V} {G : Ap K} (hG : R G gp) (hP : Pt b G) (hz : G.zero = false) (hr : nsm iv e G rN = ⟨0, 0, true⟩)
    {ing : Ap V → Bool} (hing : ∀ {A : Ap K} {p : Ap V}, R A p → Pt b A → ing p = (nsm iv e A rN).zero) (zf : ∀ {A : Ap K} {p : Ap V}, R A p → A.zero = p.zero) {n m : W6} (hm : m.val = n.val % rN) :
    (mu gp n).2 = 0 ∧ (mu gp m).2 = 0 ∧ eqP (mu gp n).1 (mu gp m).1 = true ∧ ing (mu gp n).1 = true ∧ (mu gp n).1.zero = decide (n.val % rN = 0) := by
  obtain ⟨k1, k2⟩ := hmu hG hP n
  obtain ⟨l1, l2⟩ := hmu hG hP m
  rw [hm, ← nsm_mod F C hP hr] at l2
  refine ⟨k1, l1, ?_, ?_, ?_⟩
  · rw [h.inj k2 l2]; exact h.refl _
  · rw [hing k2 (nsm_pt F hP n.val), ← nsm_mul F C hP, Nat.mul_comm, nsm_mul F C hP, hr, nsm_zero]
  · rw [← zf k2, nsm_none F C hP pr_r hr hz]
end

section
variable {K : Type} [Rg K] {iv : K → K} {e : K → K → Bool} {M P : K → W6 → Prop} {f : Fl K}
theorem Lk.ingN (L : Lk iv e M P f) (hlt : ∀ {x : K} {w : W6}, P x w → w.val < pN) (C : Cv L.F f.b) {A : Ap K} {p : Ap W6} (hP : RA P A p) (hA : Pt f.b A) : inGroup1 p = (Go.Rq.nsm iv e A rN).zero := by
  have hc : rcheck1 p = true := by rw [← L.check]; exact L.ckPt hlt hP hA
  have h1 := (L.nsm hlt C hP hA orderW).2
  rw [order_val, L.mul, hc, cond_true] at h1
  rw [L.ing, hc, cond_true, rin1_def, hc, cond_true, ← h1.z]
theorem Lk.gen (L : Lk iv e M P f) (hlt : ∀ {x : K} {w : W6}, P x w → w.val < pN) (C : Cv L.F f.b) : ∃ G : Ap K, RA P G gen1P ∧ Pt f.b G ∧ G.zero = false ∧ Go.Rq.nsm iv e G rN = ⟨0, 0, true⟩ := by
  have hc : rcheck1 gen1P = true := by rw [← L.check]; exact check_gen
  obtain ⟨-, G, hG, hon⟩ := L.point hc
  have hP := on_pt L.F hon
  have h1 := (L.nsm hlt C hG hP orderW).2
  rw [mul_order, order_val] at h1
  exact ⟨G, hG, hP, hG.z, (nsm_pt L.F hP rN).z h1.z⟩
end
section
variable {K : Type} [Rg K] {iv : K → K} {e : K → K → Bool} {M P : K → D6 → Prop} {f : Fl K}
theorem LkD.ingN (L : LkD iv e M P f) (hlt : ∀ {x : K} {w : D6}, P x w → w.a.val < pN ∧ w.b.val < pN) (C : Cv L.F f.b) {A : Ap K} {p : Ap D6} (hP : RA P A p) (hA : Pt f.b A) : inGroup2 p = (Go.Rq.nsm iv e A rN).zero := by
  have hc : rcheck2 p = true := by rw [← L.check]; exact L.ckPt hlt hP hA
  have h1 := (L.nsm hlt C hP hA orderW).2
  rw [order_val, L.mul, hc, cond_true] at h1
  rw [L.ing, hc, cond_true, rin2_def, hc, cond_true, ← h1.z]
theorem more_val : moreW.val = rN + 1 := by decide +kernel
theorem LkD.gen (L : LkD iv e M P f) (hlt : ∀ {x : K} {w : D6}, P x w → w.a.val < pN ∧ w.b.val < pN) (C : Cv L.F f.b) : ∃ G : Ap K, RA P G gen2P ∧ Pt f.b G ∧ G.zero = false ∧ Go.Rq.nsm iv e G rN = ⟨0, 0, true⟩ := by
  have hc : rcheck2 gen2P = true := by rw [← L.check]; exact check_gen2
  obtain ⟨-, G, hG, hon⟩ := L.point hc
  have hP := on_pt L.F hon
  have h1 := (L.nsm hlt C hG hP moreW).2
  rw [mul_more, more_val] at h1
  refine ⟨G, hG, hP, hG.z, ?_⟩
  -- one more than the order is the point itself
  have hN := nsm_pt (iv := iv) (e := e) L.F hP rN
  have h2 := sum_cancel L.F C hN hP
  have h3 : sumA iv e (Go.Rq.nsm iv e G rN) G = G := by
    obtain ⟨gx, gy, gz⟩ := G
    have e1 : ∀ {x y : K} {w : D6}, P x w → P y w → x = y := fun {x y w} hx hy => by
      have := L.ref.eq hx hy
      rw [(eqD_iff w w).2 rfl] at this
      exact L.F.eq.1 this
    exact Ap.ext3 (e1 h1.x hG.x) (e1 h1.y hG.y) (h1.z.trans hG.z.symm)
  rw [h3, sum_neg L.F hP] at h2
  exact h2.symm
end

def olO : OL := ⟨gen1P, sumP1W, inGroup1, gen2P, sumP1D, inGroup2, moRedW, modO⟩
structure OLOk (t : OL) : Prop where
  one : ∀ n : W6, (t.mu1 t.g1 n).2 = 0 ∧ (t.mu1 t.g1 (t.rd t.mo n)).2 = 0 ∧ eqP13 (t.mu1 t.g1 n).1 (t.mu1 t.g1 (t.rd t.mo n)).1 = true ∧ t.in1 (t.mu1 t.g1 n).1 = true ∧ (t.mu1 t.g1 n).1.zero = decide (n.val % rN = 0)
  two : ∀ n : W6, (t.mu2 t.g2 n).2 = 0 ∧ (t.mu2 t.g2 (t.rd t.mo n)).2 = 0 ∧ eqP25 (t.mu2 t.g2 n).1 (t.mu2 t.g2 (t.rd t.mo n)).1 = true ∧ t.in2 (t.mu2 t.g2 n).1 = true ∧ (t.mu2 t.g2 n).1.zero = decide (n.val % rN = 0)
  rd : ∀ n : W6, (t.rd t.mo n).val = n.val % rN
theorem olO_one (n : W6) : (sumP1W gen1P n).2 = 0 ∧ (sumP1W gen1P (moRedW modO n)).2 = 0 ∧ eqP13 (sumP1W gen1P n).1 (sumP1W gen1P (moRedW modO n)).1 = true ∧ inGroup1 (sumP1W gen1P n).1 = true ∧ (sumP1W gen1P n).1.zero = decide (n.val % rN = 0) := by
  obtain ⟨b, L, C⟩ := link1c
  obtain ⟨G, g1, g2, g3, g4⟩ := L.gen rp_lt C
  exact orders_of (L.br rp_lt) C (fun h k n => L.nsm rp_lt C h k n) g1 g2 g3 g4 (ing := inGroup1) (fun h k => L.ingN rp_lt C h k) (fun h => h.z) (moRed_nat n)
theorem olO_two (n : W6) : (sumP1D gen2P n).2 = 0 ∧ (sumP1D gen2P (moRedW modO n)).2 = 0 ∧ eqP25 (sumP1D gen2P n).1 (sumP1D gen2P (moRedW modO n)).1 = true ∧ inGroup2 (sumP1D gen2P n).1 = true ∧ (sumP1D gen2P n).1.zero = decide (n.val % rN = 0) := by
  obtain ⟨b, L, C⟩ := link2c
  have hlt : ∀ {x : DN F1} {w : D6}, RD RP x w → w.a.val < pN ∧ w.b.val < pN := fun h => ⟨rp_lt h.a, rp_lt h.b⟩
  obtain ⟨G, g1, g2, g3, g4⟩ := L.gen hlt C
  exact orders_of (L.br hlt) C (fun h k n => L.nsm hlt C h k n) g1 g2 g3 g4 (ing := inGroup2) (fun h k => L.ingN hlt C h k) (fun h => h.z) (moRed_nat n)
theorem olO_ok : OLOk olO where
  one n := by simp only [olO]; exact olO_one n
  two n := by simp only [olO]; exact olO_two n
  rd n := by simp only [olO]; exact moRed_nat n

theorem orTree_true {t : OL} (h : OLOk t) (n : W6) : (orTree t n).holds (fun q => flat q = some (.bool true)) := by
  obtain ⟨a1, a2, a3, a4, a5⟩ := h.one n
  obtain ⟨b1, b2, b3, b4, b5⟩ := h.two n
  have hz : eqW (t.rd t.mo n) zeroW = decide (n.val % rN = 0) := by
    rw [Bool.eq_iff_iff, eqW_iff, decide_eq_true_eq, ← h.rd n]
    constructor
    · intro e; rw [e, zero_val]
    · intro e; exact W6.val_inj (by rw [e, zero_val])
  unfold orTree
  refine go_on (eq_zero a1) (go_on (eq_zero b1) (go_on (eq_zero a2) (go_on (eq_zero b2) (go_on a3 (go_on b3 (go_on a4 (go_on b4 (go_on ?_ ?_))))))))
  · rw [a5, hz]; exact beq_self_eq_true _
  · rw [b5, hz, beq_self_eq_true]; rfl
end Go.Rq
