/- The laws CurveGroup1 and CurveGroup2 hold of what the functions come to. -/
import Derived.Test.YtdbcjiggimppdaaRq17
import Derived.Test.YtdbcjiggimppdaaRq10
import Derived.Test.YtdbcjiggimppdaaRq16
import Derived.Test.YtdbcjiggimppdaaRq11
namespace Go.Rq
open Go Go.Proofs

/-! From the field's points to the program's. -/
section
variable {K V : Type} [Rg K] {iv : K → K} {e : K → K → Bool} {F : Fd K iv e} {b : K}

theorem pt_on (F : Fd K iv e) {f : Fl K} {A : Ap K} (h : Pt f.b A) : onE (foK iv) e f A = true := by
  unfold onE
  cases h with
  | zero =>
    show (bif e (0 : K) 0 then e (0 : K) 0 else false) = true
    rw [F.refl]; rfl
  | of h =>
    rename_i x y
    show e (y * y) (x * x * x + f.b) = true
    exact F.eq.2 h
theorem on_pt (F : Fd K iv e) {f : Fl K} {A : Ap K} (h : onE (foK iv) e f A = true) : Pt f.b A := by
  cases hz : A.zero with
  | true => rw [on_none F h hz]; exact .zero
  | false =>
    unfold onE at h
    rw [hz, cond_false] at h
    have h := F.eq.1 h
    obtain ⟨x, y, z⟩ := A
    simp only at hz
    subst hz
    exact .of h

/-- What the program answers of points that stand for the field's. -/
structure Br (F : Fd K iv e) (b : K) (R : Ap K → Ap V → Prop) (eqP : Ap V → Ap V → Bool) (zp : Ap V) (t : GP V) : Prop where
  pt : ∀ {p : Ap V}, t.ck p = true → ∃ A, R A p ∧ Pt b A
  ck : ∀ {A : Ap K} {p : Ap V}, R A p → Pt b A → t.ck p = true
  ad : ∀ {A B : Ap K} {p q : Ap V}, R A p → R B q → Pt b A → Pt b B → (t.ad p q).2 = 0 ∧ R (sumA iv e A B) (t.ad p q).1
  ne : ∀ {A : Ap K} {p : Ap V}, R A p → Pt b A → (t.ne p).2 = 0 ∧ R (negK A) (t.ne p).1
  zp : R ⟨0, 0, true⟩ zp
  inj : ∀ {A : Ap K} {p q : Ap V}, R A p → R A q → p = q
  refl : ∀ p, eqP p p = true

theorem Br.gp {R : Ap K → Ap V → Prop} {eqP : Ap V → Ap V → Bool} {zp : Ap V} {t : GP V} (h : Br F b R eqP zp t) (C : Cv F b) : GPOk eqP zp t where
  refl := h.refl
  ad p q hp hq := by
    obtain ⟨A, a1, a2⟩ := h.pt hp
    obtain ⟨B, b1, b2⟩ := h.pt hq
    obtain ⟨k1, k2⟩ := h.ad a1 b1 a2 b2
    exact ⟨k1, h.ck k2 (sum_pt F a2 b2)⟩
  ne p hp := by
    obtain ⟨A, a1, a2⟩ := h.pt hp
    obtain ⟨k1, k2⟩ := h.ne a1 a2
    exact ⟨k1, h.ck k2 (neg_pt a2)⟩
  zc := h.ck h.zp .zero
  comm p q hp hq := by
    obtain ⟨A, a1, a2⟩ := h.pt hp
    obtain ⟨B, b1, b2⟩ := h.pt hq
    have k := (h.ad b1 a1 b2 a2).2
    rw [sum_comm F b2 a2] at k
    exact h.inj (h.ad a1 b1 a2 b2).2 k
  assoc p q r hp hq hr := by
    obtain ⟨A, a1, a2⟩ := h.pt hp
    obtain ⟨B, b1, b2⟩ := h.pt hq
    obtain ⟨D, d1, d2⟩ := h.pt hr
    have k1 := (h.ad (h.ad a1 b1 a2 b2).2 d1 (sum_pt F a2 b2) d2).2
    have k2 := (h.ad a1 (h.ad b1 d1 b2 d2).2 a2 (sum_pt F b2 d2)).2
    rw [sum_assoc F C a2 b2 d2] at k1
    exact h.inj k1 k2
  neg p hp := by
    obtain ⟨A, a1, a2⟩ := h.pt hp
    have k := (h.ad a1 (h.ne a1 a2).2 a2 (neg_pt a2)).2
    rw [sum_neg F a2] at k
    exact h.inj k h.zp
  zero p hp := by
    obtain ⟨A, a1, a2⟩ := h.pt hp
    have k := (h.ad a1 h.zp a2 .zero).2
    rw [a2.add0] at k
    exact h.inj k a1
end

def gpO1 : GP W6 := ⟨checkP1, addP1, negP1⟩
def gpO2 : GP D6 := ⟨checkP2, addP2, negP2⟩

section
variable {K : Type} [Rg K] {iv : K → K} {e : K → K → Bool} {M P : K → W6 → Prop} {f : Fl K}

theorem Lk.ckPt (L : Lk iv e M P f) (hlt : ∀ {x : K} {w : W6}, P x w → w.val < pN) {A : Ap K} {p : Ap W6} (h : RA P A p) (hA : Pt f.b A) : checkP1 p = true := by
  have hb : belowP1 p = true := by
    unfold belowP1
    rw [belowI_nat, belowI_nat, decide_eq_true (hlt h.x), decide_eq_true (hlt h.y)]
    rfl
  unfold checkP1
  rw [hb, cond_true, ← on_rel L.rel L.fl (L.inn h)]
  exact pt_on L.F hA

theorem Lk.br (L : Lk iv e M P f) (hlt : ∀ {x : K} {w : W6}, P x w → w.val < pN) : Br L.F f.b (RA P) eqP13 zeroP1 gpO1 where
  pt := fun {p} h => by
    have h' : rcheck1 p = true := by rw [← L.check]; exact h
    obtain ⟨-, A, hP, hon⟩ := L.point h'
    exact ⟨A, hP, on_pt L.F hon⟩
  ck h hA := L.ckPt hlt h hA
  ad := fun {A B p q} ha hb a2 b2 => by
    have c1 : rcheck1 p = true := by rw [← L.check]; exact L.ckPt hlt ha a2
    have c2 : rcheck1 q = true := by rw [← L.check]; exact L.ckPt hlt hb b2
    have h4 : RA P (sumA iv e A B) (radd1 p q) := radd_rel L.ref ha hb
    have h5 : addP1 p q = (radd1 p q, 0) := by rw [L.add, c1, c2]; rfl
    show (addP1 p q).2 = 0 ∧ RA P (sumA iv e A B) (addP1 p q).1
    rw [h5]
    exact ⟨rfl, h4⟩
  ne := fun {A p} ha a2 => by
    have c1 : rcheck1 p = true := by rw [← L.check]; exact L.ckPt hlt ha a2
    have h4 := rneg_rel L.ref ha
    have h5 : negP1 p = (rneg1G roO p, 0) := by rw [L.neg, c1]; rfl
    show (negP1 p).2 = 0 ∧ RA P (negK A) (negP1 p).1
    rw [h5]
    exact ⟨rfl, h4⟩
  zp := ⟨L.ref.zero, L.ref.zero, rfl⟩
  inj h k := ra_inj L.ref h k
  refl p := (eqP13_iff p p).2 rfl
end

section
variable {K : Type} [Rg K] {iv : K → K} {e : K → K → Bool} {M P : K → D6 → Prop} {f : Fl K}

theorem LkD.ckPt (L : LkD iv e M P f) (hlt : ∀ {x : K} {w : D6}, P x w → w.a.val < pN ∧ w.b.val < pN) {A : Ap K} {p : Ap D6} (h : RA P A p) (hA : Pt f.b A) : checkP2 p = true := by
  have hb : belowP2 p = true := by
    unfold belowP2
    obtain ⟨h1, h2⟩ := hlt h.x
    obtain ⟨h3, h4⟩ := hlt h.y
    rw [belowI_nat, belowI_nat, belowI_nat, belowI_nat, decide_eq_true h1, decide_eq_true h2, decide_eq_true h3, decide_eq_true h4]
    rfl
  unfold checkP2
  rw [hb, cond_true, ← on_rel L.rel L.fl (L.inn h)]
  exact pt_on L.F hA

theorem LkD.br (L : LkD iv e M P f) (hlt : ∀ {x : K} {w : D6}, P x w → w.a.val < pN ∧ w.b.val < pN) : Br L.F f.b (RA P) eqP25 zeroP2 gpO2 where
  pt := fun {p} h => by
    have h' : rcheck2 p = true := by rw [← L.check]; exact h
    obtain ⟨-, A, hP, hon⟩ := L.point h'
    exact ⟨A, hP, on_pt L.F hon⟩
  ck h hA := L.ckPt hlt h hA
  ad := fun {A B p q} ha hb a2 b2 => by
    have c1 : rcheck2 p = true := by rw [← L.check]; exact L.ckPt hlt ha a2
    have c2 : rcheck2 q = true := by rw [← L.check]; exact L.ckPt hlt hb b2
    have h4 : RA P (sumA iv e A B) (rad2 p q) := rad2_rel L.ref ha hb
    have h5 : addP2 p q = (rad2 p q, 0) := by rw [L.add, c1, c2]; rfl
    show (addP2 p q).2 = 0 ∧ RA P (sumA iv e A B) (addP2 p q).1
    rw [h5]
    exact ⟨rfl, h4⟩
  ne := fun {A p} ha a2 => by
    have c1 : rcheck2 p = true := by rw [← L.check]; exact L.ckPt hlt ha a2
    have h4 := rneg2_rel L.ref ha
    have h5 : negP2 p = (rneg2P doO p, 0) := by rw [L.neg, c1]; rfl
    show (negP2 p).2 = 0 ∧ RA P (negK A) (negP2 p).1
    rw [h5]
    exact ⟨rfl, h4⟩
  zp := ⟨L.ref.zero, L.ref.zero, rfl⟩
  inj h k := ra2_inj L.ref h k
  refl p := (eqP25_iff p p).2 rfl
end

theorem four_rv {b : F1} (hb : RP b (ofW 4#64)) : RV (p := pN) b 4 := ⟨by rw [← hb.eq]; exact four_val.symm⟩
theorem link1c : ∃ b : F1, Lk iv1 eq1 RM RP ⟨1, b⟩ ∧ Cv fd1 b := by
  obtain ⟨b, hb⟩ := rp_of four_lt
  exact ⟨b, ⟨fd1, relM, rm_one, rm_zero, rm_to, rp_from, rp_of, rrel1, rfl, hb⟩, cv1 (four_rv hb)⟩
theorem link2c : ∃ b : DN F1, LkD (ivD iv1) (beqA eq1) (RD RM) (RD RP) ⟨1, b⟩ ∧ Cv fd2 b := by
  obtain ⟨b, hb⟩ := rp_of four_lt
  have hm := rm_to hb
  refine ⟨⟨b, b⟩, ⟨fd2, relPairs relM, ?_, ?_, fun {x w} h => ?_, fun {x w} h => ?_, fun {w} h1 h2 => ?_, drel_of rrel1, rfl, ⟨hb, hb⟩, ⟨hm, hm⟩⟩, cv2 (four_rv hb)⟩
  · rw [dn_one]; exact ⟨rm_one, rm_zero⟩
  · rw [dn_zero]; exact ⟨rm_zero, rm_zero⟩
  · rw [to2_eq]; exact pair_to (Q := RP) (M := RM) (o := toW) rm_to h
  · rw [back2_fW]; exact pair_to (Q := RM) (M := RP) (o := fromW) rp_from h
  · obtain ⟨x, hx⟩ := rp_of h1
    obtain ⟨y, hy⟩ := rp_of h2
    exact ⟨⟨x, y⟩, hx, hy⟩
theorem gpO1_ok : GPOk eqP13 zeroP1 gpO1 := by
  obtain ⟨b, L, C⟩ := link1c
  exact (L.br rp_lt).gp C
theorem gpO2_ok : GPOk eqP25 zeroP2 gpO2 := by
  obtain ⟨b, L, C⟩ := link2c
  exact (L.br (fun h => ⟨rp_lt h.a, rp_lt h.b⟩)).gp C
end Go.Rq

/- Numbers: shifts by 194, products. -/
namespace Go.Rq
open Go Go.Proofs

/-! The two shifts that are told. -/
inductive Sh | up | down
def Sh.i : Sh → Int | .up => 194 | .down => -194
def shOf (k : IntKind) (n : Int) : Option Sh := match decide (k = .i64) with
  | false => none
  | true => match decide (n = 194) with
    | true => some .up
    | false => match decide (n = -194) with
      | true => some .down
      | false => none
def kSh : Cod Sh where
  enc s := .v (.int .i64 s.i)
  dec a := match a with
    | .v (.int k n) => shOf k n
    | _ => none
  val s := .int .i64 s.i
  h1 _ := rfl
  h2 ρ a v x h r := by
    split at h
    · rename_i k n
      cases r
      unfold shOf at h
      split at h
      · cases h
      · rename_i hk
        have hk := of_decide_eq_true hk
        subst hk
        split at h
        · rename_i e; simp at h; subst h; rw [of_decide_eq_true e]; rfl
        · split at h
          · rename_i e; simp at h; subst h; rw [of_decide_eq_true e]; rfl
          · cases h
    · cases h
def shUp (a : W6) : W6 := ⟨0#64, 0#64, 0#64, a.w0 <<< 2, a.w1 <<< 2 ||| a.w0 >>> 62, a.w2 <<< 2 ||| a.w1 >>> 62⟩
def shDown (a : W6) : W6 := ⟨a.w4 <<< 62 ||| a.w3 >>> 2, a.w5 <<< 62 ||| a.w4 >>> 2, 0#64 ||| a.w5 >>> 2, 0#64, 0#64, 0#64⟩
def shW (a : W6) : Sh → W6
  | .up => shUp a
  | .down => shDown a
set_option maxRecDepth 100000 in
theorem shUp_run (a : W6) : (afunR PR (envOf eqsT []) [] (fun _ => none) 40 60 [c6.agg.enc a, (kInt .i64).enc 194]).strict = .leaf (c6.agg.enc (shUp a)) := by kernel_rfl
set_option maxRecDepth 100000 in
theorem shDown_run (a : W6) : (afunR PR (envOf eqsT []) [] (fun _ => none) 40 60 [c6.agg.enc a, (kInt .i64).enc (-194)]).strict = .leaf (c6.agg.enc (shDown a)) := by kernel_rfl
theorem sh_gives (a : W6) (s : Sh) : Gives (afunR PR (envOf eqsT []) [] (fun _ => none) 40 60 [c6.agg.enc a, kSh.enc s]) (c6.agg.val (shW a s)) := by
  cases s
  · exact leafVal (B := c6.agg) (y := shUp a) (shUp_run a)
  · exact leafVal (B := c6.agg) (y := shDown a) (shDown_run a)
theorem sh2_ok : CallOk PR 60 (fn2 c6.agg kSh c6.agg shW) :=
  .inl ⟨enters_of (fn := Try.f60) (by kernel_rfl) (by kernel_rfl) (by kernel_rfl), pure2 (C := kSh) shift_ctx sh_gives⟩

/-! The product of two numbers. -/
def mrG (M : BitVec 64 → BitVec 64 → BitVec 64 × BitVec 64) (S : BitVec 64 → BitVec 64 → Bool → BitVec 64 × Bool) (t : W6) (a : BitVec 64) (b : W6) : BitVec 64 × W6 :=
  let mc := fun (y u c : BitVec 64) => let p := M a y; let s := S p.2 u false; let h := p.1 + bitW s.2; let r := S s.1 c false; ((r.1, h + bitW r.2) : BitVec 64 × BitVec 64)
  let r0 := mc b.w0 t.w0 (bitW false)
  let r1 := mc b.w1 t.w1 r0.2
  let r2 := mc b.w2 t.w2 r1.2
  let r3 := mc b.w3 t.w3 r2.2
  let r4 := mc b.w4 t.w4 r3.2
  let r5 := mc b.w5 t.w5 r4.2
  (r0.1, ⟨r1.1, r2.1, r3.1, r4.1, r5.1, r5.2⟩)
def wmG (M : BitVec 64 → BitVec 64 → BitVec 64 × BitVec 64) (S : BitVec 64 → BitVec 64 → Bool → BitVec 64 × Bool) (a b : W6) : W6 × W6 :=
  let q0 := mrG M S zeroW a.w0 b
  let q1 := mrG M S q0.2 a.w1 b
  let q2 := mrG M S q1.2 a.w2 b
  let q3 := mrG M S q2.2 a.w3 b
  let q4 := mrG M S q3.2 a.w4 b
  let q5 := mrG M S q4.2 a.w5 b
  (⟨q0.1, q1.1, q2.1, q3.1, q4.1, q5.1⟩, q5.2)
def kNN : Cod (W6 × W6) := kTup c6.agg c6.agg (fun _ => rfl) (fun _ => rfl)
set_option maxRecDepth 1000000 in
theorem wm_run (M : BitVec 64 → BitVec 64 → BitVec 64 × BitVec 64) (S : BitVec 64 → BitVec 64 → Bool → BitVec 64 × Bool) (a b : W6) : (afunR PR (rowE M S) [] (fun _ => none) 60 62 [c6.agg.enc a, c6.agg.enc b]).strict = .leaf (kNN.enc (wmG M S a b)) := by kernel_rfl
def wmW : W6 → W6 → W6 × W6 := wmG mul64 add64
theorem wm_ctx : Ctx PR (rowE mul64 add64) [] (fun _ => none) 60 62 :=
  ctx_of (envH_ok eqsT_ok (TabPOk.cons mul64_ok (TabPOk.cons add64_ok TabPOk.nil)) TabHOk.nil) mixed (fn := Try.f62) (by kernel_rfl) (by kernel_rfl) (by kernel_rfl) (tabOk_none _)
theorem wm_ok : CallOk PR 62 (fn2 c6.agg c6.agg kNN wmW) :=
  .inl ⟨enters_of (fn := Try.f62) (by kernel_rfl) (by kernel_rfl) (by kernel_rfl), pure2 wm_ctx (fun a b => leafVal (B := kNN) (y := wmW a b) (wm_run mul64 add64 a b))⟩

/-! As numbers. -/
theorem mrW_eq {t : W6} {a : BitVec 64} {b : W6} {r0 r1 r2 r3 r4 r5 : BitVec 64 × BitVec 64}
    (h0 : mac a b.w0 t.w0 (bitW false) = r0) (h1 : mac a b.w1 t.w1 r0.2 = r1) (h2 : mac a b.w2 t.w2 r1.2 = r2) (h3 : mac a b.w3 t.w3 r2.2 = r3) (h4 : mac a b.w4 t.w4 r3.2 = r4) (h5 : mac a b.w5 t.w5 r4.2 = r5) :
    mrG mul64 add64 t a b = (r0.1, ⟨r1.1, r2.1, r3.1, r4.1, r5.1, r5.2⟩) := by
  subst h0 h1 h2 h3 h4 h5
  rfl
theorem mr_sum {p0 t0 r0 c0 p1 t1 r1 c1 p2 t2 r2 c2 p3 t3 r3 c3 p4 t4 r4 c4 p5 t5 r5 c5 : Nat} (e0 : r0 + 18446744073709551616 * c0 = p0 + t0) (e1 : r1 + 18446744073709551616 * c1 = p1 + t1 + c0) (e2 : r2 + 18446744073709551616 * c2 = p2 + t2 + c1) (e3 : r3 + 18446744073709551616 * c3 = p3 + t3 + c2) (e4 : r4 + 18446744073709551616 * c4 = p4 + t4 + c3) (e5 : r5 + 18446744073709551616 * c5 = p5 + t5 + c4) :
    r0 + 18446744073709551616 * (r1 + 18446744073709551616 * r2 + 340282366920938463463374607431768211456 * r3 + 6277101735386680763835789423207666416102355444464034512896 * r4 + 115792089237316195423570985008687907853269984665640564039457584007913129639936 * r5 + 2135987035920910082395021706169552114602704522356652769947041607822219725780640550022962086936576 * c5) =
    (t0 + 18446744073709551616 * t1 + 340282366920938463463374607431768211456 * t2 + 6277101735386680763835789423207666416102355444464034512896 * t3 + 115792089237316195423570985008687907853269984665640564039457584007913129639936 * t4 + 2135987035920910082395021706169552114602704522356652769947041607822219725780640550022962086936576 * t5) +
    (p0 + 18446744073709551616 * p1 + 340282366920938463463374607431768211456 * p2 + 6277101735386680763835789423207666416102355444464034512896 * p3 + 115792089237316195423570985008687907853269984665640564039457584007913129639936 * p4 + 2135987035920910082395021706169552114602704522356652769947041607822219725780640550022962086936576 * p5) := by
  omega
theorem mr_nat (t : W6) (a : BitVec 64) (b : W6) : (mrG mul64 add64 t a b).1.toNat + 18446744073709551616 * (mrG mul64 add64 t a b).2.val = t.val + a.toNat * b.val := by
  obtain ⟨r0, hr0⟩ : ∃ r, mac a b.w0 t.w0 (bitW false) = r := ⟨_, rfl⟩
  obtain ⟨r1, hr1⟩ : ∃ r, mac a b.w1 t.w1 r0.2 = r := ⟨_, rfl⟩
  obtain ⟨r2, hr2⟩ : ∃ r, mac a b.w2 t.w2 r1.2 = r := ⟨_, rfl⟩
  obtain ⟨r3, hr3⟩ : ∃ r, mac a b.w3 t.w3 r2.2 = r := ⟨_, rfl⟩
  obtain ⟨r4, hr4⟩ : ∃ r, mac a b.w4 t.w4 r3.2 = r := ⟨_, rfl⟩
  obtain ⟨r5, hr5⟩ : ∃ r, mac a b.w5 t.w5 r4.2 = r := ⟨_, rfl⟩
  have hres := mrW_eq hr0 hr1 hr2 hr3 hr4 hr5
  have e0 := mac_nat a b.w0 t.w0 (bitW false)
  rw [hr0, show (bitW false).toNat = 0 from rfl, Nat.add_zero] at e0
  have e1 := mac_nat a b.w1 t.w1 r0.2
  rw [hr1] at e1
  have e2 := mac_nat a b.w2 t.w2 r1.2
  rw [hr2] at e2
  have e3 := mac_nat a b.w3 t.w3 r2.2
  rw [hr3] at e3
  have e4 := mac_nat a b.w4 t.w4 r3.2
  rw [hr4] at e4
  have e5 := mac_nat a b.w5 t.w5 r4.2
  rw [hr5] at e5
  have sum := mr_sum e0 e1 e2 e3 e4 e5
  rw [← val_mul a.toNat b] at sum
  rw [hres]
  exact sum
theorem wm_sum {o0 o1 o2 o3 o4 o5 v1 v2 v3 v4 v5 v6 x0 x1 x2 x3 x4 x5 : Nat} (h0 : o0 + 18446744073709551616 * v1 = 0 + x0) (h1 : o1 + 18446744073709551616 * v2 = v1 + x1) (h2 : o2 + 18446744073709551616 * v3 = v2 + x2) (h3 : o3 + 18446744073709551616 * v4 = v3 + x3) (h4 : o4 + 18446744073709551616 * v5 = v4 + x4) (h5 : o5 + 18446744073709551616 * v6 = v5 + x5) :
    (o0 + 18446744073709551616 * o1 + 340282366920938463463374607431768211456 * o2 + 6277101735386680763835789423207666416102355444464034512896 * o3 + 115792089237316195423570985008687907853269984665640564039457584007913129639936 * o4 + 2135987035920910082395021706169552114602704522356652769947041607822219725780640550022962086936576 * o5) + 39402006196394479212279040100143613805079739270465446667948293404245721771497210611414266254884915640806627990306816 * v6 =
    (x0 + 18446744073709551616 * x1 + 340282366920938463463374607431768211456 * x2 + 6277101735386680763835789423207666416102355444464034512896 * x3 + 115792089237316195423570985008687907853269984665640564039457584007913129639936 * x4 + 2135987035920910082395021706169552114602704522356652769947041607822219725780640550022962086936576 * x5) := by
  omega
theorem wm_nat (a b : W6) : (wmW a b).1.val + 39402006196394479212279040100143613805079739270465446667948293404245721771497210611414266254884915640806627990306816 * (wmW a b).2.val = a.val * b.val := by
  have hb : a.val * b.val = (a.w0.toNat * b.val) + 18446744073709551616 * (a.w1.toNat * b.val) + 340282366920938463463374607431768211456 * (a.w2.toNat * b.val) + 6277101735386680763835789423207666416102355444464034512896 * (a.w3.toNat * b.val) + 115792089237316195423570985008687907853269984665640564039457584007913129639936 * (a.w4.toNat * b.val) + 2135987035920910082395021706169552114602704522356652769947041607822219725780640550022962086936576 * (a.w5.toNat * b.val) := by
    rw [Nat.mul_comm, val_mul]
    simp only [Nat.mul_comm b.val]
  rw [hb]
  have h0 := mr_nat zeroW a.w0 b
  rw [zero_val] at h0
  have h1 := mr_nat (mrG mul64 add64 zeroW a.w0 b).2 a.w1 b
  have h2 := mr_nat (mrG mul64 add64 (mrG mul64 add64 zeroW a.w0 b).2 a.w1 b).2 a.w2 b
  have h3 := mr_nat (mrG mul64 add64 (mrG mul64 add64 (mrG mul64 add64 zeroW a.w0 b).2 a.w1 b).2 a.w2 b).2 a.w3 b
  have h4 := mr_nat (mrG mul64 add64 (mrG mul64 add64 (mrG mul64 add64 (mrG mul64 add64 zeroW a.w0 b).2 a.w1 b).2 a.w2 b).2 a.w3 b).2 a.w4 b
  have h5 := mr_nat (mrG mul64 add64 (mrG mul64 add64 (mrG mul64 add64 (mrG mul64 add64 (mrG mul64 add64 zeroW a.w0 b).2 a.w1 b).2 a.w2 b).2 a.w3 b).2 a.w4 b).2 a.w5 b
  exact wm_sum h0 h1 h2 h3 h4 h5

/-- The lowest 190 bits. -/
def cutW (a : W6) : W6 := shDown (shUp a)
theorem down_lt (a : W6) : (shDown a).val < 1569275433846670190958947355801916604025588861116008628224 := by
  have h0 := (a.w4 <<< 62 ||| a.w3 >>> 2).isLt
  have h1 := (a.w5 <<< 62 ||| a.w4 >>> 2).isLt
  have h2 : (0#64 ||| a.w5 >>> 2).toNat < 4611686018427387904 := by
    rw [BitVec.zero_or, BitVec.toNat_ushiftRight, Nat.shiftRight_eq_div_pow]
    have := a.w5.isLt
    omega
  unfold shDown W6.val
  simp only
  generalize (a.w4 <<< 62 ||| a.w3 >>> 2).toNat = x at *
  generalize (a.w5 <<< 62 ||| a.w4 >>> 2).toNat = y at *
  generalize (0#64 ||| a.w5 >>> 2).toNat = z at *
  simp only [BitVec.toNat_ofNat, Nat.zero_mod]
  omega
theorem small_sum {m n : W6} (hm : m.val < 1569275433846670190958947355801916604025588861116008628224) (hn : n.val < 1569275433846670190958947355801916604025588861116008628224) : (wAddW m n).1.val = m.val + n.val := by
  have h := adds_nat m n
  have hb := b2n_le (adds m n).2
  show (adds m n).1.val = _
  generalize (adds m n).1.val = v at *
  generalize b2n (adds m n).2 = c at *
  omega
theorem small_mul {m n : W6} (hm : m.val < 1569275433846670190958947355801916604025588861116008628224) (hn : n.val < 1569275433846670190958947355801916604025588861116008628224) : (wmW m n).1.val = m.val * n.val := by
  have h := wm_nat m n
  have hp : m.val * n.val < 1569275433846670190958947355801916604025588861116008628224 * 1569275433846670190958947355801916604025588861116008628224 := Nat.mul_lt_mul'' hm hn
  generalize m.val * n.val = x at *
  omega
end Go.Rq

/- The law CurveTimes, gone through: what is called left open. -/
namespace Go.Rq
open Go Go.Proofs

structure TL (K : Type) where
  ck : Ap K → Bool
  ad : Ap K → Ap K → Ap K × Int
  mu : Ap K → W6 → Ap K × Int
structure WL where
  sh : W6 → Sh → W6
  ad : W6 → W6 → W6 × Bool
  mu : W6 → W6 → W6 × W6

def tmPart {K : Type} (eqP : Ap K → Ap K → Bool) (t : TL K) (a : Ap K) (m n s p : W6) (rest : Tree AV) : Tree AV :=
  .br (t.ck a) (.br (!(eqP (t.mu a s).1 (t.ad (t.mu a m).1 (t.mu a n).1).1)) grF (.br (!(eqP (t.mu (t.mu a m).1 n).1 (t.mu a p).1)) grF (.br (!((t.ad (t.mu a m).1 (t.mu a n).1).2 == 0)) grF (.br (!((t.mu a p).2 == 0)) grF rest)))) rest
def tmTree {K L : Type} (eqP : Ap K → Ap K → Bool) (eqQ : Ap L → Ap L → Bool) (t : TL K) (u : TL L) (w : WL) (a : Ap K) (b : Ap L) (m n : W6) : Tree AV :=
  tmPart eqP t a (w.sh (w.sh m .up) .down) (w.sh (w.sh n .up) .down) (w.ad (w.sh (w.sh m .up) .down) (w.sh (w.sh n .up) .down)).1 (w.mu (w.sh (w.sh m .up) .down) (w.sh (w.sh n .up) .down)).1
    (tmPart eqQ u b (w.sh (w.sh m .up) .down) (w.sh (w.sh n .up) .down) (w.ad (w.sh (w.sh m .up) .down) (w.sh (w.sh n .up) .down)).1 (w.mu (w.sh (w.sh m .up) .down) (w.sh (w.sh n .up) .down)).1 grT)

def tmT (t : TL W6) (u : TL D6) (w : WL) : PureTab := [(55, fn0 kBool true), (60, fn2 c6.agg kSh c6.agg w.sh), (61, fn2 c6.agg c6.agg kWB w.ad), (62, fn2 c6.agg c6.agg kNN w.mu),
  (30, fn1 aW.agg kBool t.ck), (36, fn2 aW.agg aW.agg kPW t.ad), (37, fn2 aW.agg c6.agg kPW t.mu),
  (43, fn1 aD.agg kBool u.ck), (49, fn2 aD.agg aD.agg kPD u.ad), (50, fn2 aD.agg c6.agg kPD u.mu)]
noncomputable def tmE (t : TL W6) (u : TL D6) (w : WL) : Env := envH eqsT (tmT t u w) []
set_option maxRecDepth 1000000 in
theorem times_law (t : TL W6) (u : TL D6) (w : WL) (a : Ap W6) (b : Ap D6) (m n : W6) : (afunR PR (tmE t u w) [58, 98, 103, 107, 110, 112, 152, 157, 161, 164] (fun _ => none) 10 9 [aW.agg.enc a, aD.agg.enc b, c6.agg.enc m, c6.agg.enc n]).strict =
    tmTree eqP13 eqP25 t u w a b m n := by kernel_rfl

/-- What makes the law true. -/
structure TLOk {K : Type} (eqP : Ap K → Ap K → Bool) (t : TL K) : Prop where
  refl : ∀ p, eqP p p = true
  main : ∀ (a : Ap K) (m n s p : W6), t.ck a = true → s.val = m.val + n.val → p.val = m.val * n.val →
    (t.mu a s).1 = (t.ad (t.mu a m).1 (t.mu a n).1).1 ∧ (t.mu (t.mu a m).1 n).1 = (t.mu a p).1 ∧ (t.ad (t.mu a m).1 (t.mu a n).1).2 = 0 ∧ (t.mu a p).2 = 0

theorem go_by {c : Bool} {x y : Tree AV} (hc : c = false) (h : y.holds (fun q => flat q = some (.bool true))) : (Tree.br c x y).holds (fun q => flat q = some (.bool true)) := ⟨fun ht => (by rw [hc] at ht; cases ht), fun _ => h⟩
theorem tmPart_true {K : Type} {eqP : Ap K → Ap K → Bool} {t : TL K} (h : TLOk eqP t) (a : Ap K) {m n s p : W6} (hs : s.val = m.val + n.val) (hp : p.val = m.val * n.val) {rest : Tree AV} (hr : rest.holds (fun q => flat q = some (.bool true))) :
    (tmPart eqP t a m n s p rest).holds (fun q => flat q = some (.bool true)) := by
  unfold tmPart
  refine ⟨fun hc => ?_, fun _ => hr⟩
  obtain ⟨h1, h2, h3, h4⟩ := h.main a m n s p hc hs hp
  refine go_by ?_ (go_by ?_ (go_by ?_ (go_by ?_ hr)))
  · rw [h1, h.refl]; rfl
  · rw [h2, h.refl]; rfl
  · rw [h3]; rfl
  · rw [h4]; rfl
end Go.Rq

/- The law CurveTimes holds of what the functions come to. -/
namespace Go.Rq
open Go Go.Proofs

section
variable {K : Type} [Rg K] {iv : K → K} {e : K → K → Bool}

theorem ga1_nsm (F : Fd K iv e) {f : Fl K} (C : Cv F f.b) (hf : f.one = 1) {A : Ap K} (hA : Pt f.b A) (n : W6) : ga1 (gaF iv e) 0 f A n = (nsm iv e A n.val, 0) := by
  have h : ga1 (gaF iv e) 0 f A n = bif onE (foK iv) e f A then (lowerE (foK iv) e (sumE (foK iv) e f ⟨f.one, f.one, 0⟩ (timesF iv e f (raiseJ (foK iv) f A) n)), 0) else (⟨0, 0, false⟩, 5) := rfl
  have h0 : Jr (⟨f.one, f.one, 0⟩ : Jp K) (nsm iv e A 0) := .none rfl
  have h1 := jr_run F C f n.bit (jr_raise F hf hA) hA (lenI n).toNat 0 h0
  rw [bitsV_val n (fun i hi => len_bits n hi), Nat.zero_mul, Nat.zero_add] at h1
  rw [h, pt_on F hA, cond_true, sum_none F f rfl]
  unfold timesF
  rw [times_run, jr_low F h1]

/-- What the program answers of points that stand for the field's: multiples. -/
theorem tl_ok {V : Type} {F : Fd K iv e} {b : K} {R : Ap K → Ap V → Prop} {eqP : Ap V → Ap V → Bool} {zp : Ap V} {g : GP V} (h : Br F b R eqP zp g) (C : Cv F b) {mu : Ap V → W6 → Ap V × Int}
    (hmu : ∀ {A : Ap K} {p : Ap V}, R A p → Pt b A → ∀ n : W6, (mu p n).2 = 0 ∧ R (nsm iv e A n.val) (mu p n).1) : TLOk eqP ⟨g.ck, g.ad, mu⟩ where
  refl := h.refl
  main := fun a m n s p hc hs hp => by
    obtain ⟨A, a1, a2⟩ := h.pt hc
    have km := (hmu a1 a2 m).2
    have kn := (hmu a1 a2 n).2
    have ks := (hmu a1 a2 s).2
    obtain ⟨kp0, kp⟩ := hmu a1 a2 p
    have kx := (hmu km (nsm_pt F a2 m.val) n).2
    obtain ⟨kd0, kd⟩ := h.ad km kn (nsm_pt F a2 m.val) (nsm_pt F a2 n.val)
    rw [hs, nsm_add F C a2] at ks
    rw [hp, nsm_mul F C a2] at kp
    exact ⟨h.inj ks kd, h.inj kx kp, kd0, kp0⟩
end

section
variable {K : Type} [Rg K] {iv : K → K} {e : K → K → Bool} {M P : K → W6 → Prop} {f : Fl K}
theorem Lk.nsm (L : Lk iv e M P f) (hlt : ∀ {x : K} {w : W6}, P x w → w.val < pN) (C : Cv L.F f.b) {A : Ap K} {p : Ap W6} (hP : RA P A p) (hA : Pt f.b A) (n : W6) : (sumP1W p n).2 = 0 ∧ RA P (Go.Rq.nsm iv e A n.val) (sumP1W p n).1 := by
  have hc : rcheck1 p = true := by rw [← L.check]; exact L.ckPt hlt hP hA
  obtain ⟨h1, h2⟩ := ga1_rel L.ga L.m0 L.fl (L.inn hP) n
  rw [ga1_nsm L.F C L.f1 hA n] at h1 h2
  rw [sum1_def, (L.point hc).1, cond_true]
  exact ⟨h2.symm, L.out h1⟩
end
section
variable {K : Type} [Rg K] {iv : K → K} {e : K → K → Bool} {M P : K → D6 → Prop} {f : Fl K}
theorem LkD.nsm (L : LkD iv e M P f) (hlt : ∀ {x : K} {w : D6}, P x w → w.a.val < pN ∧ w.b.val < pN) (C : Cv L.F f.b) {A : Ap K} {p : Ap D6} (hP : RA P A p) (hA : Pt f.b A) (n : W6) : (sumP1D p n).2 = 0 ∧ RA P (Go.Rq.nsm iv e A n.val) (sumP1D p n).1 := by
  have hc : rcheck2 p = true := by rw [← L.check]; exact L.ckPt hlt hP hA
  obtain ⟨h1, h2⟩ := ga1_rel L.ga L.m0 L.fl (L.inn hP) n
  rw [ga1_nsm L.F C L.f1 hA n] at h1 h2
  rw [sum2_def, (L.point hc).1, cond_true]
  exact ⟨h2.symm, L.out h1⟩
end

def tlO1 : TL W6 := ⟨checkP1, addP1, sumP1W⟩
def tlO2 : TL D6 := ⟨checkP2, addP2, sumP1D⟩
def wlO : WL := ⟨shW, wAddW, wmW⟩
theorem tlO1_ok : TLOk eqP13 tlO1 := by
  obtain ⟨b, L, C⟩ := link1c
  exact tl_ok (L.br rp_lt) C (fun h k n => L.nsm rp_lt C h k n)
theorem tlO2_ok : TLOk eqP25 tlO2 := by
  obtain ⟨b, L, C⟩ := link2c
  exact tl_ok (L.br (fun h => ⟨rp_lt h.a, rp_lt h.b⟩)) C (fun h k n => L.nsm (fun h => ⟨rp_lt h.a, rp_lt h.b⟩) C h k n)

theorem tmTree_true {t : TL W6} {u : TL D6} (ht : TLOk eqP13 t) (hu : TLOk eqP25 u) {w : WL} (hw : ∀ m n : W6, (w.ad (w.sh (w.sh m .up) .down) (w.sh (w.sh n .up) .down)).1.val = (w.sh (w.sh m .up) .down).val + (w.sh (w.sh n .up) .down).val ∧
      (w.mu (w.sh (w.sh m .up) .down) (w.sh (w.sh n .up) .down)).1.val = (w.sh (w.sh m .up) .down).val * (w.sh (w.sh n .up) .down).val) (a : Ap W6) (b : Ap D6) (m n : W6) :
    (tmTree eqP13 eqP25 t u w a b m n).holds (fun q => flat q = some (.bool true)) := by
  obtain ⟨h1, h2⟩ := hw m n
  unfold tmTree
  exact tmPart_true ht a h1 h2 (tmPart_true hu b h1 h2 grT_ok)
theorem wlO_ok (m n : W6) : (wlO.ad (wlO.sh (wlO.sh m .up) .down) (wlO.sh (wlO.sh n .up) .down)).1.val = (wlO.sh (wlO.sh m .up) .down).val + (wlO.sh (wlO.sh n .up) .down).val ∧
      (wlO.mu (wlO.sh (wlO.sh m .up) .down) (wlO.sh (wlO.sh n .up) .down)).1.val = (wlO.sh (wlO.sh m .up) .down).val * (wlO.sh (wlO.sh n .up) .down).val := by
  have e : ∀ x, wlO.sh (wlO.sh x .up) .down = shDown (shUp x) := fun _ => rfl
  rw [e, e]
  exact ⟨small_sum (down_lt _) (down_lt _), small_mul (down_lt _) (down_lt _)⟩
end Go.Rq

/- A modulus: what its functions read out of its block. -/
namespace Go.Rq
open Go Go.Proofs

abbrev Mo : Type := W6 × BitVec 64 × W6
def afunP (P : Program) (E : Env) (sym : List Tmp) (lf f : Nat) (t : TypeId) (x : Mo) (args : List AV) : Tree AV := (afun P E sym (fun _ => none) lf f (.ptr 0 0 :: args) (oneAH cFa t x) 1).bind fun q => .leaf q.1
theorem givesP {P : Program} {E : Env} {sym : List Tmp} {lf f : Nat} {t : TypeId} {x : Mo} {args : List AV} {u : Tree AV} {v : Value} (e : (afunP P E sym lf f t x args).strict = u) (hu : u.holds (fun q => flat q = some v)) :
    GivesH (afun P E sym (fun _ => none) lf f (.ptr 0 0 :: args) (oneAH cFa t x) 1) v := ⟨Tree.holds_bind (Tree.holds_strict (by rw [show ((afun P E sym (fun _ => none) lf f (.ptr 0 0 :: args) (oneAH cFa t x) 1).bind fun q => Tree.leaf q.1).strict = u from e]; exact hu))⟩

/-! Is it none? -/
def moNone (m : Mo) : Bool := m.2.1 == 0#64
noncomputable def mnE : Env := envH eqsT [] []
theorem mnE_ok : EnvOk PR mnE := envH_ok eqsT_ok TabPOk.nil TabHOk.nil
theorem mn_run (m : Mo) : (afunP PR mnE [] 10 119 165 m []).strict = .leaf (kBool.enc (moNone m)) := by kernel_rfl
theorem mn_ent : Enters PR 119 := enters_of (fn := Try.f119) (by kernel_rfl) (by kernel_rfl) (by kernel_rfl)
theorem mn_ok : HeapOk PR 119 (rdp 165 cFa mc0 kBool (fun m _ => moNone m)) :=
  rdp_ok (E := mnE) (sym := []) (lf := 10) mnE_ok mixed (fn := Try.f119) (c := bodyOf PR 119) (by kernel_rfl) (by kernel_rfl) (by kernel_rfl) (fun m z => givesP (mn_run m) (holds_leaf (kBool.h1 _)))

/-! The modulus taken away, if it goes. -/
noncomputable def mlE0 (sb : W6 → W6 → W6 × Bool) : Env := envH eqsT [(164, fn2 c6.agg c6.agg kWB sb)] []
theorem ml_run (sb : W6 → W6 → W6 × Bool) (m : Mo) (x : W6) : (afunP PR (mlE0 sb) [17] 10 118 165 m [c6.agg.enc x]).strict =
    .br (!(sb x m.1).2) (.leaf (c6.agg.enc (sb x m.1).1)) (.leaf (c6.agg.enc x)) := by kernel_rfl
def moLess (sb : W6 → W6 → W6 × Bool) (m : Mo) (x : W6) : W6 := bif !(sb x m.1).2 then (sb x m.1).1 else x

/-! The product, by 2^-384. -/
def mcG (M : BitVec 64 → BitVec 64 → BitVec 64 × BitVec 64) (S : BitVec 64 → BitVec 64 → Bool → BitVec 64 × Bool) (a y u c : BitVec 64) : BitVec 64 × BitVec 64 :=
  let p := M a y; let s := S p.2 u false; let h := p.1 + bitW s.2; let r := S s.1 c false; (r.1, h + bitW r.2)
def moRound (M : BitVec 64 → BitVec 64 → BitVec 64 × BitVec 64) (S : BitVec 64 → BitVec 64 → Bool → BitVec 64 × Bool) (m : Mo) (b : W6) (x : BitVec 64) (t : W8) : W8 :=
  let r0 := mcG M S x b.w0 t.1.w0 (bitW false)
  let r1 := mcG M S x b.w1 t.1.w1 r0.2
  let r2 := mcG M S x b.w2 t.1.w2 r1.2
  let r3 := mcG M S x b.w3 t.1.w3 r2.2
  let r4 := mcG M S x b.w4 t.1.w4 r3.2
  let r5 := mcG M S x b.w5 t.1.w5 r4.2
  let u6 := S t.2.1 r5.2 false
  let q := r0.1 * m.2.1
  let mm := M q m.1.w0
  let s0 := S mm.2 r0.1 false
  let s1 := mcG M S q m.1.w1 r1.1 (mm.1 + bitW s0.2)
  let s2 := mcG M S q m.1.w2 r2.1 s1.2
  let s3 := mcG M S q m.1.w3 r3.1 s2.2
  let s4 := mcG M S q m.1.w4 r4.1 s3.2
  let s5 := mcG M S q m.1.w5 r5.1 s4.2
  let s6 := S u6.1 s5.2 false
  (⟨s1.1, s2.1, s3.1, s4.1, s5.1, s6.1⟩, bitW u6.2 + bitW s6.2, bitW u6.2)
def moRaw (M : BitVec 64 → BitVec 64 → BitVec 64 × BitVec 64) (S : BitVec 64 → BitVec 64 → Bool → BitVec 64 × Bool) (m : Mo) (a b : W6) : W8 :=
  moRound M S m b a.w5 (moRound M S m b a.w4 (moRound M S m b a.w3 (moRound M S m b a.w2 (moRound M S m b a.w1 (moRound M S m b a.w0 zero8)))))
noncomputable def mmE0 (M : BitVec 64 → BitVec 64 → BitVec 64 × BitVec 64) (S : BitVec 64 → BitVec 64 → Bool → BitVec 64 × Bool) (L : Mo → W6 → W6) : Env := envH eqsT (rowT M S) [(118, rdp 165 cFa (mc1 c6.agg) c6.agg L)]
set_option maxRecDepth 1000000 in
theorem mm_run (M : BitVec 64 → BitVec 64 → BitVec 64 × BitVec 64) (S : BitVec 64 → BitVec 64 → Bool → BitVec 64 × Bool) (L : Mo → W6 → W6) (m : Mo) (a b : W6) : (afunP PR (mmE0 M S L) [] 20 120 165 m [c6.agg.enc a, c6.agg.enc b]).strict =
    .leaf (c6.agg.enc (L m (moRaw M S m a b).1)) := by kernel_rfl

/-! What is left. -/
noncomputable def mrE0 (N : Mo → Bool) (cm : W6 → W6 → Int) (O : BitVec 64 → W6) (T : Mo → W6 → W6 → W6) : Env := envH eqsT [(117, fn2 c6.agg c6.agg (kInt .i64) cm), (63, fn1 kU c6.agg O)]
  [(119, rdp 165 cFa mc0 kBool (fun m _ => N m)), (120, rdp 165 cFa (mc2 c6.agg c6.agg) c6.agg (fun m x => T m x.1 x.2))]
theorem mred_run (N : Mo → Bool) (cm : W6 → W6 → Int) (O : BitVec 64 → W6) (T : Mo → W6 → W6 → W6) (m : Mo) (a : W6) : (afunP PR (mrE0 N cm O T) [6, 14] 10 67 165 m [c6.agg.enc a]).strict =
    .br (N m) (.leaf (c6.agg.enc zeroW)) (.br (decide (cm a m.1 < 0)) (.leaf (c6.agg.enc a)) (.leaf (c6.agg.enc (T m (T m a m.2.2) (O (bitW true)))))) := by kernel_rfl
end Go.Rq

/- A modulus: contracts of what reads it. -/
namespace Go.Rq
open Go Go.Proofs

/-! The difference of two numbers. -/
def wSubW (a b : W6) : W6 × Bool := ((subs a b).1, (subs a b).2 == true)
def wSubT : PureTab := [(172, fn3 kU kU kBit kUB sub64)]
theorem wSubT_ok : TabPOk PR wSubT := TabPOk.cons sub64_ok TabPOk.nil
theorem wsub_ctx : Ctx PR (envOf eqsT wSubT) [] (fun _ => none) 40 164 :=
  ctx_of (envOf_ok eqsT_ok wSubT_ok) mixed (fn := Try.f164) (by kernel_rfl) (by kernel_rfl) (by kernel_rfl) (tabOk_none _)
set_option maxRecDepth 100000 in
theorem wsub_run (a b : W6) : (afunR PR (envOf eqsT wSubT) [] (fun _ => none) 40 164 [c6.agg.enc a, c6.agg.enc b]).strict = .leaf (kWB.enc (wSubW a b)) := by kernel_rfl
theorem wsub_ok : CallOk PR 164 (fn2 c6.agg c6.agg kWB wSubW) :=
  .inl ⟨enters_of (fn := Try.f164) (by kernel_rfl) (by kernel_rfl) (by kernel_rfl), pure2 wsub_ctx (fun a b => leafVal (B := kWB) (y := wSubW a b) (wsub_run a b))⟩

def moLessW : Mo → W6 → W6 := moLess wSubW
theorem ml_gives (sb : W6 → W6 → W6 × Bool) (m : Mo) (x : W6) : GivesH (afun PR (mlE0 sb) [17] (fun _ => none) 10 118 (.ptr 0 0 :: [c6.agg.enc x]) (oneAH cFa 165 m) 1) (c6.agg.val (moLess sb m x)) :=
  givesP (ml_run sb m x) (holds_br (B := c6.agg) (holds_leaf (c6.agg.h1 _)) (holds_leaf (c6.agg.h1 _)))
theorem mlE0_ok : EnvOk PR (mlE0 wSubW) := envH_ok eqsT_ok (TabPOk.cons wsub_ok TabPOk.nil) TabHOk.nil
theorem ml_ent : Enters PR 118 := enters_of (fn := Try.f118) (by kernel_rfl) (by kernel_rfl) (by kernel_rfl)
theorem ml_ok : HeapOk PR 118 (rdp 165 cFa (mc1 c6.agg) c6.agg moLessW) :=
  rdp_ok (E := mlE0 wSubW) (sym := [17]) (lf := 10) mlE0_ok mixed (fn := Try.f118) (c := bodyOf PR 118) (by kernel_rfl) (by kernel_rfl) (by kernel_rfl) (fun m z => ml_gives wSubW m z)

def moMontW (m : Mo) (a b : W6) : W6 := moLessW m (moRaw mul64 add64 m a b).1
theorem mmE0_ok : EnvOk PR (mmE0 mul64 add64 moLessW) := envH_ok eqsT_ok (TabPOk.cons mul64_ok (TabPOk.cons add64_ok TabPOk.nil)) (TabHOk.cons ml_ent ml_ok TabHOk.nil)
theorem mm_ent : Enters PR 120 := enters_of (fn := Try.f120) (by kernel_rfl) (by kernel_rfl) (by kernel_rfl)
theorem mm_ok : HeapOk PR 120 (rdp 165 cFa (mc2 c6.agg c6.agg) c6.agg (fun m x => moMontW m x.1 x.2)) :=
  rdp_ok (E := mmE0 mul64 add64 moLessW) (sym := []) (lf := 20) mmE0_ok mixed (fn := Try.f120) (c := bodyOf PR 120) (by kernel_rfl) (by kernel_rfl) (by kernel_rfl) (fun m z => givesP (mm_run mul64 add64 moLessW m z.1 z.2) (holds_leaf (c6.agg.h1 _)))

def moRedG (N : Mo → Bool) (cm : W6 → W6 → Int) (O : BitVec 64 → W6) (T : Mo → W6 → W6 → W6) (m : Mo) (a : W6) : W6 := bif N m then zeroW else bif decide (cm a m.1 < 0) then a else T m (T m a m.2.2) (O (bitW true))
def moRedW : Mo → W6 → W6 := moRedG moNone cmW ofW moMontW
theorem mred_gives (N : Mo → Bool) (cm : W6 → W6 → Int) (O : BitVec 64 → W6) (T : Mo → W6 → W6 → W6) (m : Mo) (a : W6) : GivesH (afun PR (mrE0 N cm O T) [6, 14] (fun _ => none) 10 67 (.ptr 0 0 :: [c6.agg.enc a]) (oneAH cFa 165 m) 1) (c6.agg.val (moRedG N cm O T m a)) :=
  givesP (mred_run N cm O T m a) (holds_br (B := c6.agg) (holds_leaf (c6.agg.h1 _)) (holds_br (B := c6.agg) (holds_leaf (c6.agg.h1 _)) (holds_leaf (c6.agg.h1 _))))
theorem mrE0_ok : EnvOk PR (mrE0 moNone cmW ofW moMontW) := envH_ok eqsT_ok (TabPOk.cons cmp_ok (TabPOk.cons of_ok TabPOk.nil)) (TabHOk.cons mn_ent mn_ok (TabHOk.cons mm_ent mm_ok TabHOk.nil))
theorem mred_ent : Enters PR 67 := enters_of (fn := Try.f67) (by kernel_rfl) (by kernel_rfl) (by kernel_rfl)
theorem mred_ok : HeapOk PR 67 (rdp 165 cFa (mc1 c6.agg) c6.agg moRedW) :=
  rdp_ok (E := mrE0 moNone cmW ofW moMontW) (sym := [6, 14]) (lf := 10) mrE0_ok mixed (fn := Try.f67) (c := bodyOf PR 67) (by kernel_rfl) (by kernel_rfl) (by kernel_rfl) (fun m z => mred_gives moNone cmW ofW moMontW m z)
end Go.Rq

/- Arithmetic by the groups' order, as numbers. -/
namespace Go.Rq
open Go Go.Proofs

/-- The order's modulus. -/
def modO : Mo := (orderW, 18446744069414584319#64, ⟨0xc62c1807439b73af#64, 0x1b3e0d188cf06990#64, 0x73d13c71c7b5f418#64, 0x6e2a5bb9c8db33e9#64, 0#64, 0#64⟩)
theorem order_val : orderW.val = rN := by decide +kernel
theorem mo_sum {p0 t0 r0 c0 p1 t1 r1 c1 p2 t2 r2 c2 p3 t3 r3 c3 p4 t4 r4 c4 p5 t5 r5 c5 q k0 k6 s6 s1 k1 s2 k2 s3 k3 s4 k4 s5 k5 : Nat} (e0 : r0 + 18446744073709551616 * c0 = p0 + t0) (e1 : r1 + 18446744073709551616 * c1 = p1 + t1 + c0) (e2 : r2 + 18446744073709551616 * c2 = p2 + t2 + c1) (e3 : r3 + 18446744073709551616 * c3 = p3 + t3 + c2) (e4 : r4 + 18446744073709551616 * c4 = p4 + t4 + c3) (e5 : r5 + 18446744073709551616 * c5 = p5 + t5 + c4) (f0 : 18446744073709551616 * k0 = q * 18446744069414584321 + r0) (f1 : s1 + 18446744073709551616 * k1 = q * 6034159408538082302 + r1 + k0) (f2 : s2 + 18446744073709551616 * k2 = q * 3691218898639771653 + r2 + k1) (f3 : s3 + 18446744073709551616 * k3 = q * 8353516859464449352 + r3 + k2) (f4 : s4 + 18446744073709551616 * k4 = q * 0 + r4 + k3) (f5 : s5 + 18446744073709551616 * k5 = q * 0 + r5 + k4) (f6 : s6 + 18446744073709551616 * k6 = c5 + k5) :
    18446744073709551616 * (s1 + 18446744073709551616 * s2 + 340282366920938463463374607431768211456 * s3 + 6277101735386680763835789423207666416102355444464034512896 * s4 + 115792089237316195423570985008687907853269984665640564039457584007913129639936 * s5 + 2135987035920910082395021706169552114602704522356652769947041607822219725780640550022962086936576 * s6) + 726838724295606890549323807888004534353641360687318060281490199180639288113397923326191050713763565560762521606266177933534601628614656 * k6 = (p0 + 18446744073709551616 * p1 + 340282366920938463463374607431768211456 * p2 + 6277101735386680763835789423207666416102355444464034512896 * p3 + 115792089237316195423570985008687907853269984665640564039457584007913129639936 * p4 + 2135987035920910082395021706169552114602704522356652769947041607822219725780640550022962086936576 * p5) + (t0 + 18446744073709551616 * t1 + 340282366920938463463374607431768211456 * t2 + 6277101735386680763835789423207666416102355444464034512896 * t3 + 115792089237316195423570985008687907853269984665640564039457584007913129639936 * t4 + 2135987035920910082395021706169552114602704522356652769947041607822219725780640550022962086936576 * t5) + q * 52435875175126190479447740508185965837690552500527637822603658699938581184513 := by
  omega

theorem mo_inv (r : BitVec 64) : (r * 18446744069414584319#64 * orderW.w0).toNat = (r.toNat * 18446744073709551615) % 18446744073709551616 := by
  rw [BitVec.mul_assoc, BitVec.toNat_mul]
  rfl

theorem mo_low (r : BitVec 64) : (mul64 (r * 18446744069414584319#64) orderW.w0).2 + r + bitW false = 0#64 := by
  apply BitVec.eq_of_toNat_eq
  show (r * 18446744069414584319#64 * orderW.w0 + r + bitW false).toNat = 0
  have hr := r.isLt
  rw [BitVec.toNat_add, BitVec.toNat_add, mo_inv, bitW_nat]
  show ((r.toNat * 18446744073709551615 % 18446744073709551616 + r.toNat) % 18446744073709551616 + 0) % 18446744073709551616 = 0
  omega

theorem o_words : orderW.w0.toNat = 18446744069414584321 ∧ orderW.w1.toNat = 6034159408538082302 ∧ orderW.w2.toNat = 3691218898639771653 ∧ orderW.w3.toNat = 8353516859464449352 ∧ orderW.w4.toNat = 0 ∧ orderW.w5.toNat = 0 := by decide +kernel

theorem mo_end {xA A T q v k : Nat} (ha : A < 52435875175126190479447740508185965837690552500527637822603658699938581184513) (ht : T < A + 52435875175126190479447740508185965837690552500527637822603658699938581184513) (hx : xA ≤ 18446744073709551615 * A) (hq : q < 18446744073709551616) (hs : 18446744073709551616 * v + 726838724295606890549323807888004534353641360687318060281490199180639288113397923326191050713763565560762521606266177933534601628614656 * k = xA + T + q * 52435875175126190479447740508185965837690552500527637822603658699938581184513) : k = 0 ∧ v < A + 52435875175126190479447740508185965837690552500527637822603658699938581184513 ∧ 18446744073709551616 * v = xA + T + q * 52435875175126190479447740508185965837690552500527637822603658699938581184513 := by
  have hk : k = 0 := by omega
  subst hk
  omega

theorem mo_carry {q r m1 m2 : Nat} {c : Nat} (hc : c ≤ 1) (hq : q < 18446744073709551616) (hm : m2 + 18446744073709551616 * m1 = q * 18446744069414584321) (hs : 18446744073709551616 * c = m2 + r) : m1 + c < 18446744073709551616 ∧ 18446744073709551616 * (m1 + c) = q * 18446744069414584321 + r := by
  omega

theorem moRound_eq {a : W6} {x : BitVec 64} {t : W8} {r0 r1 r2 r3 r4 r5 s1 s2 s3 s4 s5 m : BitVec 64 × BitVec 64} {s0 s6 u6 : BitVec 64 × Bool} {q k0 : BitVec 64}
    (hr0 : mac x a.w0 t.1.w0 (bitW false) = r0) (hr1 : mac x a.w1 t.1.w1 r0.2 = r1) (hr2 : mac x a.w2 t.1.w2 r1.2 = r2) (hr3 : mac x a.w3 t.1.w3 r2.2 = r3) (hr4 : mac x a.w4 t.1.w4 r3.2 = r4) (hr5 : mac x a.w5 t.1.w5 r4.2 = r5)
    (hu : add64 t.2.1 r5.2 false = u6) (hq : r0.1 * 18446744069414584319#64 = q) (hm : mul64 q orderW.w0 = m) (hs0 : add64 m.2 r0.1 false = s0) (hk : m.1 + bitW s0.2 = k0)
    (hs1 : mac q orderW.w1 r1.1 k0 = s1) (hs2 : mac q orderW.w2 r2.1 s1.2 = s2) (hs3 : mac q orderW.w3 r3.1 s2.2 = s3) (hs4 : mac q orderW.w4 r4.1 s3.2 = s4) (hs5 : mac q orderW.w5 r5.1 s4.2 = s5) (hs6 : add64 u6.1 s5.2 false = s6) :
    moRound mul64 add64 modO a x t = (⟨s1.1, s2.1, s3.1, s4.1, s5.1, s6.1⟩, bitW u6.2 + bitW s6.2, bitW u6.2) := by
  subst hr0 hr1 hr2 hr3 hr4 hr5 hu hq hm hs0 hk hs1 hs2 hs3 hs4 hs5 hs6
  rfl
theorem add_zero64 (r : BitVec 64) : add64 0#64 r false = (r, false) := by
  have h : add64 0#64 r false = (0#64 + r + bitW false, decide (18446744073709551616 ≤ (0#64).toNat + r.toNat + b2n false)) := rfl
  rw [h]
  have h1 : 0#64 + r + bitW false = r := by rw [BitVec.zero_add, show bitW false = 0#64 from rfl, BitVec.add_zero]
  have h2 : decide (18446744073709551616 ≤ (0#64).toNat + r.toNat + b2n false) = false := by
    apply decide_eq_false
    have := r.isLt
    rw [show (0#64).toNat = 0 from rfl, show b2n false = 0 from rfl]
    omega
  rw [h1, h2]

theorem mo_round (a : W6) (x : BitVec 64) (t : W8) (hw : t.2.1 = 0#64) (ha : a.val < rN) (ht : t.1.val < a.val + rN) :
    ∃ q : Nat, (moRound mul64 add64 modO a x t).2.1 = 0#64 ∧ (moRound mul64 add64 modO a x t).1.val < a.val + rN ∧ 18446744073709551616 * (moRound mul64 add64 modO a x t).1.val = x.toNat * a.val + t.1.val + q * rN := by
  obtain ⟨g0, g1, g2, g3, g4, g5⟩ := o_words
  obtain ⟨r0, hr0⟩ : ∃ r, mac x a.w0 t.1.w0 (bitW false) = r := ⟨_, rfl⟩
  obtain ⟨r1, hr1⟩ : ∃ r, mac x a.w1 t.1.w1 r0.2 = r := ⟨_, rfl⟩
  obtain ⟨r2, hr2⟩ : ∃ r, mac x a.w2 t.1.w2 r1.2 = r := ⟨_, rfl⟩
  obtain ⟨r3, hr3⟩ : ∃ r, mac x a.w3 t.1.w3 r2.2 = r := ⟨_, rfl⟩
  obtain ⟨r4, hr4⟩ : ∃ r, mac x a.w4 t.1.w4 r3.2 = r := ⟨_, rfl⟩
  obtain ⟨r5, hr5⟩ : ∃ r, mac x a.w5 t.1.w5 r4.2 = r := ⟨_, rfl⟩
  obtain ⟨q, hq⟩ : ∃ q, r0.1 * 18446744069414584319#64 = q := ⟨_, rfl⟩
  obtain ⟨m, hm⟩ : ∃ m, mul64 q orderW.w0 = m := ⟨_, rfl⟩
  obtain ⟨s0, hs0⟩ : ∃ s, add64 m.2 r0.1 false = s := ⟨_, rfl⟩
  obtain ⟨k0, hk⟩ : ∃ k, m.1 + bitW s0.2 = k := ⟨_, rfl⟩
  obtain ⟨s1, hs1⟩ : ∃ s, mac q orderW.w1 r1.1 k0 = s := ⟨_, rfl⟩
  obtain ⟨s2, hs2⟩ : ∃ s, mac q orderW.w2 r2.1 s1.2 = s := ⟨_, rfl⟩
  obtain ⟨s3, hs3⟩ : ∃ s, mac q orderW.w3 r3.1 s2.2 = s := ⟨_, rfl⟩
  obtain ⟨s4, hs4⟩ : ∃ s, mac q orderW.w4 r4.1 s3.2 = s := ⟨_, rfl⟩
  obtain ⟨s5, hs5⟩ : ∃ s, mac q orderW.w5 r5.1 s4.2 = s := ⟨_, rfl⟩
  have hu : add64 t.2.1 r5.2 false = (r5.2, false) := by rw [hw]; exact add_zero64 _
  obtain ⟨s6, hs6⟩ : ∃ s, add64 r5.2 s5.2 false = s := ⟨_, rfl⟩
  have hres := moRound_eq hr0 hr1 hr2 hr3 hr4 hr5 hu hq hm hs0 hk hs1 hs2 hs3 hs4 hs5 hs6
  have e0 := mac_nat x a.w0 t.1.w0 (bitW false)
  rw [hr0, show (bitW false).toNat = 0 from rfl, Nat.add_zero] at e0
  have e1 := mac_nat x a.w1 t.1.w1 r0.2
  rw [hr1] at e1
  have e2 := mac_nat x a.w2 t.1.w2 r1.2
  rw [hr2] at e2
  have e3 := mac_nat x a.w3 t.1.w3 r2.2
  rw [hr3] at e3
  have e4 := mac_nat x a.w4 t.1.w4 r3.2
  rw [hr4] at e4
  have e5 := mac_nat x a.w5 t.1.w5 r4.2
  rw [hr5] at e5
  have lz := mo_low r0.1
  rw [hq, hm] at lz
  have m0 := mul64_nat q orderW.w0
  rw [hm, g0] at m0
  have z0 := add64_nat m.2 r0.1 false
  rw [show (add64 m.2 r0.1 false).1 = 0#64 from lz, hs0, show b2n false = 0 from rfl, show (0#64).toNat = 0 from rfl, Nat.add_zero, Nat.zero_add] at z0
  obtain ⟨c1, c2⟩ := mo_carry (b2n_le s0.2) q.isLt m0 z0
  have hk0 : k0.toNat = m.1.toNat + b2n s0.2 := by
    rw [← hk, BitVec.toNat_add, bitW_nat]
    exact Nat.mod_eq_of_lt c1
  rw [← hk0] at c2
  have f1 := mac_nat q orderW.w1 r1.1 k0
  rw [hs1, g1] at f1
  have f2 := mac_nat q orderW.w2 r2.1 s1.2
  rw [hs2, g2] at f2
  have f3 := mac_nat q orderW.w3 r3.1 s2.2
  rw [hs3, g3] at f3
  have f4 := mac_nat q orderW.w4 r4.1 s3.2
  rw [hs4, g4] at f4
  have f5 := mac_nat q orderW.w5 r5.1 s4.2
  rw [hs5, g5] at f5
  have f6 := add64_nat r5.2 s5.2 false
  rw [hs6, show b2n false = 0 from rfl, Nat.add_zero] at f6
  have sum := mo_sum e0 e1 e2 e3 e4 e5 c2 f1 f2 f3 f4 f5 f6
  have xA : x.toNat * a.val ≤ 18446744073709551615 * a.val := Nat.mul_le_mul_right _ (Nat.le_of_lt_succ x.isLt)
  rw [← val_mul x.toNat a] at sum
  obtain ⟨n1, n2, n3⟩ := mo_end (v := (W6.mk s1.1 s2.1 s3.1 s4.1 s5.1 s6.1).val) (T := t.1.val) ha ht xA q.isLt sum
  refine ⟨q.toNat, ?_, ?_, ?_⟩
  · rw [hres]
    show bitW false + bitW s6.2 = 0#64
    cases hh : s6.2 with
    | false => rfl
    | true => rw [hh] at n1; cases n1
  · rw [hres]; exact n2
  · rw [hres]; exact n3


theorem mo_raw_sum {x1 q1 v1 x2 q2 v2 x3 q3 v3 x4 q4 v4 x5 q5 v5 x6 q6 v6 : Nat} (h1 : 18446744073709551616 * v1 = x1 + q1 * 52435875175126190479447740508185965837690552500527637822603658699938581184513) (h2 : 18446744073709551616 * v2 = x2 + v1 + q2 * 52435875175126190479447740508185965837690552500527637822603658699938581184513) (h3 : 18446744073709551616 * v3 = x3 + v2 + q3 * 52435875175126190479447740508185965837690552500527637822603658699938581184513) (h4 : 18446744073709551616 * v4 = x4 + v3 + q4 * 52435875175126190479447740508185965837690552500527637822603658699938581184513) (h5 : 18446744073709551616 * v5 = x5 + v4 + q5 * 52435875175126190479447740508185965837690552500527637822603658699938581184513) (h6 : 18446744073709551616 * v6 = x6 + v5 + q6 * 52435875175126190479447740508185965837690552500527637822603658699938581184513) :
    39402006196394479212279040100143613805079739270465446667948293404245721771497210611414266254884915640806627990306816 * v6 = (x1 + 18446744073709551616 * x2 + 340282366920938463463374607431768211456 * x3 + 6277101735386680763835789423207666416102355444464034512896 * x4 + 115792089237316195423570985008687907853269984665640564039457584007913129639936 * x5 + 2135987035920910082395021706169552114602704522356652769947041607822219725780640550022962086936576 * x6) + (q1 + 18446744073709551616 * q2 + 340282366920938463463374607431768211456 * q3 + 6277101735386680763835789423207666416102355444464034512896 * q4 + 115792089237316195423570985008687907853269984665640564039457584007913129639936 * q5 + 2135987035920910082395021706169552114602704522356652769947041607822219725780640550022962086936576 * q6) * 52435875175126190479447740508185965837690552500527637822603658699938581184513 := by
  omega

def rinvR : Nat := 3355780196830291892987310667864784896352702591869607001429614921875678373541
theorem rinvR_ok : 39402006196394479212279040100143613805079739270465446667948293404245721771497210611414266254884915640806627990306816 * rinvR % rN = 1 := by decide +kernel

theorem moRaw_nat (a b : W6) (hb : b.val < rN) : (moRaw mul64 add64 modO a b).1.val < b.val + rN ∧ ∃ Q, 39402006196394479212279040100143613805079739270465446667948293404245721771497210611414266254884915640806627990306816 * (moRaw mul64 add64 modO a b).1.val = a.val * b.val + Q * rN := by
  have zv : zero8.1.val = 0 := rfl
  have hp : rN = 52435875175126190479447740508185965837690552500527637822603658699938581184513 := rfl
  unfold moRaw
  obtain ⟨q1, w1, l1, h1⟩ := mo_round b a.w0 zero8 rfl hb (by rw [zv]; exact Nat.lt_of_lt_of_le (by decide +kernel : 0 < rN) (Nat.le_add_left _ _))
  generalize moRound mul64 add64 modO b a.w0 zero8 = t1 at w1 l1 h1 ⊢
  obtain ⟨q2, w2, l2, h2⟩ := mo_round b a.w1 t1 w1 hb l1
  generalize moRound mul64 add64 modO b a.w1 t1 = t2 at w2 l2 h2 ⊢
  obtain ⟨q3, w3, l3, h3⟩ := mo_round b a.w2 t2 w2 hb l2
  generalize moRound mul64 add64 modO b a.w2 t2 = t3 at w3 l3 h3 ⊢
  obtain ⟨q4, w4, l4, h4⟩ := mo_round b a.w3 t3 w3 hb l3
  generalize moRound mul64 add64 modO b a.w3 t3 = t4 at w4 l4 h4 ⊢
  obtain ⟨q5, w5, l5, h5⟩ := mo_round b a.w4 t4 w4 hb l4
  generalize moRound mul64 add64 modO b a.w4 t4 = t5 at w5 l5 h5 ⊢
  obtain ⟨q6, w6, l6, h6⟩ := mo_round b a.w5 t5 w5 hb l5
  generalize moRound mul64 add64 modO b a.w5 t5 = t6 at w6 l6 h6 ⊢
  refine ⟨l6, q1 + 18446744073709551616 * q2 + 340282366920938463463374607431768211456 * q3 + 6277101735386680763835789423207666416102355444464034512896 * q4 + 115792089237316195423570985008687907853269984665640564039457584007913129639936 * q5 + 2135987035920910082395021706169552114602704522356652769947041607822219725780640550022962086936576 * q6, ?_⟩
  rw [zv, Nat.add_zero] at h1
  rw [hp] at h1 h2 h3 h4 h5 h6 ⊢
  have hb : a.val * b.val = (a.w0.toNat * b.val) + 18446744073709551616 * (a.w1.toNat * b.val) + 340282366920938463463374607431768211456 * (a.w2.toNat * b.val) + 6277101735386680763835789423207666416102355444464034512896 * (a.w3.toNat * b.val) + 115792089237316195423570985008687907853269984665640564039457584007913129639936 * (a.w4.toNat * b.val) + 2135987035920910082395021706169552114602704522356652769947041607822219725780640550022962086936576 * (a.w5.toNat * b.val) := by
    rw [Nat.mul_comm, val_mul]
    simp only [Nat.mul_comm b.val]
  rw [hb]
  exact mo_raw_sum h1 h2 h3 h4 h5 h6

/-- The order taken away, if it goes. -/
theorem moLess_nat (x : W6) (h : x.val < 2 * rN) : (moLessW modO x).val = x.val % rN := by
  have h1 := subs_nat x orderW
  rw [order_val] at h1
  have hl := (subs x orderW).1.val_lt
  have e : moLessW modO x = bif !((subs x orderW).2 == true) then (subs x orderW).1 else x := rfl
  rw [e]
  have hp : rN = 52435875175126190479447740508185965837690552500527637822603658699938581184513 := rfl
  rw [hp] at h h1 ⊢
  cases hb : (subs x orderW).2 with
  | true =>
    rw [hb, show b2n true = 1 from rfl] at h1
    show x.val = _
    rw [Nat.mod_eq_of_lt (by omega)]
  | false =>
    rw [hb, show b2n false = 0 from rfl] at h1
    show (subs x orderW).1.val = _
    rw [Nat.mod_eq_sub_mod (by omega), Nat.mod_eq_of_lt (by omega)]
    omega

theorem moMont_nat (a b : W6) (hb : b.val < rN) : (moMontW modO a b).val = a.val * b.val * rinvR % rN := by
  obtain ⟨h1, Q, h2⟩ := moRaw_nat a b hb
  have e : moMontW modO a b = moLessW modO (moRaw mul64 add64 modO a b).1 := rfl
  rw [e, moLess_nat _ (Nat.lt_of_lt_of_le h1 (by rw [Nat.two_mul]; exact Nat.add_le_add_right (Nat.le_of_lt hb) _))]
  exact wide_mul rinvR_ok h2

def wideR : Nat := 49829253988540319354550742249276084460127446355315915089527227471280320770991
theorem wideR_val : modO.2.2.val = wideR := by decide +kernel
theorem wideR_twice : wideR * rinvR * rinvR % rN = 1 := by decide +kernel
theorem mul_wide {a r w p : Nat} (h : w * r * r % p = 1) : (a * w * r % p) * 1 * r % p = a % p := by
  rw [Nat.mul_one, Nat.mod_mul_mod, show a * w * r * r = a * (w * r * r) by simp only [Nat.mul_assoc], Nat.mul_mod, h, Nat.mul_one, Nat.mod_mod]

/-- What is left of a number. -/
theorem moRed_nat (a : W6) : (moRedW modO a).val = a.val % rN := by
  have e : moRedW modO a = bif moNone modO then zeroW else bif decide (cmW a orderW < 0) then a else moMontW modO (moMontW modO a modO.2.2) (ofW (bitW true)) := rfl
  rw [e, show moNone modO = false by decide +kernel, cond_false]
  have hc := cmW_nat a orderW
  rw [order_val] at hc
  by_cases h : a.val < rN
  · rw [decide_eq_true (hc.2 h), cond_true, Nat.mod_eq_of_lt h]
  · rw [decide_eq_false (fun h' => h (hc.1 h')), cond_false]
    have h1 : (ofW (bitW true)).val = 1 := by decide +kernel
    rw [moMont_nat _ _ (by rw [h1]; decide +kernel), moMont_nat a modO.2.2 (by rw [wideR_val]; decide +kernel), h1, wideR_val]
    exact mul_wide wideR_twice
end Go.Rq

/- The modulus of the order is made. -/
namespace Go.Rq
open Go Go.Proofs

/-! Twice a number. -/
def shl1 (a : W6) : W6 := ⟨a.w0 <<< 1, a.w1 <<< 1 ||| a.w0 >>> 63, a.w2 <<< 1 ||| a.w1 >>> 63, a.w3 <<< 1 ||| a.w2 >>> 63, a.w4 <<< 1 ||| a.w3 >>> 63, a.w5 <<< 1 ||| a.w4 >>> 63⟩
set_option maxRecDepth 100000 in
theorem shl1_run (a : W6) : (afunR PR (envOf eqsT []) [] (fun _ => none) 40 60 [c6.agg.enc a, (kInt .i64).enc 1]).strict = .leaf (c6.agg.enc (shl1 a)) := by kernel_rfl
theorem shl1_ok : CallOk PR 60 (fn2 c6.agg (kAt .i64 1) c6.agg (fun a _ => shl1 a)) :=
  .inl ⟨enters_of (fn := Try.f60) (by kernel_rfl) (by kernel_rfl) (by kernel_rfl), pure2 (C := kAt .i64 1) shift_ctx (fun a _ => leafVal (B := c6.agg) (y := shl1 a) (shl1_run a))⟩

/-! The walk. -/
structure NW where
  sh : W6 → W6
  ls : Mo → W6 → W6
def nwM : Mo := (orderW, 18446744069414584319#64, zeroW)
def nwT (t : NW) : PureTab := [(60, fn2 c6.agg (kAt .i64 1) c6.agg (fun a _ => t.sh a)), (116, fn1 c6.agg (kInt .i64) lenI), (117, fn2 c6.agg c6.agg (kInt .i64) cmW), (63, fn1 kU c6.agg ofW)]
noncomputable def nwE (t : NW) : Env := envH eqsT (nwT t) [(118, rdp 165 cFa (mc1 c6.agg) c6.agg t.ls)]
def nwK : Keep := ⟨[4, 6, 43], [20, 100], 103⟩
@[irreducible] noncomputable def nwX (t : NW) : XS := entryB PR (nwE t) [44] (fun _ => none) 10 66 [c6.agg.enc orderW] [] 0 2 nwK
@[irreducible] noncomputable def nwI (t : NW) (d : Int × W6) : XS := ((nwX t).setT 43 (.v (.int .i64 d.1))).setB 100 (c6.enc d.2)
@[irreducible] noncomputable def nwC : Code := roundOf PR 66 2
def nwR (t : NW) (I : Int × W6 → XS) (z : Int) (x : W6) : Tree (AExit × XS) :=
  .br (decide (z < 768)) (.leaf (.normal, I (IntKind.i64.wrap (z + 1), t.ls nwM (t.sh x)))) (.leaf (.exit 2, I (z, x)))
set_option maxRecDepth 1000000 in
theorem nw_round (t : NW) (z : Int) (x : W6) : (roundT PR (nwE t) [44] (fun _ => none) 10 nwK nwK nwK nwC (nwI t (z, x))).strict = nwR t (nwI t) z x := by kernel_rfl
def nwG (t : NW) : Nat → W6 → W6
  | 0, x => x
  | k + 1, x => nwG t k (t.ls nwM (t.sh x))

theorem nw_law (t : NW) (rt : XS → Tree (AExit × XS)) (I : Int × W6 → XS) (hr : ∀ (z : Int) (x : W6), (rt (I (z, x))).strict = nwR t I z x) {R : W6} {Q : AExit → XS → Prop} (hK : Q .normal (I (768, R))) :
    ∀ d : Int × W6, (0 ≤ d.1 ∧ d.1 ≤ 768 ∧ nwG t (768 - d.1).toNat d.2 = R) → (rt (I d)).holds (fun r => match r.1 with
      | .normal => ∃ j : Int × W6, (0 ≤ j.1 ∧ j.1 ≤ 768 ∧ nwG t (768 - j.1).toNat j.2 = R) ∧ (768 - j.1).toNat < (768 - d.1).toNat ∧ r.2 = I j
      | .exit q => if q = 2 then Q .normal r.2 else Q (.exit q) r.2
      | .ret => Q .ret r.2) := by
  rintro ⟨z, x⟩ ⟨h0, h1, h2⟩
  simp only at h0 h1
  apply Tree.holds_strict
  rw [hr]
  unfold nwR
  refine ⟨fun hz => ?_, fun hz => ?_⟩
  · have hz : z < 768 := by simpa using hz
    have hw : IntKind.i64.wrap (z + 1) = z + 1 := wrap_id (by omega) (by omega)
    have hk : (768 - z).toNat = (768 - (z + 1)).toNat + 1 := by omega
    simp only at h2
    rw [hk] at h2
    simp only [nwG] at h2
    refine ⟨⟨z + 1, t.ls nwM (t.sh x)⟩, ⟨by simp only; omega, by simp only; omega, h2⟩, ?_, ?_⟩
    · show (768 - (z + 1)).toNat < (768 - z).toNat
      omega
    · rw [hw]
  · have hz : z = 768 := by
      have : ¬ z < 768 := by simpa using hz
      omega
    subst hz
    have h2 : x = R := h2
    show (if (2 : Nat) = 2 then Q .normal (I (768, x)) else Q (.exit 2) (I (768, x)))
    rw [if_pos rfl, h2]
    exact hK

@[irreducible] noncomputable def nwB (t : NW) (r : W6) : BEnt := ⟨nwK.tm, nwK.ids, nwK.n, nwX t, .leaf (.normal, nwI t (768, r))⟩
theorem nwB_n (t : NW) (r : W6) : (nwB t r).n = 103 ∧ (nwB t r).pre = nwX t ∧ (nwB t r).post = .leaf (.normal, nwI t (768, r)) := by
  unfold nwB
  exact ⟨rfl, rfl, rfl⟩
def nwOut (r : W6) : Mo := (orderW, 18446744069414584319#64, r)
set_option maxRecDepth 1000000 in
theorem nw_run (t : NW) (r : W6) : (afunQ PR (nwE t) [44] (tabOf [(2, nwB t r)]) 10 66 165 [c6.agg.enc orderW]).strict =
    .same (nwX t) (nwX t) (.leaf (.tup [.agg (cFa.enc (nwOut r)), .v (.int .i64 0)])) := by kernel_rfl
set_option maxRecDepth 1000000 in
theorem nw_head (t : NW) : nwX t = nwI t (0, ofW (bitW true)) := by kernel_rfl
theorem nw_blk : blkAll 2 (bodyOf PR 66) = [.loop nwC] := by kernel_rfl
end Go.Rq
