/- The laws CurveGroup1 and CurveGroup2 hold of what the functions come to. -/
import Derived.Test.YtdbcjiggimppdaaRq15
import Derived.Test.YtdbcjiggimppdaaRq16
import Derived.Test.YtdbcjiggimppdaaRq09
namespace Go.Rq
open Go Go.Proofs
open Lean.Grind (CommRing)

/-! From the field's points to the program's. -/
section
variable {K V : Type} [CommRing K] {iv : K → K} {e : K → K → Bool} {F : Fd K iv e} {b : K}

theorem pt_on (F : Fd K iv e) {f : Fl K} {A : Ap K} (h : Pt f.b A) : onE (foK iv) e f A = true := by
  unfold onE
  cases h with
  | zero =>
    show (bif e (0 : K) 0 then e (0 : K) 0 else false) = true
    rw [F.refl]; rfl
  | of h =>
    rename_i x y
    show e (y * y) (x * x * x + f.b) = true
    exact F.eq.2 h
theorem on_pt (F : Fd K iv e) {f : Fl K} {A : Ap K} (h : onE (foK iv) e f A = true) : Pt f.b A := by
  cases hz : A.zero with
  | true => rw [on_none F h hz]; exact .zero
  | false =>
    unfold onE at h
    rw [hz, cond_false] at h
    have h := F.eq.1 h
    obtain ⟨x, y, z⟩ := A
    simp only at hz
    subst hz
    exact .of h

/-- What the program answers of points that stand for the field's. -/
structure Br (F : Fd K iv e) (b : K) (R : Ap K → Ap V → Prop) (eqP : Ap V → Ap V → Bool) (zp : Ap V) (t : GP V) : Prop where
  pt : ∀ {p : Ap V}, t.ck p = true → ∃ A, R A p ∧ Pt b A
  ck : ∀ {A : Ap K} {p : Ap V}, R A p → Pt b A → t.ck p = true
  ad : ∀ {A B : Ap K} {p q : Ap V}, R A p → R B q → Pt b A → Pt b B → (t.ad p q).2 = 0 ∧ R (sumA iv e A B) (t.ad p q).1
  ne : ∀ {A : Ap K} {p : Ap V}, R A p → Pt b A → (t.ne p).2 = 0 ∧ R (negK A) (t.ne p).1
  zp : R ⟨0, 0, true⟩ zp
  inj : ∀ {A : Ap K} {p q : Ap V}, R A p → R A q → p = q
  refl : ∀ p, eqP p p = true

theorem Br.gp {R : Ap K → Ap V → Prop} {eqP : Ap V → Ap V → Bool} {zp : Ap V} {t : GP V} (h : Br F b R eqP zp t) (C : Cv F b) : GPOk eqP zp t where
  refl := h.refl
  ad p q hp hq := by
    obtain ⟨A, a1, a2⟩ := h.pt hp
    obtain ⟨B, b1, b2⟩ := h.pt hq
    obtain ⟨k1, k2⟩ := h.ad a1 b1 a2 b2
    exact ⟨k1, h.ck k2 (sum_pt F a2 b2)⟩
  ne p hp := by
    obtain ⟨A, a1, a2⟩ := h.pt hp
    obtain ⟨k1, k2⟩ := h.ne a1 a2
    exact ⟨k1, h.ck k2 (neg_pt a2)⟩
  zc := h.ck h.zp .zero
  comm p q hp hq := by
    obtain ⟨A, a1, a2⟩ := h.pt hp
    obtain ⟨B, b1, b2⟩ := h.pt hq
    have k := (h.ad b1 a1 b2 a2).2
    rw [sum_comm F b2 a2] at k
    exact h.inj (h.ad a1 b1 a2 b2).2 k
  assoc p q r hp hq hr := by
    obtain ⟨A, a1, a2⟩ := h.pt hp
    obtain ⟨B, b1, b2⟩ := h.pt hq
    obtain ⟨D, d1, d2⟩ := h.pt hr
    have k1 := (h.ad (h.ad a1 b1 a2 b2).2 d1 (sum_pt F a2 b2) d2).2
    have k2 := (h.ad a1 (h.ad b1 d1 b2 d2).2 a2 (sum_pt F b2 d2)).2
    rw [sum_assoc F C a2 b2 d2] at k1
    exact h.inj k1 k2
  neg p hp := by
    obtain ⟨A, a1, a2⟩ := h.pt hp
    have k := (h.ad a1 (h.ne a1 a2).2 a2 (neg_pt a2)).2
    rw [sum_neg F a2] at k
    exact h.inj k h.zp
  zero p hp := by
    obtain ⟨A, a1, a2⟩ := h.pt hp
    have k := (h.ad a1 h.zp a2 .zero).2
    rw [a2.add0] at k
    exact h.inj k a1
end

def gpO1 : GP W6 := ⟨checkP1, addP1, negP1⟩
def gpO2 : GP D6 := ⟨checkP2, addP2, negP2⟩

section
variable {K : Type} [CommRing K] {iv : K → K} {e : K → K → Bool} {M P : K → W6 → Prop} {f : Fl K}

theorem Lk.ckPt (L : Lk iv e M P f) (hlt : ∀ {x : K} {w : W6}, P x w → w.val < pN) {A : Ap K} {p : Ap W6} (h : RA P A p) (hA : Pt f.b A) : checkP1 p = true := by
  have hb : belowP1 p = true := by
    unfold belowP1
    rw [belowI_nat, belowI_nat, decide_eq_true (hlt h.x), decide_eq_true (hlt h.y)]
    rfl
  unfold checkP1
  rw [hb, cond_true, ← on_rel L.rel L.fl (L.inn h)]
  exact pt_on L.F hA

theorem Lk.br (L : Lk iv e M P f) (hlt : ∀ {x : K} {w : W6}, P x w → w.val < pN) : Br L.F f.b (RA P) eqP13 zeroP1 gpO1 where
  pt := fun {p} h => by
    have h' : rcheck1 p = true := by rw [← L.check]; exact h
    obtain ⟨-, A, hP, hon⟩ := L.point h'
    exact ⟨A, hP, on_pt L.F hon⟩
  ck h hA := L.ckPt hlt h hA
  ad := fun {A B p q} ha hb a2 b2 => by
    have c1 : rcheck1 p = true := by rw [← L.check]; exact L.ckPt hlt ha a2
    have c2 : rcheck1 q = true := by rw [← L.check]; exact L.ckPt hlt hb b2
    have h4 : RA P (sumA iv e A B) (radd1 p q) := radd_rel L.ref ha hb
    have h5 : addP1 p q = (radd1 p q, 0) := by rw [L.add, c1, c2]; rfl
    show (addP1 p q).2 = 0 ∧ RA P (sumA iv e A B) (addP1 p q).1
    rw [h5]
    exact ⟨rfl, h4⟩
  ne := fun {A p} ha a2 => by
    have c1 : rcheck1 p = true := by rw [← L.check]; exact L.ckPt hlt ha a2
    have h4 := rneg_rel L.ref ha
    have h5 : negP1 p = (rneg1G roO p, 0) := by rw [L.neg, c1]; rfl
    show (negP1 p).2 = 0 ∧ RA P (negK A) (negP1 p).1
    rw [h5]
    exact ⟨rfl, h4⟩
  zp := ⟨L.ref.zero, L.ref.zero, rfl⟩
  inj h k := ra_inj L.ref h k
  refl p := (eqP13_iff p p).2 rfl
end

section
variable {K : Type} [CommRing K] {iv : K → K} {e : K → K → Bool} {M P : K → D6 → Prop} {f : Fl K}

theorem LkD.ckPt (L : LkD iv e M P f) (hlt : ∀ {x : K} {w : D6}, P x w → w.a.val < pN ∧ w.b.val < pN) {A : Ap K} {p : Ap D6} (h : RA P A p) (hA : Pt f.b A) : checkP2 p = true := by
  have hb : belowP2 p = true := by
    unfold belowP2
    obtain ⟨h1, h2⟩ := hlt h.x
    obtain ⟨h3, h4⟩ := hlt h.y
    rw [belowI_nat, belowI_nat, belowI_nat, belowI_nat, decide_eq_true h1, decide_eq_true h2, decide_eq_true h3, decide_eq_true h4]
    rfl
  unfold checkP2
  rw [hb, cond_true, ← on_rel L.rel L.fl (L.inn h)]
  exact pt_on L.F hA

theorem LkD.br (L : LkD iv e M P f) (hlt : ∀ {x : K} {w : D6}, P x w → w.a.val < pN ∧ w.b.val < pN) : Br L.F f.b (RA P) eqP25 zeroP2 gpO2 where
  pt := fun {p} h => by
    have h' : rcheck2 p = true := by rw [← L.check]; exact h
    obtain ⟨-, A, hP, hon⟩ := L.point h'
    exact ⟨A, hP, on_pt L.F hon⟩
  ck h hA := L.ckPt hlt h hA
  ad := fun {A B p q} ha hb a2 b2 => by
    have c1 : rcheck2 p = true := by rw [← L.check]; exact L.ckPt hlt ha a2
    have c2 : rcheck2 q = true := by rw [← L.check]; exact L.ckPt hlt hb b2
    have h4 : RA P (sumA iv e A B) (rad2 p q) := rad2_rel L.ref ha hb
    have h5 : addP2 p q = (rad2 p q, 0) := by rw [L.add, c1, c2]; rfl
    show (addP2 p q).2 = 0 ∧ RA P (sumA iv e A B) (addP2 p q).1
    rw [h5]
    exact ⟨rfl, h4⟩
  ne := fun {A p} ha a2 => by
    have c1 : rcheck2 p = true := by rw [← L.check]; exact L.ckPt hlt ha a2
    have h4 := rneg2_rel L.ref ha
    have h5 : negP2 p = (rneg2P doO p, 0) := by rw [L.neg, c1]; rfl
    show (negP2 p).2 = 0 ∧ RA P (negK A) (negP2 p).1
    rw [h5]
    exact ⟨rfl, h4⟩
  zp := ⟨L.ref.zero, L.ref.zero, rfl⟩
  inj h k := ra2_inj L.ref h k
  refl p := (eqP25_iff p p).2 rfl
end

theorem four_rv {b : F1} (hb : RP b (ofW 4#64)) : RV (p := pN) b 4 := ⟨by rw [← hb.eq]; exact four_val.symm⟩
theorem link1c : ∃ b : F1, Lk iv1 eq1 RM RP ⟨1, b⟩ ∧ Cv fd1 b := by
  obtain ⟨b, hb⟩ := rp_of four_lt
  exact ⟨b, ⟨fd1, relM, rm_one, rm_zero, rm_to, rp_from, rp_of, rrel1, rfl, hb⟩, cv1 (four_rv hb)⟩
theorem link2c : ∃ b : DN F1, LkD (ivD iv1) (beqA eq1) (RD RM) (RD RP) ⟨1, b⟩ ∧ Cv fd2 b := by
  obtain ⟨b, hb⟩ := rp_of four_lt
  have hm := rm_to hb
  refine ⟨⟨b, b⟩, ⟨fd2, relPairs relM, ?_, ?_, fun {x w} h => ?_, fun {x w} h => ?_, fun {w} h1 h2 => ?_, drel_of rrel1, rfl, ⟨hb, hb⟩, ⟨hm, hm⟩⟩, cv2 (four_rv hb)⟩
  · rw [dn_one]; exact ⟨rm_one, rm_zero⟩
  · rw [dn_zero]; exact ⟨rm_zero, rm_zero⟩
  · rw [to2_eq]; exact pair_to (Q := RP) (M := RM) (o := toW) rm_to h
  · rw [back2_fW]; exact pair_to (Q := RM) (M := RP) (o := fromW) rp_from h
  · obtain ⟨x, hx⟩ := rp_of h1
    obtain ⟨y, hy⟩ := rp_of h2
    exact ⟨⟨x, y⟩, hx, hy⟩
theorem gpO1_ok : GPOk eqP13 zeroP1 gpO1 := by
  obtain ⟨b, L, C⟩ := link1c
  exact (L.br rp_lt).gp C
theorem gpO2_ok : GPOk eqP25 zeroP2 gpO2 := by
  obtain ⟨b, L, C⟩ := link2c
  exact (L.br (fun h => ⟨rp_lt h.a, rp_lt h.b⟩)).gp C
end Go.Rq
