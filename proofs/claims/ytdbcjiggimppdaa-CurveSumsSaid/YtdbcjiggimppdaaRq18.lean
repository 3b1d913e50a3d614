/- The law CurveSecond holds of what the functions come to. -/
import Derived.Test.YtdbcjiggimppdaaRq15
import Derived.Test.YtdbcjiggimppdaaRq17
import Derived.Test.YtdbcjiggimppdaaRq10
import Derived.Test.YtdbcjiggimppdaaRq16
import Derived.Test.YtdbcjiggimppdaaRq11
import Derived.Test.YtdbcjiggimppdaaRq14
namespace Go.Rq
open Go Go.Proofs

/-! The reference's operations on elements of two parts go like a field's. -/
section
variable {K : Type} [Rg K] {iv : K → K} {e : K → K → Bool} {R : K → D6 → Prop} {t : RO}

structure DRel (R : K → D6 → Prop) (iv : K → K) (e : K → K → Bool) (t : RO) : Prop where
  mu : ∀ {x y : K} {a b : D6}, R x a → R y b → R (x * y) (rmul2G t a b)
  ad : ∀ {x y : K} {a b : D6}, R x a → R y b → R (x + y) (radd2G t a b)
  sb : ∀ {x y : K} {a b : D6}, R x a → R y b → R (x - y) (rsub2G t a b)
  ne : ∀ {x : K} {a : D6}, R x a → R (-x) (rneg2G t a)
  iv : ∀ {x : K} {a : D6}, R x a → R (iv x) (rinv2G t a)
  zero : R 0 zeroD
  one : R 1 ⟨numOne, zeroW⟩
  eq : ∀ {x y : K} {a b : D6}, R x a → R y b → e x y = eqD a b
  inj : ∀ {x : K} {a b : D6}, R x a → R x b → a = b

theorem d2_tm (h : DRel R iv e t) {x : K} {a : D6} (p : R x a) : ∀ k : Nat, R (tmK x k) (timesA (radd2G t) a k)
  | 0 => h.zero
  | k + 1 => h.ad (d2_tm h p k) p

theorem trel2 (h : DRel R iv e t) : TRel R false e (thG t) where
  mu := fun {p x y a b} ho ha hb => by
    show R (x * y) (bif p.one then ⟨t.mu t.fp a.a b.a, zeroW⟩ else rmul2G t a b)
    rw [ho]
    exact h.mu ha hb
  tm s ha := d2_tm h ha s.n
  sb ha hb := h.sb ha hb
  zero := h.zero
  eq := fun ha hb => h.eq ha hb

def many2Of (t : RO) : Ap D6 → W6 → Nat → Ap D6 := many2G (twG t (rinv2G t) (thmG t (rmul2G t))) (multOf t)

theorem many2_rel (h : DRel R iv e t) {P : Ap K} {p : Ap D6} (hp : RA R P p) (n : W6) (len : Nat) : RA R (bif P.zero then P else lowK iv e (multK e n.bit ⟨P.x, P.y, 1⟩ (64 * len) noneJ)) (many2Of t p n len) := by
  have hT := trel2 h
  unfold many2Of many2G
  rw [hp.z]
  cases hz : p.zero with
  | true => exact hp
  | false =>
    rw [cond_false, cond_false]
    have hb : TJ R false ⟨P.x, P.y, 1⟩ (thOf2 p) := ⟨hp.x, hp.y, h.one, rfl⟩
    have hm := mult_rel hT hb n (64 * len) (noneT_rel hT (b := false) rfl)
    have hi : ∀ {x : K} {a : D6}, R x a → R (iv x) (bif false then ⟨t.iv t.fp a.a, zeroW⟩ else rinv2G t a) := fun hx => h.iv hx
    obtain ⟨h1, h2, h3⟩ := two_rel hT (r := t) hi hm
    have h1' : (twG t (rinv2G t) (thmG t (rmul2G t)) (multOf t (thOf2 p) n len)).2.2 = !(lowK iv e (multK e n.bit ⟨P.x, P.y, 1⟩ (64 * len) noneJ)).zero := h1
    rw [h1', Bool.not_not]
    cases hl : (lowK iv e (multK e n.bit ⟨P.x, P.y, 1⟩ (64 * len) noneJ)).zero with
    | true =>
      rw [lowK_zero hl]
      exact ⟨h.zero, h.zero, rfl⟩
    | false => exact ⟨h2, h3, hl⟩

def doG (t : RO) : DO := ⟨rmul2G t, radd2G t, rsub2G t, rinv2G t, rneg2G t⟩
theorem doO_eq : doO = doG roO := rfl
theorem rcheck2_rel (h : DRel R iv e t) {f : Fl K} {four : D6} (hf : R f.b four) {P : Ap K} {p : Ap D6} (hp : RA R P p) {bl : W6 → Bool} (h1 : bl p.x.a = true) (h2 : bl p.x.b = true) (h3 : bl p.y.a = true) (h4 : bl p.y.b = true) :
    rcheck2G (doG t) bl (rside2G (doG t) four) p = onE (foK iv) e f P := by
  have hs : eqD ((doG t).mu p.y p.y) (rside2G (doG t) four p.x) = e (P.y * P.y) (P.x * P.x * P.x + f.b) := (h.eq (h.mu hp.y hp.y) (h.ad (h.mu (h.mu hp.x hp.x) hp.x) hf)).symm
  unfold rcheck2G onE
  rw [hp.z, h1, h2, h3, h4, foK_zero, ← h.eq hp.x h.zero, ← h.eq hp.y h.zero, hs]
  rfl

theorem eqP25_iff (a b : Ap D6) : eqP25 a b = true ↔ a = b := by
  obtain ⟨⟨⟨a0, a1, a2, a3, a4, a5⟩, ⟨c0, c1, c2, c3, c4, c5⟩⟩, ⟨⟨a6, a7, a8, a9, a10, a11⟩, ⟨c6, c7, c8, c9, c10, c11⟩⟩, az⟩ := a
  obtain ⟨⟨⟨b0, b1, b2, b3, b4, b5⟩, ⟨d0, d1, d2, d3, d4, d5⟩⟩, ⟨⟨b6, b7, b8, b9, b10, b11⟩, ⟨d6, d7, d8, d9, d10, d11⟩⟩, bz⟩ := b
  simp [eqP25, and_assoc]

theorem ra2_eq (h : DRel R iv e t) {A B : Ap K} {a b : Ap D6} (ha : RA R A a) (hb : RA R B b) : eqP25 a b = eqA e A B := by
  rw [Bool.eq_iff_iff, eqP25_iff]
  unfold eqA
  rw [h.eq ha.x hb.x, h.eq ha.y hb.y, ha.z, hb.z]
  simp only [Bool.and_eq_true, eqD_iff, beq_iff_eq]
  obtain ⟨ax, ay, az⟩ := a
  obtain ⟨bx, bY, bz⟩ := b
  simp

theorem rneg2_rel (h : DRel R iv e t) {A : Ap K} {a : Ap D6} (ha : RA R A a) : RA R (negK A) (rneg2P (doG t) a) := ⟨ha.x, h.ne ha.y, ha.z⟩

theorem rchord2_rel (h : DRel R iv e t) {A B : Ap K} {a b : Ap D6} (ha : RA R A a) (hb : RA R B b) {m : K} {w : D6} (hm : R m w) : RA R (chordK A B m) (rchord2 (doG t) a b w) := by
  have x := h.sb (h.sb (h.mu hm hm) ha.x) hb.x
  exact ⟨x, h.sb (h.mu hm (h.sb ha.x x)) ha.y, rfl⟩

theorem rad2_rel (h : DRel R iv e t) {A B : Ap K} {a b : Ap D6} (ha : RA R A a) (hb : RA R B b) : RA R (sumA iv e A B) (rad2G (doG t) (rneg2P (doG t)) (rslope (doG t)) a b) := by
  unfold sumA rad2G rslope
  rw [ha.z, hb.z, ra2_eq h ha (rneg2_rel h hb), ra2_eq h ha hb]
  cases a.zero
  · cases b.zero
    · cases eqA e A (negK B)
      · cases eqA e A B
        · exact rchord2_rel h ha hb (h.mu (h.sb hb.y ha.y) (h.iv (h.sb hb.x ha.x)))
        · have s := h.mu ha.x ha.x
          exact rchord2_rel h ha hb (h.mu (h.ad (h.ad s s) s) (h.iv (h.ad ha.y ha.y)))
      · exact ⟨h.zero, h.zero, rfl⟩
    · exact ha
  · exact hb

theorem ra2_inj (h : DRel R iv e t) {A : Ap K} {a b : Ap D6} (ha : RA R A a) (hb : RA R A b) : a = b := by
  obtain ⟨ax, ay, az⟩ := a
  obtain ⟨bx, bY, bz⟩ := b
  have h1 := h.inj ha.x hb.x
  have h2 := h.inj ha.y hb.y
  have h3 := ha.z.symm.trans hb.z
  simp at h1 h2 h3
  rw [h1, h2, h3]
end

/-- A field, its elements as the program keeps them (M) and as they are told (P). -/
structure LkD {K : Type} [Rg K] (iv : K → K) (e : K → K → Bool) (M P : K → D6 → Prop) (f : Fl K) : Prop where
  F : Fd K iv e
  rel : FRel M (foK iv) fD e eqD
  m1 : M 1 one2
  m0 : M 0 zero2
  to : ∀ {x : K} {w : D6}, P x w → M x (to2 fW w)
  fr : ∀ {x : K} {w : D6}, M x w → P x (back2 fW w)
  of : ∀ {w : D6}, w.a.val < pN → w.b.val < pN → ∃ x, P x w
  ref : DRel P iv e roO
  f1 : f.one = 1
  fb : P f.b fourD
  mb : M f.b ⟨toW (ofW 4#64), toW (ofW 4#64)⟩

section
variable {K : Type} [Rg K] {iv : K → K} {e : K → K → Bool} {M P : K → D6 → Prop} {f : Fl K}

theorem ra2_of {J : Type} {Q M : J → D6 → Prop} {t : D6 → D6} (ht : ∀ {x : J} {w : D6}, Q x w → M x (t w)) {A : Ap J} {p : Ap D6} (h : RA Q A p) : RA M A ⟨t p.x, t p.y, p.zero⟩ := ⟨ht h.x, ht h.y, h.z⟩
theorem LkD.fl (L : LkD iv e M P f) : RFl M f fld2 := by
  unfold fld2
  exact ⟨by rw [L.f1]; exact L.m1, L.mb⟩
theorem LkD.inn (L : LkD iv e M P f) {A : Ap K} {p : Ap D6} (h : RA P A p) : RA M A (inP2 p) := by
  unfold inP2
  exact ra2_of (Q := P) (M := M) (t := to2 fW) L.to h
theorem LkD.out (L : LkD iv e M P f) {A : Ap K} {p : Ap D6} (h : RA M A p) : RA P A (outP2 p) := by
  unfold outP2
  exact ra2_of (Q := M) (M := P) (t := back2 fW) L.fr h

theorem LkD.times (L : LkD iv e M P f) {f : Fl K} {g : Fl D6} {p : Jp K} {q : Jp D6} (hf : RFl M f g) (hp : RJ M p q) (n : W6) : RJ M (timesF iv e f p n) (timesD g q n) := by
  unfold timesF timesD
  exact times_rel L.rel hf hp n _ ⟨hf.one, hf.one, L.m0⟩
theorem LkD.ga (L : LkD iv e M P f) : GRel M (gaF iv e) gaOD := g_rel L.rel L.times

theorem below2_parts {p : Ap D6} (h : belowP2 p = true) : belowI p.x.a = true ∧ belowI p.x.b = true ∧ belowI p.y.a = true ∧ belowI p.y.b = true := by
  unfold belowP2 at h
  cases h1 : belowI p.x.a <;> cases h2 : belowI p.x.b <;> cases h3 : belowI p.y.a <;> rw [h1, h2, h3] at h <;> simp_all
theorem LkD.below (L : LkD iv e M P f) {p : Ap D6} (h : belowP2 p = true) : ∃ A : Ap K, RA P A p := by
  obtain ⟨h1, h2, h3, h4⟩ := below2_parts h
  rw [belowI_nat] at h1 h2 h3 h4
  obtain ⟨x, hx⟩ := L.of (of_decide_eq_true h1) (of_decide_eq_true h2)
  obtain ⟨y, hy⟩ := L.of (of_decide_eq_true h3) (of_decide_eq_true h4)
  exact ⟨⟨x, y, p.zero⟩, hx, hy, rfl⟩

theorem zero_a : zero2.a = zeroW := rfl
theorem zero_b : zero2.b = zeroW := rfl
theorem LkD.check (L : LkD iv e M P f) (p : Ap D6) : checkP2 p = rcheck2 p := by
  unfold checkP2
  cases hb : belowP2 p with
  | true =>
    obtain ⟨A, hP⟩ := L.below hb
    obtain ⟨h1, h2, h3, h4⟩ := below2_parts hb
    rw [cond_true, ← on_rel L.rel L.fl (L.inn hP)]
    exact (rcheck2_rel L.ref L.fb hP h1 h2 h3 h4).symm
  | false =>
    rw [cond_false]
    unfold rcheck2 rcheck2G
    unfold belowP2 at hb
    cases hz : p.zero with
    | true =>
      rw [cond_true]
      cases hx : eqD p.x zeroD with
      | false => rfl
      | true =>
        cases hy : eqD p.y zeroD with
        | false => rfl
        | true =>
          rw [(eqD_iff _ _).1 hx, (eqD_iff _ _).1 hy] at hb
          unfold zeroD at hb
          rw [zero_below] at hb
          cases hb
    | false =>
      rw [cond_false]
      cases h1 : belowI p.x.a with
      | false => rfl
      | true =>
        cases h2 : belowI p.x.b with
        | false => rfl
        | true =>
          cases h3 : belowI p.y.a with
          | false => rfl
          | true =>
            rw [h1, h2, h3, cond_true, cond_true, cond_true] at hb
            rw [hb]; rfl

/-- What is a point. -/
theorem LkD.point (L : LkD iv e M P f) {p : Ap D6} (h : rcheck2 p = true) : belowP2 p = true ∧ ∃ A : Ap K, RA P A p ∧ onE (foK iv) e f A = true := by
  rw [← L.check] at h
  unfold checkP2 at h
  cases hb : belowP2 p with
  | false => rw [hb] at h; cases h
  | true =>
    obtain ⟨A, hP⟩ := L.below hb
    rw [hb, cond_true, ← on_rel L.rel L.fl (L.inn hP)] at h
    exact ⟨rfl, A, hP, h⟩
theorem LkD.on (L : LkD iv e M P f) {p : Ap D6} (h : rcheck2 p = true) : onE fD eqD fld2 (inP2 p) = true := by
  obtain ⟨-, A, hP, hon⟩ := L.point h
  rw [← on_rel L.rel L.fl (L.inn hP)]
  exact hon
theorem LkD.off (L : LkD iv e M P f) {p : Ap D6} (h : rcheck2 p = false) (hb : belowP2 p = true) : onE fD eqD fld2 (inP2 p) = false := by
  rw [← L.check] at h
  unfold checkP2 at h
  rw [hb, cond_true] at h
  exact h

theorem LkD.rmul (L : LkD iv e M P f) {A : Ap K} {p : Ap D6} (hp : RA P A p) (n : W6) : RA P (bif A.zero then A else lowK iv e (multK e n.bit ⟨A.x, A.y, 1⟩ (64 * wdL rlenI n) noneJ)) (rml2 p n) := many2_rel L.ref hp n (wdL rlenI n)

theorem LkD.n0 (L : LkD iv e M P f) : back2 fW zero2 = zero2 := L.ref.inj (L.fr L.m0) (L.ref.zero : P 0 zero2)
theorem LkD.nn (L : LkD iv e M P f) : ((outP2 ⟨zero2, zero2, false⟩, 5) : Ap D6 × Int) = (nonePD, 5) := by
  unfold outP2
  rw [L.n0]
  rfl

theorem sum2_def (p : Ap D6) (n : W6) : sumP1D p n = bif belowP2 p then (outP2 (ga1 gaOD zero2 fld2 (inP2 p) n).1, (ga1 gaOD zero2 fld2 (inP2 p) n).2) else (nonePD, 5) := by unfold sumP1D sm1 suOD gath1D; rfl
theorem ga1D_def (p : Ap D6) (n : W6) (h : onE fD eqD fld2 p = false) : ga1 gaOD zero2 fld2 p n = (⟨zero2, zero2, false⟩, 5) := by
  have hg : ga1 gaOD zero2 fld2 p n = bif onE fD eqD fld2 p then (gaOD.lo fld2 (gaOD.su fld2 ⟨fld2.one, fld2.one, zero2⟩ (gaOD.ti fld2 (gaOD.ra fld2 p) n)), 0) else (⟨zero2, zero2, false⟩, 5) := rfl
  rw [hg, h]; rfl
theorem add2_def (p q : Ap D6) : addP2 p q = bif belowP2 p then (bif belowP2 q then (outP2 (ga2 gaOD zero2 fld2 (inP2 p, inP2 q) unitN).1, (ga2 gaOD zero2 fld2 (inP2 p, inP2 q) unitN).2) else (nonePD, 5)) else (nonePD, 5) := by
  unfold addP2 sumP2D sm2 suOD gath2D; rfl
theorem ga2D_defA (p q : Ap D6) (n : W6 × W6) (h : onE fD eqD fld2 p = false) : ga2 gaOD zero2 fld2 (p, q) n = (⟨zero2, zero2, false⟩, 5) := by
  have hg : ga2 gaOD zero2 fld2 (p, q) n = bif onE fD eqD fld2 p then (bif onE fD eqD fld2 q then
      (gaOD.lo fld2 (gaOD.su fld2 (gaOD.su fld2 ⟨fld2.one, fld2.one, zero2⟩ (gaOD.ti fld2 (gaOD.ra fld2 p) n.1)) (gaOD.ti fld2 (gaOD.ra fld2 q) n.2)), 0) else (⟨zero2, zero2, false⟩, 5)) else (⟨zero2, zero2, false⟩, 5) := rfl
  rw [hg, h]; rfl
theorem ga2D_defB (p q : Ap D6) (n : W6 × W6) (h : onE fD eqD fld2 q = false) : ga2 gaOD zero2 fld2 (p, q) n = (⟨zero2, zero2, false⟩, 5) := by
  have hg : ga2 gaOD zero2 fld2 (p, q) n = bif onE fD eqD fld2 p then (bif onE fD eqD fld2 q then
      (gaOD.lo fld2 (gaOD.su fld2 (gaOD.su fld2 ⟨fld2.one, fld2.one, zero2⟩ (gaOD.ti fld2 (gaOD.ra fld2 p) n.1)) (gaOD.ti fld2 (gaOD.ra fld2 q) n.2)), 0) else (⟨zero2, zero2, false⟩, 5)) else (⟨zero2, zero2, false⟩, 5) := rfl
  rw [hg, h]
  cases onE fD eqD fld2 p <;> rfl

theorem LkD.mul (L : LkD iv e M P f) (p : Ap D6) (n : W6) : sumP1D p n = bif rcheck2 p then (rml2 p n, 0) else (nonePD, 5) := by
  rw [sum2_def]
  cases hc : rcheck2 p with
  | true =>
    obtain ⟨hb, A, hP, hon⟩ := L.point hc
    obtain ⟨h1, h2⟩ := ga1_rel L.ga L.m0 L.fl (L.inn hP) n
    have h3 := ga1_low L.F L.f1 (on_none L.F hon) hon n (wdL_le n).2
    rw [h3] at h1 h2
    rw [hb, cond_true, cond_true, ← h2, ra2_inj L.ref (L.out h1) (L.rmul hP n)]
  | false =>
    rw [cond_false]
    cases hb : belowP2 p with
    | false => rfl
    | true =>
      rw [cond_true, ga1D_def _ n (L.off hc hb)]
      exact L.nn

theorem LkD.add (L : LkD iv e M P f) (p q : Ap D6) : addP2 p q = bif rcheck2 p then (bif rcheck2 q then (rad2 p q, 0) else (Go.Rq.nonePD, 5)) else (Go.Rq.nonePD, 5) := by
  rw [add2_def]
  cases hc : rcheck2 p with
  | false =>
    rw [cond_false]
    cases hb : belowP2 p with
    | false => rfl
    | true =>
      cases hb2 : belowP2 q with
      | false => rfl
      | true =>
        rw [cond_true, cond_true, ga2D_defA _ _ _ (L.off hc hb)]
        exact L.nn
  | true =>
    rw [cond_true, (L.point hc).1, cond_true]
    cases hd : rcheck2 q with
    | false =>
      rw [cond_false]
      cases hb2 : belowP2 q with
      | false => rfl
      | true =>
        rw [cond_true, ga2D_defB _ _ _ (L.off hd hb2)]
        exact L.nn
    | true =>
      rw [cond_true, (L.point hd).1, cond_true]
      obtain ⟨-, A, hP, hon⟩ := L.point hc
      obtain ⟨-, B, hQ, hoq⟩ := L.point hd
      obtain ⟨h1, h2⟩ := ga2_rel L.ga L.m0 L.fl (x := (A, B)) (y := (inP2 p, inP2 q)) (L.inn hP) (L.inn hQ) unitN
      have h3 : ga2 (gaF iv e) 0 f (A, B) unitN = (sumA iv e A B, 0) := ga2_low L.F L.f1 (on_none L.F hon) (on_none L.F hoq) hon hoq
      rw [h3] at h1 h2
      have h4 : RA P (sumA iv e A B) (rad2 p q) := rad2_rel L.ref hP hQ
      rw [← h2, ra2_inj L.ref (L.out h1) h4]

theorem LkD.neg (L : LkD iv e M P f) (p : Ap D6) : negP2 p = bif rcheck2 p then (rneg2P doO p, 0) else (Go.Rq.nonePD, 5) := by
  unfold negP2
  rw [L.check]
  cases hc : rcheck2 p with
  | false => rw [Bool.not_false, cond_true, cond_false]; rfl
  | true =>
    obtain ⟨-, A, hP, -⟩ := L.point hc
    have h1 := L.out (neg_rel L.rel (L.inn hP))
    have h2 : negE (foK iv) A = negK A := by
      unfold negE negK
      rw [foK_zero, foK_sub]
      congr 1
      rw [Rg.sub_eq]
      exact rg_zero_add _
    rw [h2] at h1
    rw [ra2_inj L.ref h1 (rneg2_rel L.ref hP), Bool.not_true, cond_false, cond_true, doO_eq]

theorem rin2_def (p : Ap D6) : rin2 p = bif rcheck2 p then (rml2 p orderW).zero else false := by unfold rin2 rin2G; rfl
theorem inGroup2_def (p : Ap D6) : inGroup2 p = bif belowP2 p then (bif onE fD eqD fld2 (inP2 p) then (lowerE fD eqD (timesD fld2 (raiseJ fD fld2 (inP2 p)) orderW)).zero else false) else false := by
  unfold inGroup2 inED inGD lowFD; rfl
theorem LkD.ing (L : LkD iv e M P f) (p : Ap D6) : inGroup2 p = bif rcheck2 p then rin2 p else false := by
  rw [inGroup2_def, rin2_def]
  cases hc : rcheck2 p with
  | true =>
    obtain ⟨hb, A, hP, hon⟩ := L.point hc
    have h1 := lower_rel L.rel (L.times L.fl (raise_rel L.rel L.fl (L.inn hP)) orderW)
    rw [times_low L.F L.f1 (on_none L.F hon) orderW (wdL_le orderW).2] at h1
    rw [hb, cond_true, L.on hc, cond_true, cond_true, cond_true, ← h1.z, (L.rmul hP orderW).z]
  | false =>
    rw [cond_false]
    cases hb : belowP2 p with
    | false => rfl
    | true =>
      rw [L.off hc hb]; rfl

theorem gen2_eq : gen2P = rgen2P := by
  unfold gen2P rgen2P
  exact ap_eq (by decide +kernel) (by decide +kernel)

def loO2 : LO D6 := ⟨rcheck2, checkP2, rin2, inGroup2, rgen2P, gen2P, rneg2P doO, negP2, rad2, addP2, rml2, sumP1D, twoLG⟩
theorem LkD.law (L : LkD iv e M P f) : LOk eqP25 Go.Rq.nonePD loO2 where
  on _ _ _ _ := rfl
  refl p := (eqP25_iff p p).2 rfl
  ck p := L.check p
  ig p := L.ing p
  ge := gen2_eq
  ne p := L.neg p
  ad p q := L.add p q
  mu p n := L.mul p n
end

/-! The second field. -/
section
variable {K : Type} [Rg K] {iv : K → K} {e : K → K → Bool} {R : K → W6 → Prop} {t : RO}

theorem drel_of (h : RRel R iv e t) : DRel (RD R) (ivD iv) (beqA e) t where
  mu := fun p q => ⟨h.sb (h.mu p.a q.a) (h.mu p.b q.b), h.ad (h.mu p.a q.b) (h.mu p.b q.a)⟩
  ad := fun p q => ⟨h.ad p.a q.a, h.ad p.b q.b⟩
  sb := fun {x y a b} p q => by
    have e1 := h.ad p.a (h.ne q.a)
    have e2 := h.ad p.b (h.ne q.b)
    rw [← Rg.sub_eq x.a y.a] at e1
    rw [← Rg.sub_eq x.b y.b] at e2
    exact ⟨e1, e2⟩
  ne := fun p => ⟨h.ne p.a, h.ne p.b⟩
  iv := fun p => by
    have n := h.iv (h.ad (h.mu p.a p.a) (h.mu p.b p.b))
    exact ⟨h.mu p.a n, h.ne (h.mu p.b n)⟩
  zero := by rw [dn_zero]; exact ⟨h.zero, h.zero⟩
  one := by rw [dn_one]; exact ⟨h.one, h.zero⟩
  eq := fun {x y a b} p q => by
    rw [eqW_D, ← h.eq p.a q.a, ← h.eq p.b q.b]; rfl
  inj := fun {x a b} p q => by
    obtain ⟨aa, ab⟩ := a
    obtain ⟨ba, bb⟩ := b
    have e1 := h.inj p.a q.a
    have e2 := h.inj p.b q.b
    simp at e1 e2
    rw [e1, e2]

end

theorem pair_to {J : Type} {Q M : J → W6 → Prop} {o : W6 → W6} (h : ∀ {x : J} {w : W6}, Q x w → M x (o w)) {x : DN J} {w : D6} (p : RD Q x w) : RD M x ⟨o w.a, o w.b⟩ := ⟨h p.a, h p.b⟩
theorem to2_eq (w : D6) : to2 fW w = ⟨toW w.a, toW w.b⟩ := by
  unfold to2
  rw [fW_to]
theorem back2_fW (w : D6) : back2 fW w = ⟨fromW w.a, fromW w.b⟩ := by
  unfold back2
  rw [fW_back]

theorem link2 : ∃ b : DN F1, LkD (ivD iv1) (beqA eq1) (RD RM) (RD RP) ⟨1, b⟩ := by
  obtain ⟨b, hb⟩ := rp_of four_lt
  have hm := rm_to hb
  refine ⟨⟨b, b⟩, fd2, relPairs relM, ?_, ?_, fun {x w} h => ?_, fun {x w} h => ?_, fun {w} h1 h2 => ?_, drel_of rrel1, rfl, ⟨hb, hb⟩, ⟨hm, hm⟩⟩
  · rw [dn_one]; exact ⟨rm_one, rm_zero⟩
  · rw [dn_zero]; exact ⟨rm_zero, rm_zero⟩
  · rw [to2_eq]; exact pair_to (Q := RP) (M := RM) (o := toW) rm_to h
  · rw [back2_fW]; exact pair_to (Q := RM) (M := RP) (o := fromW) rp_from h
  · obtain ⟨x, hx⟩ := rp_of h1
    obtain ⟨y, hy⟩ := rp_of h2
    exact ⟨⟨x, y⟩, hx, hy⟩
theorem loO2_ok : LOk eqP25 nonePD loO2 := by
  obtain ⟨b, L⟩ := link2
  exact L.law
end Go.Rq

/- The laws CurveGroup1 and CurveGroup2 hold of what the functions come to. -/
namespace Go.Rq
open Go Go.Proofs

/-! From the field's points to the program's. -/
section
variable {K V : Type} [Rg K] {iv : K → K} {e : K → K → Bool} {F : Fd K iv e} {b : K}

theorem pt_on (F : Fd K iv e) {f : Fl K} {A : Ap K} (h : Pt f.b A) : onE (foK iv) e f A = true := by
  unfold onE
  cases h with
  | zero =>
    show (bif e (0 : K) 0 then e (0 : K) 0 else false) = true
    rw [F.refl]; rfl
  | of h =>
    rename_i x y
    show e (y * y) (x * x * x + f.b) = true
    exact F.eq.2 h
theorem on_pt (F : Fd K iv e) {f : Fl K} {A : Ap K} (h : onE (foK iv) e f A = true) : Pt f.b A := by
  cases hz : A.zero with
  | true => rw [on_none F h hz]; exact .zero
  | false =>
    unfold onE at h
    rw [hz, cond_false] at h
    have h := F.eq.1 h
    obtain ⟨x, y, z⟩ := A
    simp only at hz
    subst hz
    exact .of h

/-- What the program answers of points that stand for the field's. -/
structure Br (F : Fd K iv e) (b : K) (R : Ap K → Ap V → Prop) (eqP : Ap V → Ap V → Bool) (zp : Ap V) (t : GP V) : Prop where
  pt : ∀ {p : Ap V}, t.ck p = true → ∃ A, R A p ∧ Pt b A
  ck : ∀ {A : Ap K} {p : Ap V}, R A p → Pt b A → t.ck p = true
  ad : ∀ {A B : Ap K} {p q : Ap V}, R A p → R B q → Pt b A → Pt b B → (t.ad p q).2 = 0 ∧ R (sumA iv e A B) (t.ad p q).1
  ne : ∀ {A : Ap K} {p : Ap V}, R A p → Pt b A → (t.ne p).2 = 0 ∧ R (negK A) (t.ne p).1
  zp : R ⟨0, 0, true⟩ zp
  inj : ∀ {A : Ap K} {p q : Ap V}, R A p → R A q → p = q
  refl : ∀ p, eqP p p = true

theorem Br.gp {R : Ap K → Ap V → Prop} {eqP : Ap V → Ap V → Bool} {zp : Ap V} {t : GP V} (h : Br F b R eqP zp t) (C : Cv F b) : GPOk eqP zp t where
  refl := h.refl
  ad p q hp hq := by
    obtain ⟨A, a1, a2⟩ := h.pt hp
    obtain ⟨B, b1, b2⟩ := h.pt hq
    obtain ⟨k1, k2⟩ := h.ad a1 b1 a2 b2
    exact ⟨k1, h.ck k2 (sum_pt F a2 b2)⟩
  ne p hp := by
    obtain ⟨A, a1, a2⟩ := h.pt hp
    obtain ⟨k1, k2⟩ := h.ne a1 a2
    exact ⟨k1, h.ck k2 (neg_pt a2)⟩
  zc := h.ck h.zp .zero
  comm p q hp hq := by
    obtain ⟨A, a1, a2⟩ := h.pt hp
    obtain ⟨B, b1, b2⟩ := h.pt hq
    have k := (h.ad b1 a1 b2 a2).2
    rw [sum_comm F b2 a2] at k
    exact h.inj (h.ad a1 b1 a2 b2).2 k
  assoc p q r hp hq hr := by
    obtain ⟨A, a1, a2⟩ := h.pt hp
    obtain ⟨B, b1, b2⟩ := h.pt hq
    obtain ⟨D, d1, d2⟩ := h.pt hr
    have k1 := (h.ad (h.ad a1 b1 a2 b2).2 d1 (sum_pt F a2 b2) d2).2
    have k2 := (h.ad a1 (h.ad b1 d1 b2 d2).2 a2 (sum_pt F b2 d2)).2
    rw [sum_assoc F C a2 b2 d2] at k1
    exact h.inj k1 k2
  neg p hp := by
    obtain ⟨A, a1, a2⟩ := h.pt hp
    have k := (h.ad a1 (h.ne a1 a2).2 a2 (neg_pt a2)).2
    rw [sum_neg F a2] at k
    exact h.inj k h.zp
  zero p hp := by
    obtain ⟨A, a1, a2⟩ := h.pt hp
    have k := (h.ad a1 h.zp a2 .zero).2
    rw [a2.add0] at k
    exact h.inj k a1
end

def gpO1 : GP W6 := ⟨checkP1, addP1, negP1⟩
def gpO2 : GP D6 := ⟨checkP2, addP2, negP2⟩

section
variable {K : Type} [Rg K] {iv : K → K} {e : K → K → Bool} {M P : K → W6 → Prop} {f : Fl K}

theorem Lk.ckPt (L : Lk iv e M P f) (hlt : ∀ {x : K} {w : W6}, P x w → w.val < pN) {A : Ap K} {p : Ap W6} (h : RA P A p) (hA : Pt f.b A) : checkP1 p = true := by
  have hb : belowP1 p = true := by
    unfold belowP1
    rw [belowI_nat, belowI_nat, decide_eq_true (hlt h.x), decide_eq_true (hlt h.y)]
    rfl
  unfold checkP1
  rw [hb, cond_true, ← on_rel L.rel L.fl (L.inn h)]
  exact pt_on L.F hA

theorem Lk.br (L : Lk iv e M P f) (hlt : ∀ {x : K} {w : W6}, P x w → w.val < pN) : Br L.F f.b (RA P) eqP13 zeroP1 gpO1 where
  pt := fun {p} h => by
    have h' : rcheck1 p = true := by rw [← L.check]; exact h
    obtain ⟨-, A, hP, hon⟩ := L.point h'
    exact ⟨A, hP, on_pt L.F hon⟩
  ck h hA := L.ckPt hlt h hA
  ad := fun {A B p q} ha hb a2 b2 => by
    have c1 : rcheck1 p = true := by rw [← L.check]; exact L.ckPt hlt ha a2
    have c2 : rcheck1 q = true := by rw [← L.check]; exact L.ckPt hlt hb b2
    have h4 : RA P (sumA iv e A B) (radd1 p q) := radd_rel L.ref ha hb
    have h5 : addP1 p q = (radd1 p q, 0) := by rw [L.add, c1, c2]; rfl
    show (addP1 p q).2 = 0 ∧ RA P (sumA iv e A B) (addP1 p q).1
    rw [h5]
    exact ⟨rfl, h4⟩
  ne := fun {A p} ha a2 => by
    have c1 : rcheck1 p = true := by rw [← L.check]; exact L.ckPt hlt ha a2
    have h4 := rneg_rel L.ref ha
    have h5 : negP1 p = (rneg1G roO p, 0) := by rw [L.neg, c1]; rfl
    show (negP1 p).2 = 0 ∧ RA P (negK A) (negP1 p).1
    rw [h5]
    exact ⟨rfl, h4⟩
  zp := ⟨L.ref.zero, L.ref.zero, rfl⟩
  inj h k := ra_inj L.ref h k
  refl p := (eqP13_iff p p).2 rfl
end

section
variable {K : Type} [Rg K] {iv : K → K} {e : K → K → Bool} {M P : K → D6 → Prop} {f : Fl K}

theorem LkD.ckPt (L : LkD iv e M P f) (hlt : ∀ {x : K} {w : D6}, P x w → w.a.val < pN ∧ w.b.val < pN) {A : Ap K} {p : Ap D6} (h : RA P A p) (hA : Pt f.b A) : checkP2 p = true := by
  have hb : belowP2 p = true := by
    unfold belowP2
    obtain ⟨h1, h2⟩ := hlt h.x
    obtain ⟨h3, h4⟩ := hlt h.y
    rw [belowI_nat, belowI_nat, belowI_nat, belowI_nat, decide_eq_true h1, decide_eq_true h2, decide_eq_true h3, decide_eq_true h4]
    rfl
  unfold checkP2
  rw [hb, cond_true, ← on_rel L.rel L.fl (L.inn h)]
  exact pt_on L.F hA

theorem LkD.br (L : LkD iv e M P f) (hlt : ∀ {x : K} {w : D6}, P x w → w.a.val < pN ∧ w.b.val < pN) : Br L.F f.b (RA P) eqP25 zeroP2 gpO2 where
  pt := fun {p} h => by
    have h' : rcheck2 p = true := by rw [← L.check]; exact h
    obtain ⟨-, A, hP, hon⟩ := L.point h'
    exact ⟨A, hP, on_pt L.F hon⟩
  ck h hA := L.ckPt hlt h hA
  ad := fun {A B p q} ha hb a2 b2 => by
    have c1 : rcheck2 p = true := by rw [← L.check]; exact L.ckPt hlt ha a2
    have c2 : rcheck2 q = true := by rw [← L.check]; exact L.ckPt hlt hb b2
    have h4 : RA P (sumA iv e A B) (rad2 p q) := rad2_rel L.ref ha hb
    have h5 : addP2 p q = (rad2 p q, 0) := by rw [L.add, c1, c2]; rfl
    show (addP2 p q).2 = 0 ∧ RA P (sumA iv e A B) (addP2 p q).1
    rw [h5]
    exact ⟨rfl, h4⟩
  ne := fun {A p} ha a2 => by
    have c1 : rcheck2 p = true := by rw [← L.check]; exact L.ckPt hlt ha a2
    have h4 := rneg2_rel L.ref ha
    have h5 : negP2 p = (rneg2P doO p, 0) := by rw [L.neg, c1]; rfl
    show (negP2 p).2 = 0 ∧ RA P (negK A) (negP2 p).1
    rw [h5]
    exact ⟨rfl, h4⟩
  zp := ⟨L.ref.zero, L.ref.zero, rfl⟩
  inj h k := ra2_inj L.ref h k
  refl p := (eqP25_iff p p).2 rfl
end

theorem four_rv {b : F1} (hb : RP b (ofW 4#64)) : RV (p := pN) b 4 := ⟨by rw [← hb.eq]; exact four_val.symm⟩
theorem link1c : ∃ b : F1, Lk iv1 eq1 RM RP ⟨1, b⟩ ∧ Cv fd1 b := by
  obtain ⟨b, hb⟩ := rp_of four_lt
  exact ⟨b, ⟨fd1, relM, rm_one, rm_zero, rm_to, rp_from, rp_of, rrel1, rfl, hb⟩, cv1 (four_rv hb)⟩
theorem link2c : ∃ b : DN F1, LkD (ivD iv1) (beqA eq1) (RD RM) (RD RP) ⟨1, b⟩ ∧ Cv fd2 b := by
  obtain ⟨b, hb⟩ := rp_of four_lt
  have hm := rm_to hb
  refine ⟨⟨b, b⟩, ⟨fd2, relPairs relM, ?_, ?_, fun {x w} h => ?_, fun {x w} h => ?_, fun {w} h1 h2 => ?_, drel_of rrel1, rfl, ⟨hb, hb⟩, ⟨hm, hm⟩⟩, cv2 (four_rv hb)⟩
  · rw [dn_one]; exact ⟨rm_one, rm_zero⟩
  · rw [dn_zero]; exact ⟨rm_zero, rm_zero⟩
  · rw [to2_eq]; exact pair_to (Q := RP) (M := RM) (o := toW) rm_to h
  · rw [back2_fW]; exact pair_to (Q := RM) (M := RP) (o := fromW) rp_from h
  · obtain ⟨x, hx⟩ := rp_of h1
    obtain ⟨y, hy⟩ := rp_of h2
    exact ⟨⟨x, y⟩, hx, hy⟩
theorem gpO1_ok : GPOk eqP13 zeroP1 gpO1 := by
  obtain ⟨b, L, C⟩ := link1c
  exact (L.br rp_lt).gp C
theorem gpO2_ok : GPOk eqP25 zeroP2 gpO2 := by
  obtain ⟨b, L, C⟩ := link2c
  exact (L.br (fun h => ⟨rp_lt h.a, rp_lt h.b⟩)).gp C
end Go.Rq

/- The law CurveTimes holds of what the functions come to. -/
namespace Go.Rq
open Go Go.Proofs

section
variable {K : Type} [Rg K] {iv : K → K} {e : K → K → Bool}

theorem ga1_nsm (F : Fd K iv e) {f : Fl K} (C : Cv F f.b) (hf : f.one = 1) {A : Ap K} (hA : Pt f.b A) (n : W6) : ga1 (gaF iv e) 0 f A n = (nsm iv e A n.val, 0) := by
  have h : ga1 (gaF iv e) 0 f A n = bif onE (foK iv) e f A then (lowerE (foK iv) e (sumE (foK iv) e f ⟨f.one, f.one, 0⟩ (timesF iv e f (raiseJ (foK iv) f A) n)), 0) else (⟨0, 0, false⟩, 5) := rfl
  have h0 : Jr (⟨f.one, f.one, 0⟩ : Jp K) (nsm iv e A 0) := .none rfl
  have h1 := jr_run F C f n.bit (jr_raise F hf hA) hA (lenI n).toNat 0 h0
  rw [bitsV_val n (fun i hi => len_bits n hi), Nat.zero_mul, Nat.zero_add] at h1
  rw [h, pt_on F hA, cond_true, sum_none F f rfl]
  unfold timesF
  rw [times_run, jr_low F h1]

/-- What the program answers of points that stand for the field's: multiples. -/
theorem tl_ok {V : Type} {F : Fd K iv e} {b : K} {R : Ap K → Ap V → Prop} {eqP : Ap V → Ap V → Bool} {zp : Ap V} {g : GP V} (h : Br F b R eqP zp g) (C : Cv F b) {mu : Ap V → W6 → Ap V × Int}
    (hmu : ∀ {A : Ap K} {p : Ap V}, R A p → Pt b A → ∀ n : W6, (mu p n).2 = 0 ∧ R (nsm iv e A n.val) (mu p n).1) : TLOk eqP ⟨g.ck, g.ad, mu⟩ where
  refl := h.refl
  main := fun a m n s p hc hs hp => by
    obtain ⟨A, a1, a2⟩ := h.pt hc
    have km := (hmu a1 a2 m).2
    have kn := (hmu a1 a2 n).2
    have ks := (hmu a1 a2 s).2
    obtain ⟨kp0, kp⟩ := hmu a1 a2 p
    have kx := (hmu km (nsm_pt F a2 m.val) n).2
    obtain ⟨kd0, kd⟩ := h.ad km kn (nsm_pt F a2 m.val) (nsm_pt F a2 n.val)
    rw [hs, nsm_add F C a2] at ks
    rw [hp, nsm_mul F C a2] at kp
    exact ⟨h.inj ks kd, h.inj kx kp, kd0, kp0⟩
end

section
variable {K : Type} [Rg K] {iv : K → K} {e : K → K → Bool} {M P : K → W6 → Prop} {f : Fl K}
theorem Lk.nsm (L : Lk iv e M P f) (hlt : ∀ {x : K} {w : W6}, P x w → w.val < pN) (C : Cv L.F f.b) {A : Ap K} {p : Ap W6} (hP : RA P A p) (hA : Pt f.b A) (n : W6) : (sumP1W p n).2 = 0 ∧ RA P (Go.Rq.nsm iv e A n.val) (sumP1W p n).1 := by
  have hc : rcheck1 p = true := by rw [← L.check]; exact L.ckPt hlt hP hA
  obtain ⟨h1, h2⟩ := ga1_rel L.ga L.m0 L.fl (L.inn hP) n
  rw [ga1_nsm L.F C L.f1 hA n] at h1 h2
  rw [sum1_def, (L.point hc).1, cond_true]
  exact ⟨h2.symm, L.out h1⟩
end
section
variable {K : Type} [Rg K] {iv : K → K} {e : K → K → Bool} {M P : K → D6 → Prop} {f : Fl K}
theorem LkD.nsm (L : LkD iv e M P f) (hlt : ∀ {x : K} {w : D6}, P x w → w.a.val < pN ∧ w.b.val < pN) (C : Cv L.F f.b) {A : Ap K} {p : Ap D6} (hP : RA P A p) (hA : Pt f.b A) (n : W6) : (sumP1D p n).2 = 0 ∧ RA P (Go.Rq.nsm iv e A n.val) (sumP1D p n).1 := by
  have hc : rcheck2 p = true := by rw [← L.check]; exact L.ckPt hlt hP hA
  obtain ⟨h1, h2⟩ := ga1_rel L.ga L.m0 L.fl (L.inn hP) n
  rw [ga1_nsm L.F C L.f1 hA n] at h1 h2
  rw [sum2_def, (L.point hc).1, cond_true]
  exact ⟨h2.symm, L.out h1⟩
end

def tlO1 : TL W6 := ⟨checkP1, addP1, sumP1W⟩
def tlO2 : TL D6 := ⟨checkP2, addP2, sumP1D⟩
def wlO : WL := ⟨shW, wAddW, wmW⟩
theorem tlO1_ok : TLOk eqP13 tlO1 := by
  obtain ⟨b, L, C⟩ := link1c
  exact tl_ok (L.br rp_lt) C (fun h k n => L.nsm rp_lt C h k n)
theorem tlO2_ok : TLOk eqP25 tlO2 := by
  obtain ⟨b, L, C⟩ := link2c
  exact tl_ok (L.br (fun h => ⟨rp_lt h.a, rp_lt h.b⟩)) C (fun h k n => L.nsm (fun h => ⟨rp_lt h.a, rp_lt h.b⟩) C h k n)

theorem tmTree_true {t : TL W6} {u : TL D6} (ht : TLOk eqP13 t) (hu : TLOk eqP25 u) {w : WL} (hw : ∀ m n : W6, (w.ad (w.sh (w.sh m .up) .down) (w.sh (w.sh n .up) .down)).1.val = (w.sh (w.sh m .up) .down).val + (w.sh (w.sh n .up) .down).val ∧
      (w.mu (w.sh (w.sh m .up) .down) (w.sh (w.sh n .up) .down)).1.val = (w.sh (w.sh m .up) .down).val * (w.sh (w.sh n .up) .down).val) (a : Ap W6) (b : Ap D6) (m n : W6) :
    (tmTree eqP13 eqP25 t u w a b m n).holds (fun q => flat q = some (.bool true)) := by
  obtain ⟨h1, h2⟩ := hw m n
  unfold tmTree
  exact tmPart_true ht a h1 h2 (tmPart_true hu b h1 h2 grT_ok)
theorem wlO_ok (m n : W6) : (wlO.ad (wlO.sh (wlO.sh m .up) .down) (wlO.sh (wlO.sh n .up) .down)).1.val = (wlO.sh (wlO.sh m .up) .down).val + (wlO.sh (wlO.sh n .up) .down).val ∧
      (wlO.mu (wlO.sh (wlO.sh m .up) .down) (wlO.sh (wlO.sh n .up) .down)).1.val = (wlO.sh (wlO.sh m .up) .down).val * (wlO.sh (wlO.sh n .up) .down).val := by
  have e : ∀ x, wlO.sh (wlO.sh x .up) .down = shDown (shUp x) := fun _ => rfl
  rw [e, e]
  exact ⟨small_sum (down_lt _) (down_lt _), small_mul (down_lt _) (down_lt _)⟩
end Go.Rq

/- Sums of lists are what is added one by one. -/
namespace Go.Rq
open Go Go.Proofs

theorem allB_iff {α : Type} {c : α → Bool} : ∀ {l : List α}, allB c l = true ↔ ∀ x ∈ l, c x = true
  | [] => by simp [allB]
  | x :: t => by
    simp only [allB, List.mem_cons, forall_eq_or_imp]
    cases hc : c x with
    | true => simp [allB_iff]
    | false => simp

/-- Lists that go alike. -/
inductive Al {A B : Type} (R : A → B → Prop) : List A → List B → Prop
  | nil : Al R [] []
  | cons {a : A} {b : B} {l : List A} {m : List B} (h : R a b) (t : Al R l m) : Al R (a :: l) (b :: m)

theorem Al.len {A B : Type} {R : A → B → Prop} : ∀ {l : List A} {m : List B}, Al R l m → l.length = m.length
  | _, _, .nil => rfl
  | _, _, .cons _ t => by simp [t.len]

theorem Al.map {A B D : Type} {R : A → B → Prop} {S : A → D → Prop} {g : B → D} (h : ∀ a b, R a b → S a (g b)) : ∀ {l : List A} {m : List B}, Al R l m → Al S l (m.map g)
  | _, _, .nil => .nil
  | _, _, .cons a t => .cons (h _ _ a) (Al.map h t)

theorem Al.all {A B : Type} {R : A → B → Prop} {c : A → Bool} {d : B → Bool} (h : ∀ a b, R a b → c a = d b) : ∀ {l : List A} {m : List B}, Al R l m → allB c l = allB d m
  | _, _, .nil => rfl
  | _, _, .cons a t => by
    simp only [allB]
    rw [h _ _ a, Al.all h t]

theorem Al.pick {A B : Type} {R : A → B → Prop} {Q : A → Prop} : ∀ {m : List B}, (∀ b ∈ m, ∃ a, R a b ∧ Q a) → ∃ l : List A, Al R l m ∧ ∀ a ∈ l, Q a
  | [], _ => ⟨[], .nil, fun a h => by simp at h⟩
  | b :: t, h => by
    obtain ⟨a, h1, h2⟩ := h b (by simp)
    obtain ⟨l, h3, h4⟩ := Al.pick (m := t) (fun c hc => h c (by simp [hc]))
    refine ⟨a :: l, .cons h1 h3, fun x hx => ?_⟩
    rcases List.mem_cons.1 hx with rfl | hx
    · exact h2
    · exact h4 x hx

section
variable {A B : Type} {R : A → B → Prop} {t : GO A} {s : GO B}
theorem fold_rel (h : GRel R t s) {f : Fl A} {g : Fl B} (hf : RFl R f g) : ∀ {l : List (Ap A)} {k : List (Ap B)}, Al (RA R) l k → ∀ (m : List W6) {u : Jp A} {v : Jp B}, RJ R u v → RJ R (foldG t f u l m) (foldG s g v k m)
  | _, _, .nil, _, _, _, hu => hu
  | _, _, .cons _ _, [], _, _, hu => hu
  | _, _, .cons ha hl, n :: m, _, _, hu => fold_rel h hf hl m (h.su hf hu (h.ti hf (h.ra hf ha) n))

theorem gaL_rel (h : GRel R t s) {z : A} {z' : B} (hz : R z z') {f : Fl A} {g : Fl B} (hf : RFl R f g) {l : List (Ap A)} {k : List (Ap B)} (hl : Al (RA R) l k) (m : List W6) :
    RA R (gaL t z f l m).1 (gaL s z' g k m).1 ∧ (gaL t z f l m).2 = (gaL s z' g k m).2 := by
  unfold gaL
  rw [hl.len, hl.all (c := t.on f) (d := s.on g) (fun _ _ ha => h.on hf ha)]
  cases Nat.beq k.length m.length with
  | true =>
    rw [cond_true, cond_true]
    cases allB (s.on g) k with
    | true => exact ⟨h.lo hf (fold_rel h hf hl m ⟨hf.one, hf.one, hz⟩), rfl⟩
    | false => exact ⟨⟨hz, hz, rfl⟩, rfl⟩
  | false => exact ⟨⟨hz, hz, rfl⟩, rfl⟩
end

section
variable {K : Type} [Rg K] {iv : K → K} {e : K → K → Bool}

/-- Multiples, one after the other added. -/
def lsum (iv : K → K) (e : K → K → Bool) : Ap K → List (Ap K) → List W6 → Ap K
  | S, [], _ => S
  | S, _ :: _, [] => S
  | S, A :: l, n :: m => lsum iv e (sumA iv e S (nsm iv e A n.val)) l m

theorem lsum_pt (F : Fd K iv e) {b : K} : ∀ {l : List (Ap K)} {m : List W6} {S : Ap K}, Pt b S → (∀ A ∈ l, Pt b A) → Pt b (lsum iv e S l m)
  | [], _, _, hS, _ => hS
  | _ :: _, [], _, hS, _ => hS
  | A :: l, n :: m, S, hS, hl => lsum_pt F (l := l) (m := m) (sum_pt F hS (nsm_pt F (hl A (by simp)) n.val)) (fun B hB => hl B (by simp [hB]))

theorem times_jr (F : Fd K iv e) {f : Fl K} (C : Cv F f.b) (hf : f.one = 1) {A : Ap K} (hA : Pt f.b A) (n : W6) : Jr (timesF iv e f (raiseJ (foK iv) f A) n) (nsm iv e A n.val) := by
  have h0 : Jr (⟨f.one, f.one, 0⟩ : Jp K) (nsm iv e A 0) := .none rfl
  have h1 := jr_run F C f n.bit (jr_raise F hf hA) hA (lenI n).toNat 0 h0
  rw [bitsV_val n (fun i hi => len_bits n hi), Nat.zero_mul, Nat.zero_add] at h1
  unfold timesF
  rw [times_run]
  exact h1

theorem fold_jr (F : Fd K iv e) {f : Fl K} (C : Cv F f.b) (hf : f.one = 1) : ∀ {l : List (Ap K)} {m : List W6} {u : Jp K} {S : Ap K}, Jr u S → Pt f.b S → (∀ A ∈ l, Pt f.b A) → Jr (foldG (gaF iv e) f u l m) (lsum iv e S l m)
  | [], _, _, _, hu, _, _ => hu
  | _ :: _, [], _, _, hu, _, _ => hu
  | A :: l, n :: m, u, S, hu, hS, hl => by
    have hA := hl A (by simp)
    have h1 := jr_sum F C f hu (times_jr F C hf hA n) hS (nsm_pt F hA n.val)
    exact fold_jr F C hf (l := l) (m := m) (u := sumE (foK iv) e f u (timesF iv e f (raiseJ (foK iv) f A) n)) h1 (sum_pt F hS (nsm_pt F hA n.val)) (fun B hB => hl B (by simp [hB]))

theorem gaL_sum (F : Fd K iv e) {f : Fl K} (C : Cv F f.b) (hf : f.one = 1) {l : List (Ap K)} {m : List W6} (hlen : l.length = m.length) (hl : ∀ A ∈ l, Pt f.b A) : gaL (gaF iv e) 0 f l m = (lsum iv e ⟨0, 0, true⟩ l m, 0) := by
  have h : gaL (gaF iv e) 0 f l m = bif Nat.beq l.length m.length then (bif allB (onE (foK iv) e f) l then (lowerE (foK iv) e (foldG (gaF iv e) f ⟨f.one, f.one, 0⟩ l m), 0) else (⟨0, 0, false⟩, 5)) else (⟨0, 0, false⟩, 2) := rfl
  have h0 : Jr (⟨f.one, f.one, 0⟩ : Jp K) ⟨0, 0, true⟩ := .none rfl
  rw [h, hlen, Nat.beq_refl m.length, cond_true, allB_iff.2 (fun A hA => pt_on F (hl A hA)), cond_true, jr_low F (fold_jr F C hf h0 .zero hl)]
end

/-! One by one. -/
section
variable {K V : Type} [Rg K] {iv : K → K} {e : K → K → Bool} {F : Fd K iv e} {b : K}
theorem sw_rel {R : Ap K → Ap V → Prop} {eqP : Ap V → Ap V → Bool} {zp : Ap V} {g : GP V} (h : Br F b R eqP zp g) {mu : Ap V → W6 → Ap V × Int}
    (hmu : ∀ {A : Ap K} {p : Ap V}, R A p → Pt b A → ∀ n : W6, (mu p n).2 = 0 ∧ R (nsm iv e A n.val) (mu p n).1) : ∀ {l : List (Ap K)} {k : List (Ap V)}, Al R l k → (∀ A ∈ l, Pt b A) → ∀ (m : List W6) {S : Ap K} {w : Ap V}, R S w → Pt b S →
    R (lsum iv e S l m) (swF ⟨g.ck, mu, g.ad⟩ w k m)
  | _, _, .nil, _, _, _, _, hw, _ => hw
  | _, _, .cons _ _, _, [], _, _, hw, _ => hw
  | A :: l, _, .cons (m := k) ha hl, hq, n :: m, S, w, hw, hS => by
    have hA := hq A (by simp)
    have h1 := (hmu ha hA n).2
    have h2 := (h.ad hw h1 hS (nsm_pt F hA n.val)).2
    exact sw_rel h hmu hl (fun B hB => hq B (by simp [hB])) m h2 (sum_pt F hS (nsm_pt F hA n.val))
end

/-- What the program gathers, and what is added one by one. -/
structure SumOk {V : Type} (t : CO V) (be : Ap V → Bool) (zn zp : Ap V) (S : List (Ap V) → List W6 → Ap V × Int) : Prop where
  unlike : ∀ l m, Nat.beq l.length m.length = false → S l m = (zn, 2)
  off : ∀ l m, Nat.beq l.length m.length = true → allB t.ck l = false → S l m = (zn, 5)
  on : ∀ l m, Nat.beq l.length m.length = true → allB t.ck l = true → S l m = (swF t zp l m, 0)


theorem smL_unlike {V : Type} {t : GO V} {z : V} {s : SO V} (h0 : s.ou ⟨z, z, false⟩ = ⟨z, z, false⟩) (l : List (Ap V)) (m : List W6) (h : Nat.beq l.length m.length = false) : smL z s (gaL t z) l m = (⟨z, z, false⟩, 2) := by
  unfold smL gaL
  rw [List.length_map, h, cond_false, cond_false, h0]

theorem smL_off {V : Type} {t : GO V} {z : V} {s : SO V} {ck : Ap V → Bool} (h0 : s.ou ⟨z, z, false⟩ = ⟨z, z, false⟩) (hck : ∀ p, ck p = bif s.be p then t.on s.fi (s.inn p) else false) (l : List (Ap V)) (m : List W6) (h : Nat.beq l.length m.length = true)
    (ha : allB ck l = false) : smL z s (gaL t z) l m = (⟨z, z, false⟩, 5) := by
  unfold smL
  rw [h, cond_true]
  cases hb : allB s.be l with
  | false => rfl
  | true =>
    have ho : allB (t.on s.fi) (l.map s.inn) = false := by
      cases ho : allB (t.on s.fi) (l.map s.inn) with
      | false => rfl
      | true =>
        rw [allB_iff] at hb ho
        have : allB ck l = true := allB_iff.2 fun p hp => by
          rw [hck, hb p hp, cond_true]
          exact ho _ (List.mem_map.2 ⟨p, hp, rfl⟩)
        rw [this] at ha
        cases ha
    unfold gaL
    rw [List.length_map, h, cond_true, cond_true, ho, cond_false, h0]

theorem smL_on {V : Type} {t : GO V} {z : V} {s : SO V} {ck : Ap V → Bool} (hck : ∀ p, ck p = bif s.be p then t.on s.fi (s.inn p) else false) (l : List (Ap V)) (m : List W6) (h : Nat.beq l.length m.length = true)
    (ha : allB ck l = true) : smL z s (gaL t z) l m = (s.ou (gaL t z s.fi (l.map s.inn) m).1, (gaL t z s.fi (l.map s.inn) m).2) := by
  have hb : allB s.be l = true := allB_iff.2 fun p hp => by
    have := allB_iff.1 ha p hp
    rw [hck] at this
    cases hb : s.be p with
    | true => rfl
    | false => rw [hb] at this; cases this
  unfold smL
  rw [h, hb, cond_true, cond_true]

section
variable {K : Type} [Rg K] {iv : K → K} {e : K → K → Bool} {M P : K → W6 → Prop} {f : Fl K}
theorem Lk.sums (L : Lk iv e M P f) (hlt : ∀ {x : K} {w : W6}, P x w → w.val < pN) (C : Cv L.F f.b) : SumOk coO1 belowP1 ⟨zeroW, zeroW, false⟩ zeroP1 sumLW := by
  have h0 : suOW.ou ⟨zeroW, zeroW, false⟩ = ⟨zeroW, zeroW, false⟩ := by
    show outP1 ⟨zeroW, zeroW, false⟩ = _
    unfold outP1
    rw [L.n0]
  have hck : ∀ p, coO1.ck p = bif suOW.be p then gaOW.on suOW.fi (suOW.inn p) else false := fun p => by
    show checkP1 p = bif belowP1 p then onE fW eqW fld1 (inP1 p) else false
    unfold checkP1
    rfl
  have hS : sumLW = smL zeroW suOW (gaL gaOW zeroW) := by unfold sumLW gathLW; rfl
  refine ⟨fun l m h => ?_, fun l m h ha => ?_, fun l m h ha => ?_⟩
  · rw [hS]; exact smL_unlike h0 l m h
  · rw [hS]; exact smL_off h0 hck l m h ha
  · rw [hS, smL_on hck l m h ha]
    have B := L.br hlt
    obtain ⟨ps, h1, h2⟩ := Al.pick (R := RA P) (Q := Pt f.b) (m := l) (fun p hp => B.pt (allB_iff.1 ha p hp))
    obtain ⟨k1, k2⟩ := gaL_rel L.ga L.m0 L.fl (h1.map (S := RA M) (g := inP1) (fun _ _ h => L.inn h)) m
    rw [gaL_sum L.F C L.f1 (h1.len.trans (Nat.eq_of_beq_eq_true h)) h2] at k1 k2
    have k3 := L.out k1
    have k4 := sw_rel B (mu := sumP1W) (fun h k n => L.nsm hlt C h k n) h1 h2 m B.zp .zero
    refine Prod.ext ?_ k2.symm
    exact B.inj k3 k4
end
section
variable {K : Type} [Rg K] {iv : K → K} {e : K → K → Bool} {M P : K → D6 → Prop} {f : Fl K}
theorem LkD.sums (L : LkD iv e M P f) (hlt : ∀ {x : K} {w : D6}, P x w → w.a.val < pN ∧ w.b.val < pN) (C : Cv L.F f.b) : SumOk coO2 belowP2 ⟨zero2, zero2, false⟩ zeroP2 sumLD := by
  have h0 : suOD.ou ⟨zero2, zero2, false⟩ = ⟨zero2, zero2, false⟩ := by
    show outP2 ⟨zero2, zero2, false⟩ = _
    exact congrArg Prod.fst L.nn
  have hck : ∀ p, coO2.ck p = bif suOD.be p then gaOD.on suOD.fi (suOD.inn p) else false := fun p => by
    show checkP2 p = bif belowP2 p then onE fD eqD fld2 (inP2 p) else false
    unfold checkP2
    rfl
  have hS : sumLD = smL zero2 suOD (gaL gaOD zero2) := by unfold sumLD gathLD; rfl
  refine ⟨fun l m h => ?_, fun l m h ha => ?_, fun l m h ha => ?_⟩
  · rw [hS]; exact smL_unlike h0 l m h
  · rw [hS]; exact smL_off h0 hck l m h ha
  · rw [hS, smL_on hck l m h ha]
    have B := L.br hlt
    obtain ⟨ps, h1, h2⟩ := Al.pick (R := RA P) (Q := Pt f.b) (m := l) (fun p hp => B.pt (allB_iff.1 ha p hp))
    obtain ⟨k1, k2⟩ := gaL_rel L.ga L.m0 L.fl (h1.map (S := RA M) (g := inP2) (fun _ _ h => L.inn h)) m
    rw [gaL_sum L.F C L.f1 (h1.len.trans (Nat.eq_of_beq_eq_true h)) h2] at k1 k2
    have k3 := L.out k1
    have k4 := sw_rel B (mu := sumP1D) (fun h k n => L.nsm hlt C h k n) h1 h2 m B.zp .zero
    refine Prod.ext ?_ k2.symm
    exact B.inj k3 k4
end

theorem sums1_ok : SumOk coO1 belowP1 ⟨zeroW, zeroW, false⟩ zeroP1 sumLW := by
  obtain ⟨b, L, C⟩ := link1c
  exact L.sums rp_lt C
theorem sums2_ok : SumOk coO2 belowP2 ⟨zero2, zero2, false⟩ zeroP2 sumLD := by
  obtain ⟨b, L, C⟩ := link2c
  exact L.sums (fun h => ⟨rp_lt h.a, rp_lt h.b⟩) C
end Go.Rq

/- The law CurveSums, gone through: what is called left open. -/
namespace Go.Rq
open Go Go.Proofs

/-- What the functions on lists come to, and what they ask of the lists. -/
structure SU where
  ok1 : SA × List AV → SA × List AV → Bool
  g1 : SA × List AV → SA × List AV → Ap W6 × Int
  ok2 : SA × List AV → SA × List AV → Bool
  g2 : SA × List AV → SA × List AV → Ap D6 × Int
  ok3 : SA × List AV → SA × List AV → Bool
  g3 : Ap W6 × Int → SA × List AV → SA × List AV → Bool
  ok4 : SA × List AV → SA × List AV → Bool
  g4 : Ap D6 × Int → SA × List AV → SA × List AV → Bool

def cuT : PureTab := [(55, fn0 kBool true)]
noncomputable def cuE (t : SU) : Env := envH eqsT cuT [(56, slV 0 mc0 kPW t.ok1 (fun _ => t.g1)), (57, slV 0 mc0 kPD t.ok2 (fun _ => t.g2)),
  (58, slV 0 (mc2 aW.agg (kInt .i64)) kBool t.ok3 t.g3), (59, slV 0 (mc2 aD.agg (kInt .i64)) kBool t.ok4 t.g4)]
def cuQ (n : Nat) : Bool := decide ((n : Int) > 6)
def cuTree (t : SU) (x y n : SA × List AV) : Tree AV :=
  .br (cuQ x.1.len) (.need true grT) (.br (cuQ y.1.len) (.need true grT) (.br (cuQ n.1.len) (.need true grT)
    (.need (t.ok1 x n && true) (.need (t.ok2 y n && true) (.br (t.g3 (t.g1 x n) x n) (.need (t.ok4 y n && (t.ok3 x n && true)) (.leaf (kBool.enc (t.g4 (t.g2 y n) y n)))) (.need (t.ok3 x n && true) grF))))))
/-- A slice, and its cells. -/
def rdS (s : SA) (b : List AV) : SA × List AV := match s with
  | .nil => (.nil, [])
  | s => (s, b)
noncomputable def cuWk (t : SU) (s1 s2 s3 : SA) (c1 c2 c3 : Nat) (u1 u2 u3 : TypeId) (b1 b2 b3 : List AV) : Tree AV :=
  afunH PR (cuE t) [15, 19, 24, 45] 10 7 [s1.at 0 c1, s2.at 1 c2, s3.at 2 c3] (hpS 0 s1 u1 b1 ++ (hpS 1 s2 u2 b2 ++ (hpS 2 s3 u3 b3 ++ []))) 3
set_option maxRecDepth 1000000 in
theorem cu_run (t : SU) (n1 n2 n3 c1 c2 c3 : Nat) (u1 u2 u3 : TypeId) (b1 b2 b3 : List AV) :
    [SA.nil, .slc n1].map (fun s1 => [SA.nil, .slc n2].map fun s2 => [SA.nil, .slc n3].map fun s3 => Tree.but [3, 4, 5] 0 (cuWk t s1 s2 s3 c1 c2 c3 u1 u2 u3 b1 b2 b3)) =
    [SA.nil, .slc n1].map (fun s1 => [SA.nil, .slc n2].map fun s2 => [SA.nil, .slc n3].map fun s3 => cuTree t (rdS s1 b1) (rdS s2 b2) (rdS s3 b3)) := by kernel_rfl
theorem cu_walk (t : SU) {s1 s2 s3 : SA} {n1 n2 n3 : Nat} (h1 : s1 ∈ [SA.nil, .slc n1]) (h2 : s2 ∈ [SA.nil, .slc n2]) (h3 : s3 ∈ [SA.nil, .slc n3]) (c1 c2 c3 : Nat) (u1 u2 u3 : TypeId) (b1 b2 b3 : List AV) :
    Tree.but [3, 4, 5] 0 (cuWk t s1 s2 s3 c1 c2 c3 u1 u2 u3 b1 b2 b3) = cuTree t (rdS s1 b1) (rdS s2 b2) (rdS s3 b3) :=
  all_map (all_map (all_map (cu_run t n1 n2 n3 c1 c2 c3 u1 u2 u3 b1 b2 b3) h1) h2) h3

/-! The law holds. -/
theorem ls_true {V : Type} {co : CO V} {be : Ap V → Bool} {zn zp : Ap V} {S : List (Ap V) → List W6 → Ap V × Int} (h : SumOk co be zn zp S) {eqP : Ap V → Ap V → Bool} (hr : ∀ p, eqP p p = true) (l : List (Ap V)) (m : List W6) : lsG eqP zn zp co (S l m) l m = true := by
  unfold lsG
  cases hl : Nat.beq l.length m.length with
  | false => rw [h.unlike l m hl, cond_false, hr]; rfl
  | true =>
    rw [cond_true]
    cases ha : allB co.ck l with
    | false => rw [h.off l m hl ha, cond_false, hr]; rfl
    | true => rw [h.on l m hl ha, cond_true, hr]; rfl

theorem cuTree_true {t : SU} {x y n : SA × List AV} (h1 : cuQ x.1.len = false → cuQ n.1.len = false → t.ok1 x n = true ∧ t.ok3 x n = true ∧ t.g3 (t.g1 x n) x n = true)
    (h2 : cuQ y.1.len = false → cuQ n.1.len = false → t.ok2 y n = true ∧ t.ok4 y n = true ∧ t.g4 (t.g2 y n) y n = true) : (cuTree t x y n).holds (fun q => flat q = some (.bool true)) := by
  unfold cuTree
  refine ⟨fun _ => ⟨rfl, grT_ok⟩, fun hx => ⟨fun _ => ⟨rfl, grT_ok⟩, fun hy => ⟨fun _ => ⟨rfl, grT_ok⟩, fun hn => ?_⟩⟩⟩
  obtain ⟨a1, a2, a3⟩ := h1 hx hn
  obtain ⟨b1, b2, b3⟩ := h2 hy hn
  rw [a1, a2, a3, b1, b2, b3]
  exact ⟨rfl, rfl, fun _ => ⟨rfl, grT_ok⟩, fun h => by cases h⟩

def suO : SU where
  ok1 := okS shA aW c6
  g1 := gS aW c6 (fun (_ : Unit) => sumLW) ()
  ok2 := okS shA aD c6
  g2 := gS aD c6 (fun (_ : Unit) => sumLD) ()
  ok3 := okS shA aW c6
  g3 := gS aW c6 lsFW
  ok4 := okS shA aD c6
  g4 := gS aD c6 lsFD

/-- A list as a slice. -/
structure AtS {α : Type} (C : CC α) (s : SA) (l : List α) : Prop where
  at_ : (s = .nil ∧ l = []) ∨ s = .slc l.length

theorem AtS.mem {α : Type} {C : CC α} {s : SA} {l : List α} (h : AtS C s l) : s ∈ [SA.nil, .slc l.length] := by
  rcases h.at_ with ⟨h, _⟩ | h
  · rw [h]; exact List.mem_cons_self
  · rw [h]; exact List.mem_cons_of_mem _ List.mem_cons_self
theorem AtS.len {α : Type} {C : CC α} {s : SA} {l : List α} (h : AtS C s l) : s.len = l.length := by
  rcases h.at_ with ⟨h, e⟩ | h
  · rw [h, e]; rfl
  · rw [h]; rfl
theorem AtS.rd {α : Type} {C : CC α} {s : SA} {l : List α} (h : AtS C s l) : rdS s (encL C l) = (s, encL C l) := by
  rcases h.at_ with ⟨h, e⟩ | h
  · rw [h, e]; rfl
  · rw [h]; rfl
theorem AtS.dec {α : Type} {C : CC α} (hd : ∀ x, C.dec (C.enc x) = some x) {s : SA} {l : List α} (h : AtS C s l) : decS C (s, encL C l) = some l := by
  unfold decS
  have := decL_enc hd l []
  rw [List.append_nil] at this
  rw [show (s, encL C l).1.len = l.length from h.len]
  exact this
theorem AtS.size {α : Type} {C : CC α} {s : SA} {l : List α} (h : AtS C s l) (hq : cuQ s.len = false) : inSA s sizes = true := by
  have hle : l.length ≤ 6 := by
    rw [h.len] at hq
    have := of_decide_eq_false hq
    omega
  rcases h.at_ with ⟨h, _⟩ | h
  · rw [h]; rfl
  · rw [h]
    match l.length, hle with
    | 0, _ => rfl
    | 1, _ => rfl
    | 2, _ => rfl
    | 3, _ => rfl
    | 4, _ => rfl
    | 5, _ => rfl
    | 6, _ => rfl
    | _ + 7, h => exact absurd h (by omega)

theorem aW_de (x : Ap W6) : aW.dec (aW.enc x) = some x := by kernel_rfl
theorem aD_de (x : Ap D6) : aD.dec (aD.enc x) = some x := by kernel_rfl
theorem c6_de (x : W6) : c6.dec (c6.enc x) = some x := by kernel_rfl

theorem okS_true {α γ : Type} {A : CC α} {C : CC γ} (ha : ∀ x, A.dec (A.enc x) = some x) (hc : ∀ x, C.dec (C.enc x) = some x) {s1 s2 : SA} {l : List α} {m : List γ} (h1 : AtS A s1 l) (h2 : AtS C s2 m) (q1 : cuQ s1.len = false) (q2 : cuQ s2.len = false) :
    okS shA A C (s1, encL A l) (s2, encL C m) = true := by
  unfold okS shA
  rw [h1.dec ha, h2.dec hc]
  simp only [h1.size q1, h2.size q2]
  rfl
theorem gS_eq {α γ δ β : Type} {A : CC α} {C : CC γ} (ha : ∀ x, A.dec (A.enc x) = some x) (hc : ∀ x, C.dec (C.enc x) = some x) {s1 s2 : SA} {l : List α} {m : List γ} (h1 : AtS A s1 l) (h2 : AtS C s2 m) (G : δ → List α → List γ → β) (z : δ) :
    gS A C G z (s1, encL A l) (s2, encL C m) = G z l m := by
  unfold gS
  rw [h1.dec ha, h2.dec hc]
  rfl

theorem suO_true {s1 s2 s3 : SA} {la : List (Ap W6)} {lb : List (Ap D6)} {ln : List W6} (h1 : AtS aW s1 la) (h2 : AtS aD s2 lb) (h3 : AtS c6 s3 ln) :
    (cuTree suO (s1, encL aW la) (s2, encL aD lb) (s3, encL c6 ln)).holds (fun q => flat q = some (.bool true)) := by
  refine cuTree_true (fun q1 q3 => ?_) (fun q2 q3 => ?_)
  · have e := okS_true aW_de c6_de h1 h3 q1 q3
    refine ⟨e, e, ?_⟩
    show gS aW c6 lsFW (gS aW c6 (fun (_ : Unit) => sumLW) () (s1, encL aW la) (s3, encL c6 ln)) (s1, encL aW la) (s3, encL c6 ln) = true
    rw [gS_eq aW_de c6_de h1 h3, gS_eq aW_de c6_de h1 h3]
    exact ls_true sums1_ok (fun p => (eqP13_iff p p).2 rfl) la ln
  · have e := okS_true aD_de c6_de h2 h3 q2 q3
    refine ⟨e, e, ?_⟩
    show gS aD c6 lsFD (gS aD c6 (fun (_ : Unit) => sumLD) () (s2, encL aD lb) (s3, encL c6 ln)) (s2, encL aD lb) (s3, encL c6 ln) = true
    rw [gS_eq aD_de c6_de h2 h3, gS_eq aD_de c6_de h2 h3]
    exact ls_true sums2_ok (fun p => (eqP25_iff p p).2 rfl) lb ln

theorem cuE_eq : [(56, slV 0 mc0 kPW (okS shA aW c6) (gS aW c6 fun _ => sumLW)), (57, slV 0 mc0 kPD (okS shA aD c6) (gS aD c6 fun _ => sumLD)),
  (58, slV 0 (mc2 aW.agg (kInt .i64)) kBool (okS shA aW c6) (gS aW c6 lsFW)), (59, slV 0 (mc2 aD.agg (kInt .i64)) kBool (okS shA aD c6) (gS aD c6 lsFD))] =
  [(56, slV 0 mc0 kPW suO.ok1 (fun _ => suO.g1)), (57, slV 0 mc0 kPD suO.ok2 (fun _ => suO.g2)),
  (58, slV 0 (mc2 aW.agg (kInt .i64)) kBool suO.ok3 suO.g3), (59, slV 0 (mc2 aD.agg (kInt .i64)) kBool suO.ok4 suO.g4)] := rfl
theorem cuE_ok : EnvOk PR (cuE suO) :=
  envH_ok eqsT_ok (TabPOk.cons aw_ok TabPOk.nil) (Eq.subst (motive := TabHOk PR) cuE_eq (TabHOk.cons su_entW suL_okW (TabHOk.cons su_entD suL_okD (TabHOk.cons ls_entW ls_okW (TabHOk.cons ls_entD ls_okD TabHOk.nil)))))

theorem cu_gives {s1 s2 s3 : SA} {la : List (Ap W6)} {lb : List (Ap D6)} {ln : List W6} (h1 : AtS aW s1 la) (h2 : AtS aD s2 lb) (h3 : AtS c6 s3 ln) (c1 c2 c3 : Nat) (u1 u2 u3 : TypeId) :
    (cuWk suO s1 s2 s3 c1 c2 c3 u1 u2 u3 (encL aW la) (encL aD lb) (encL c6 ln)).holds (fun q => flat q = some (.bool true)) :=
  Tree.holds_but (l := [3, 4, 5]) (i := 0) (by
    rw [cu_walk suO h1.mem h2.mem h3.mem, h1.rd, h2.rd, h3.rd]
    exact suO_true h1 h2 h3)

/-- The law, of slices that are handed. -/
theorem cu_calls {w : World} {X1 X2 X3 : Hd} {v1 v2 v3 : Value} {la : List (Ap W6)} {lb : List (Ap D6)} {ln : List W6} (h1 : AtS aW X1.s la) (h2 : AtS aD X2.s lb) (h3 : AtS c6 X3.s ln) (e1 : X1.cs = encL aW la) (e2 : X2.cs = encL aD lb) (e3 : X3.cs = encL c6 ln)
    (k1 : HandS w X1 v1) (k2 : HandS w X2 v2) (k3 : HandS w X3 v3) : Calls PR 7 #[v1, v2, v3] w (fun e w' => e = .returned (.bool true) ∧ RowKit.Below w.heap.size w w') := by
  have hW := hRW (w := w) (l := [X1, X2, X3]) (fun x hx => by
    simp only [List.mem_cons, List.not_mem_nil, or_false] at hx
    rcases hx with rfl | rfl | rfl
    · exact ⟨_, k1⟩
    · exact ⟨_, k2⟩
    · exact ⟨_, k3⟩)
  have hx : Rvs (hRen [X1, X2, X3]) [X1.s.at 0 X1.cap, X2.s.at 1 X2.cap, X3.s.at 2 X3.cap] [v1, v2, v3] :=
    .cons (hRen_at (l := [X1, X2, X3]) (j := 0) rfl k1) (.cons (hRen_at (l := [X1, X2, X3]) (j := 1) rfl k2) (.cons (hRen_at (l := [X1, X2, X3]) (j := 2) rfl k3) .nil))
  have hheap : hHeap 0 [X1, X2, X3] = hpS 0 X1.s X1.t (encL aW la) ++ (hpS 1 X2.s X2.t (encL aD lb) ++ (hpS 2 X3.s X3.t (encL c6 ln) ++ [])) := by
    rw [← e1, ← e2, ← e3]; rfl
  rw [hheap] at hW
  have hg := Tree.holds_bind (cu_gives h1 h2 h3 X1.cap X2.cap X3.cap X1.t X2.t X3.t)
  have := afun_calls cuE_ok mixed (fn := Try.f7) (c := bodyOf PR 7) (by kernel_rfl) (by kernel_rfl) (by kernel_rfl) (tabOk_none _) (K := fun q _ => flat q = some (.bool true)) hg (F := frameOf w) hx hW
    (fun id hid => hRen_none id (by simpa using hid))
  refine Calls.mono this ?_
  rintro e w' ⟨v', q', h', ρ', rfl, hk', hrv, hrw, _⟩
  have := hrv.flat_eq hk'
  subst this
  exact ⟨rfl, hrw.to_below⟩
end Go.Rq
