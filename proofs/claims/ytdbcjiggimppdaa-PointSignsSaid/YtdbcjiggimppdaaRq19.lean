/- The law CurveSecond holds of what the functions come to. -/
import Derived.Test.YtdbcjiggimppdaaRq17
import Derived.Test.YtdbcjiggimppdaaRq18
import Derived.Test.YtdbcjiggimppdaaRq11
import Derived.Test.YtdbcjiggimppdaaRq12
import Derived.Test.YtdbcjiggimppdaaRq15
import Derived.Test.YtdbcjiggimppdaaRq09
namespace Go.Rq
open Go Go.Proofs

/-! The reference's operations on elements of two parts go like a field's. -/
section
variable {K : Type} [Rg K] {iv : K → K} {e : K → K → Bool} {R : K → D6 → Prop} {t : RO}

structure DRel (R : K → D6 → Prop) (iv : K → K) (e : K → K → Bool) (t : RO) : Prop where
  mu : ∀ {x y : K} {a b : D6}, R x a → R y b → R (x * y) (rmul2G t a b)
  ad : ∀ {x y : K} {a b : D6}, R x a → R y b → R (x + y) (radd2G t a b)
  sb : ∀ {x y : K} {a b : D6}, R x a → R y b → R (x - y) (rsub2G t a b)
  ne : ∀ {x : K} {a : D6}, R x a → R (-x) (rneg2G t a)
  iv : ∀ {x : K} {a : D6}, R x a → R (iv x) (rinv2G t a)
  zero : R 0 zeroD
  one : R 1 ⟨numOne, zeroW⟩
  eq : ∀ {x y : K} {a b : D6}, R x a → R y b → e x y = eqD a b
  inj : ∀ {x : K} {a b : D6}, R x a → R x b → a = b

theorem d2_tm (h : DRel R iv e t) {x : K} {a : D6} (p : R x a) : ∀ k : Nat, R (tmK x k) (timesA (radd2G t) a k)
  | 0 => h.zero
  | k + 1 => h.ad (d2_tm h p k) p

theorem trel2 (h : DRel R iv e t) : TRel R false e (thG t) where
  mu := fun {p x y a b} ho ha hb => by
    show R (x * y) (bif p.one then ⟨t.mu t.fp a.a b.a, zeroW⟩ else rmul2G t a b)
    rw [ho]
    exact h.mu ha hb
  tm s ha := d2_tm h ha s.n
  sb ha hb := h.sb ha hb
  zero := h.zero
  eq := fun ha hb => h.eq ha hb

def many2Of (t : RO) : Ap D6 → W6 → Nat → Ap D6 := many2G (twG t (rinv2G t) (thmG t (rmul2G t))) (multOf t)

theorem many2_rel (h : DRel R iv e t) {P : Ap K} {p : Ap D6} (hp : RA R P p) (n : W6) (len : Nat) : RA R (bif P.zero then P else lowK iv e (multK e n.bit ⟨P.x, P.y, 1⟩ (64 * len) noneJ)) (many2Of t p n len) := by
  have hT := trel2 h
  unfold many2Of many2G
  rw [hp.z]
  cases hz : p.zero with
  | true => exact hp
  | false =>
    rw [cond_false, cond_false]
    have hb : TJ R false ⟨P.x, P.y, 1⟩ (thOf2 p) := ⟨hp.x, hp.y, h.one, rfl⟩
    have hm := mult_rel hT hb n (64 * len) (noneT_rel hT (b := false) rfl)
    have hi : ∀ {x : K} {a : D6}, R x a → R (iv x) (bif false then ⟨t.iv t.fp a.a, zeroW⟩ else rinv2G t a) := fun hx => h.iv hx
    obtain ⟨h1, h2, h3⟩ := two_rel hT (r := t) hi hm
    have h1' : (twG t (rinv2G t) (thmG t (rmul2G t)) (multOf t (thOf2 p) n len)).2.2 = !(lowK iv e (multK e n.bit ⟨P.x, P.y, 1⟩ (64 * len) noneJ)).zero := h1
    rw [h1', Bool.not_not]
    cases hl : (lowK iv e (multK e n.bit ⟨P.x, P.y, 1⟩ (64 * len) noneJ)).zero with
    | true =>
      rw [lowK_zero hl]
      exact ⟨h.zero, h.zero, rfl⟩
    | false => exact ⟨h2, h3, hl⟩

def doG (t : RO) : DO := ⟨rmul2G t, radd2G t, rsub2G t, rinv2G t, rneg2G t⟩
theorem doO_eq : doO = doG roO := rfl
theorem rcheck2_rel (h : DRel R iv e t) {f : Fl K} {four : D6} (hf : R f.b four) {P : Ap K} {p : Ap D6} (hp : RA R P p) {bl : W6 → Bool} (h1 : bl p.x.a = true) (h2 : bl p.x.b = true) (h3 : bl p.y.a = true) (h4 : bl p.y.b = true) :
    rcheck2G (doG t) bl (rside2G (doG t) four) p = onE (foK iv) e f P := by
  have hs : eqD ((doG t).mu p.y p.y) (rside2G (doG t) four p.x) = e (P.y * P.y) (P.x * P.x * P.x + f.b) := (h.eq (h.mu hp.y hp.y) (h.ad (h.mu (h.mu hp.x hp.x) hp.x) hf)).symm
  unfold rcheck2G onE
  rw [hp.z, h1, h2, h3, h4, foK_zero, ← h.eq hp.x h.zero, ← h.eq hp.y h.zero, hs]
  rfl

theorem eqP25_iff (a b : Ap D6) : eqP25 a b = true ↔ a = b := by
  obtain ⟨⟨⟨a0, a1, a2, a3, a4, a5⟩, ⟨c0, c1, c2, c3, c4, c5⟩⟩, ⟨⟨a6, a7, a8, a9, a10, a11⟩, ⟨c6, c7, c8, c9, c10, c11⟩⟩, az⟩ := a
  obtain ⟨⟨⟨b0, b1, b2, b3, b4, b5⟩, ⟨d0, d1, d2, d3, d4, d5⟩⟩, ⟨⟨b6, b7, b8, b9, b10, b11⟩, ⟨d6, d7, d8, d9, d10, d11⟩⟩, bz⟩ := b
  simp [eqP25, and_assoc]

theorem ra2_eq (h : DRel R iv e t) {A B : Ap K} {a b : Ap D6} (ha : RA R A a) (hb : RA R B b) : eqP25 a b = eqA e A B := by
  rw [Bool.eq_iff_iff, eqP25_iff]
  unfold eqA
  rw [h.eq ha.x hb.x, h.eq ha.y hb.y, ha.z, hb.z]
  simp only [Bool.and_eq_true, eqD_iff, beq_iff_eq]
  obtain ⟨ax, ay, az⟩ := a
  obtain ⟨bx, bY, bz⟩ := b
  simp

theorem rneg2_rel (h : DRel R iv e t) {A : Ap K} {a : Ap D6} (ha : RA R A a) : RA R (negK A) (rneg2P (doG t) a) := ⟨ha.x, h.ne ha.y, ha.z⟩

theorem rchord2_rel (h : DRel R iv e t) {A B : Ap K} {a b : Ap D6} (ha : RA R A a) (hb : RA R B b) {m : K} {w : D6} (hm : R m w) : RA R (chordK A B m) (rchord2 (doG t) a b w) := by
  have x := h.sb (h.sb (h.mu hm hm) ha.x) hb.x
  exact ⟨x, h.sb (h.mu hm (h.sb ha.x x)) ha.y, rfl⟩

theorem rad2_rel (h : DRel R iv e t) {A B : Ap K} {a b : Ap D6} (ha : RA R A a) (hb : RA R B b) : RA R (sumA iv e A B) (rad2G (doG t) (rneg2P (doG t)) (rslope (doG t)) a b) := by
  unfold sumA rad2G rslope
  rw [ha.z, hb.z, ra2_eq h ha (rneg2_rel h hb), ra2_eq h ha hb]
  cases a.zero
  · cases b.zero
    · cases eqA e A (negK B)
      · cases eqA e A B
        · exact rchord2_rel h ha hb (h.mu (h.sb hb.y ha.y) (h.iv (h.sb hb.x ha.x)))
        · have s := h.mu ha.x ha.x
          exact rchord2_rel h ha hb (h.mu (h.ad (h.ad s s) s) (h.iv (h.ad ha.y ha.y)))
      · exact ⟨h.zero, h.zero, rfl⟩
    · exact ha
  · exact hb

theorem ra2_inj (h : DRel R iv e t) {A : Ap K} {a b : Ap D6} (ha : RA R A a) (hb : RA R A b) : a = b := by
  obtain ⟨ax, ay, az⟩ := a
  obtain ⟨bx, bY, bz⟩ := b
  have h1 := h.inj ha.x hb.x
  have h2 := h.inj ha.y hb.y
  have h3 := ha.z.symm.trans hb.z
  simp at h1 h2 h3
  rw [h1, h2, h3]
end

/-- A field, its elements as the program keeps them (M) and as they are told (P). -/
structure LkD {K : Type} [Rg K] (iv : K → K) (e : K → K → Bool) (M P : K → D6 → Prop) (f : Fl K) : Prop where
  F : Fd K iv e
  rel : FRel M (foK iv) fD e eqD
  m1 : M 1 one2
  m0 : M 0 zero2
  to : ∀ {x : K} {w : D6}, P x w → M x (to2 fW w)
  fr : ∀ {x : K} {w : D6}, M x w → P x (back2 fW w)
  of : ∀ {w : D6}, w.a.val < pN → w.b.val < pN → ∃ x, P x w
  ref : DRel P iv e roO
  f1 : f.one = 1
  fb : P f.b fourD
  mb : M f.b ⟨toW (ofW 4#64), toW (ofW 4#64)⟩

section
variable {K : Type} [Rg K] {iv : K → K} {e : K → K → Bool} {M P : K → D6 → Prop} {f : Fl K}

theorem ra2_of {J : Type} {Q M : J → D6 → Prop} {t : D6 → D6} (ht : ∀ {x : J} {w : D6}, Q x w → M x (t w)) {A : Ap J} {p : Ap D6} (h : RA Q A p) : RA M A ⟨t p.x, t p.y, p.zero⟩ := ⟨ht h.x, ht h.y, h.z⟩
theorem LkD.fl (L : LkD iv e M P f) : RFl M f fld2 := by
  unfold fld2
  exact ⟨by rw [L.f1]; exact L.m1, L.mb⟩
theorem LkD.inn (L : LkD iv e M P f) {A : Ap K} {p : Ap D6} (h : RA P A p) : RA M A (inP2 p) := by
  unfold inP2
  exact ra2_of (Q := P) (M := M) (t := to2 fW) L.to h
theorem LkD.out (L : LkD iv e M P f) {A : Ap K} {p : Ap D6} (h : RA M A p) : RA P A (outP2 p) := by
  unfold outP2
  exact ra2_of (Q := M) (M := P) (t := back2 fW) L.fr h

theorem LkD.times (L : LkD iv e M P f) {f : Fl K} {g : Fl D6} {p : Jp K} {q : Jp D6} (hf : RFl M f g) (hp : RJ M p q) (n : W6) : RJ M (timesF iv e f p n) (timesD g q n) := by
  unfold timesF timesD
  exact times_rel L.rel hf hp n _ ⟨hf.one, hf.one, L.m0⟩
theorem LkD.ga (L : LkD iv e M P f) : GRel M (gaF iv e) gaOD := g_rel L.rel L.times

theorem below2_parts {p : Ap D6} (h : belowP2 p = true) : belowI p.x.a = true ∧ belowI p.x.b = true ∧ belowI p.y.a = true ∧ belowI p.y.b = true := by
  unfold belowP2 at h
  cases h1 : belowI p.x.a <;> cases h2 : belowI p.x.b <;> cases h3 : belowI p.y.a <;> rw [h1, h2, h3] at h <;> simp_all
theorem LkD.below (L : LkD iv e M P f) {p : Ap D6} (h : belowP2 p = true) : ∃ A : Ap K, RA P A p := by
  obtain ⟨h1, h2, h3, h4⟩ := below2_parts h
  rw [belowI_nat] at h1 h2 h3 h4
  obtain ⟨x, hx⟩ := L.of (of_decide_eq_true h1) (of_decide_eq_true h2)
  obtain ⟨y, hy⟩ := L.of (of_decide_eq_true h3) (of_decide_eq_true h4)
  exact ⟨⟨x, y, p.zero⟩, hx, hy, rfl⟩

theorem zero_a : zero2.a = zeroW := rfl
theorem zero_b : zero2.b = zeroW := rfl
theorem LkD.check (L : LkD iv e M P f) (p : Ap D6) : checkP2 p = rcheck2 p := by
  unfold checkP2
  cases hb : belowP2 p with
  | true =>
    obtain ⟨A, hP⟩ := L.below hb
    obtain ⟨h1, h2, h3, h4⟩ := below2_parts hb
    rw [cond_true, ← on_rel L.rel L.fl (L.inn hP)]
    exact (rcheck2_rel L.ref L.fb hP h1 h2 h3 h4).symm
  | false =>
    rw [cond_false]
    unfold rcheck2 rcheck2G
    unfold belowP2 at hb
    cases hz : p.zero with
    | true =>
      rw [cond_true]
      cases hx : eqD p.x zeroD with
      | false => rfl
      | true =>
        cases hy : eqD p.y zeroD with
        | false => rfl
        | true =>
          rw [(eqD_iff _ _).1 hx, (eqD_iff _ _).1 hy] at hb
          unfold zeroD at hb
          rw [zero_below] at hb
          cases hb
    | false =>
      rw [cond_false]
      cases h1 : belowI p.x.a with
      | false => rfl
      | true =>
        cases h2 : belowI p.x.b with
        | false => rfl
        | true =>
          cases h3 : belowI p.y.a with
          | false => rfl
          | true =>
            rw [h1, h2, h3, cond_true, cond_true, cond_true] at hb
            rw [hb]; rfl

/-- What is a point. -/
theorem LkD.point (L : LkD iv e M P f) {p : Ap D6} (h : rcheck2 p = true) : belowP2 p = true ∧ ∃ A : Ap K, RA P A p ∧ onE (foK iv) e f A = true := by
  rw [← L.check] at h
  unfold checkP2 at h
  cases hb : belowP2 p with
  | false => rw [hb] at h; cases h
  | true =>
    obtain ⟨A, hP⟩ := L.below hb
    rw [hb, cond_true, ← on_rel L.rel L.fl (L.inn hP)] at h
    exact ⟨rfl, A, hP, h⟩
theorem LkD.on (L : LkD iv e M P f) {p : Ap D6} (h : rcheck2 p = true) : onE fD eqD fld2 (inP2 p) = true := by
  obtain ⟨-, A, hP, hon⟩ := L.point h
  rw [← on_rel L.rel L.fl (L.inn hP)]
  exact hon
theorem LkD.off (L : LkD iv e M P f) {p : Ap D6} (h : rcheck2 p = false) (hb : belowP2 p = true) : onE fD eqD fld2 (inP2 p) = false := by
  rw [← L.check] at h
  unfold checkP2 at h
  rw [hb, cond_true] at h
  exact h

theorem LkD.rmul (L : LkD iv e M P f) {A : Ap K} {p : Ap D6} (hp : RA P A p) (n : W6) : RA P (bif A.zero then A else lowK iv e (multK e n.bit ⟨A.x, A.y, 1⟩ (64 * wdL rlenI n) noneJ)) (rml2 p n) := many2_rel L.ref hp n (wdL rlenI n)

theorem LkD.n0 (L : LkD iv e M P f) : back2 fW zero2 = zero2 := L.ref.inj (L.fr L.m0) (L.ref.zero : P 0 zero2)
theorem LkD.nn (L : LkD iv e M P f) : ((outP2 ⟨zero2, zero2, false⟩, 5) : Ap D6 × Int) = (nonePD, 5) := by
  unfold outP2
  rw [L.n0]
  rfl

theorem sum2_def (p : Ap D6) (n : W6) : sumP1D p n = bif belowP2 p then (outP2 (ga1 gaOD zero2 fld2 (inP2 p) n).1, (ga1 gaOD zero2 fld2 (inP2 p) n).2) else (nonePD, 5) := by unfold sumP1D sm1 suOD gath1D; rfl
theorem ga1D_def (p : Ap D6) (n : W6) (h : onE fD eqD fld2 p = false) : ga1 gaOD zero2 fld2 p n = (⟨zero2, zero2, false⟩, 5) := by
  have hg : ga1 gaOD zero2 fld2 p n = bif onE fD eqD fld2 p then (gaOD.lo fld2 (gaOD.su fld2 ⟨fld2.one, fld2.one, zero2⟩ (gaOD.ti fld2 (gaOD.ra fld2 p) n)), 0) else (⟨zero2, zero2, false⟩, 5) := rfl
  rw [hg, h]; rfl
theorem add2_def (p q : Ap D6) : addP2 p q = bif belowP2 p then (bif belowP2 q then (outP2 (ga2 gaOD zero2 fld2 (inP2 p, inP2 q) unitN).1, (ga2 gaOD zero2 fld2 (inP2 p, inP2 q) unitN).2) else (nonePD, 5)) else (nonePD, 5) := by
  unfold addP2 sumP2D sm2 suOD gath2D; rfl
theorem ga2D_defA (p q : Ap D6) (n : W6 × W6) (h : onE fD eqD fld2 p = false) : ga2 gaOD zero2 fld2 (p, q) n = (⟨zero2, zero2, false⟩, 5) := by
  have hg : ga2 gaOD zero2 fld2 (p, q) n = bif onE fD eqD fld2 p then (bif onE fD eqD fld2 q then
      (gaOD.lo fld2 (gaOD.su fld2 (gaOD.su fld2 ⟨fld2.one, fld2.one, zero2⟩ (gaOD.ti fld2 (gaOD.ra fld2 p) n.1)) (gaOD.ti fld2 (gaOD.ra fld2 q) n.2)), 0) else (⟨zero2, zero2, false⟩, 5)) else (⟨zero2, zero2, false⟩, 5) := rfl
  rw [hg, h]; rfl
theorem ga2D_defB (p q : Ap D6) (n : W6 × W6) (h : onE fD eqD fld2 q = false) : ga2 gaOD zero2 fld2 (p, q) n = (⟨zero2, zero2, false⟩, 5) := by
  have hg : ga2 gaOD zero2 fld2 (p, q) n = bif onE fD eqD fld2 p then (bif onE fD eqD fld2 q then
      (gaOD.lo fld2 (gaOD.su fld2 (gaOD.su fld2 ⟨fld2.one, fld2.one, zero2⟩ (gaOD.ti fld2 (gaOD.ra fld2 p) n.1)) (gaOD.ti fld2 (gaOD.ra fld2 q) n.2)), 0) else (⟨zero2, zero2, false⟩, 5)) else (⟨zero2, zero2, false⟩, 5) := rfl
  rw [hg, h]
  cases onE fD eqD fld2 p <;> rfl

theorem LkD.mul (L : LkD iv e M P f) (p : Ap D6) (n : W6) : sumP1D p n = bif rcheck2 p then (rml2 p n, 0) else (nonePD, 5) := by
  rw [sum2_def]
  cases hc : rcheck2 p with
  | true =>
    obtain ⟨hb, A, hP, hon⟩ := L.point hc
    obtain ⟨h1, h2⟩ := ga1_rel L.ga L.m0 L.fl (L.inn hP) n
    have h3 := ga1_low L.F L.f1 (on_none L.F hon) hon n (wdL_le n).2
    rw [h3] at h1 h2
    rw [hb, cond_true, cond_true, ← h2, ra2_inj L.ref (L.out h1) (L.rmul hP n)]
  | false =>
    rw [cond_false]
    cases hb : belowP2 p with
    | false => rfl
    | true =>
      rw [cond_true, ga1D_def _ n (L.off hc hb)]
      exact L.nn

theorem LkD.add (L : LkD iv e M P f) (p q : Ap D6) : addP2 p q = bif rcheck2 p then (bif rcheck2 q then (rad2 p q, 0) else (Go.Rq.nonePD, 5)) else (Go.Rq.nonePD, 5) := by
  rw [add2_def]
  cases hc : rcheck2 p with
  | false =>
    rw [cond_false]
    cases hb : belowP2 p with
    | false => rfl
    | true =>
      cases hb2 : belowP2 q with
      | false => rfl
      | true =>
        rw [cond_true, cond_true, ga2D_defA _ _ _ (L.off hc hb)]
        exact L.nn
  | true =>
    rw [cond_true, (L.point hc).1, cond_true]
    cases hd : rcheck2 q with
    | false =>
      rw [cond_false]
      cases hb2 : belowP2 q with
      | false => rfl
      | true =>
        rw [cond_true, ga2D_defB _ _ _ (L.off hd hb2)]
        exact L.nn
    | true =>
      rw [cond_true, (L.point hd).1, cond_true]
      obtain ⟨-, A, hP, hon⟩ := L.point hc
      obtain ⟨-, B, hQ, hoq⟩ := L.point hd
      obtain ⟨h1, h2⟩ := ga2_rel L.ga L.m0 L.fl (x := (A, B)) (y := (inP2 p, inP2 q)) (L.inn hP) (L.inn hQ) unitN
      have h3 : ga2 (gaF iv e) 0 f (A, B) unitN = (sumA iv e A B, 0) := ga2_low L.F L.f1 (on_none L.F hon) (on_none L.F hoq) hon hoq
      rw [h3] at h1 h2
      have h4 : RA P (sumA iv e A B) (rad2 p q) := rad2_rel L.ref hP hQ
      rw [← h2, ra2_inj L.ref (L.out h1) h4]

theorem LkD.neg (L : LkD iv e M P f) (p : Ap D6) : negP2 p = bif rcheck2 p then (rneg2P doO p, 0) else (Go.Rq.nonePD, 5) := by
  unfold negP2
  rw [L.check]
  cases hc : rcheck2 p with
  | false => rw [Bool.not_false, cond_true, cond_false]; rfl
  | true =>
    obtain ⟨-, A, hP, -⟩ := L.point hc
    have h1 := L.out (neg_rel L.rel (L.inn hP))
    have h2 : negE (foK iv) A = negK A := by
      unfold negE negK
      rw [foK_zero, foK_sub]
      congr 1
      rw [Rg.sub_eq]
      exact rg_zero_add _
    rw [h2] at h1
    rw [ra2_inj L.ref h1 (rneg2_rel L.ref hP), Bool.not_true, cond_false, cond_true, doO_eq]

theorem rin2_def (p : Ap D6) : rin2 p = bif rcheck2 p then (rml2 p orderW).zero else false := by unfold rin2 rin2G; rfl
theorem inGroup2_def (p : Ap D6) : inGroup2 p = bif belowP2 p then (bif onE fD eqD fld2 (inP2 p) then (lowerE fD eqD (timesD fld2 (raiseJ fD fld2 (inP2 p)) orderW)).zero else false) else false := by
  unfold inGroup2 inED inGD lowFD; rfl
theorem LkD.ing (L : LkD iv e M P f) (p : Ap D6) : inGroup2 p = bif rcheck2 p then rin2 p else false := by
  rw [inGroup2_def, rin2_def]
  cases hc : rcheck2 p with
  | true =>
    obtain ⟨hb, A, hP, hon⟩ := L.point hc
    have h1 := lower_rel L.rel (L.times L.fl (raise_rel L.rel L.fl (L.inn hP)) orderW)
    rw [times_low L.F L.f1 (on_none L.F hon) orderW (wdL_le orderW).2] at h1
    rw [hb, cond_true, L.on hc, cond_true, cond_true, cond_true, ← h1.z, (L.rmul hP orderW).z]
  | false =>
    rw [cond_false]
    cases hb : belowP2 p with
    | false => rfl
    | true =>
      rw [L.off hc hb]; rfl

theorem gen2_eq : gen2P = rgen2P := by
  unfold gen2P rgen2P
  exact ap_eq (by decide +kernel) (by decide +kernel)

def loO2 : LO D6 := ⟨rcheck2, checkP2, rin2, inGroup2, rgen2P, gen2P, rneg2P doO, negP2, rad2, addP2, rml2, sumP1D, twoLG⟩
theorem LkD.law (L : LkD iv e M P f) : LOk eqP25 Go.Rq.nonePD loO2 where
  on _ _ _ _ := rfl
  refl p := (eqP25_iff p p).2 rfl
  ck p := L.check p
  ig p := L.ing p
  ge := gen2_eq
  ne p := L.neg p
  ad p q := L.add p q
  mu p n := L.mul p n
end

/-! The second field. -/
section
variable {K : Type} [Rg K] {iv : K → K} {e : K → K → Bool} {R : K → W6 → Prop} {t : RO}

theorem drel_of (h : RRel R iv e t) : DRel (RD R) (ivD iv) (beqA e) t where
  mu := fun p q => ⟨h.sb (h.mu p.a q.a) (h.mu p.b q.b), h.ad (h.mu p.a q.b) (h.mu p.b q.a)⟩
  ad := fun p q => ⟨h.ad p.a q.a, h.ad p.b q.b⟩
  sb := fun {x y a b} p q => by
    have e1 := h.ad p.a (h.ne q.a)
    have e2 := h.ad p.b (h.ne q.b)
    rw [← Rg.sub_eq x.a y.a] at e1
    rw [← Rg.sub_eq x.b y.b] at e2
    exact ⟨e1, e2⟩
  ne := fun p => ⟨h.ne p.a, h.ne p.b⟩
  iv := fun p => by
    have n := h.iv (h.ad (h.mu p.a p.a) (h.mu p.b p.b))
    exact ⟨h.mu p.a n, h.ne (h.mu p.b n)⟩
  zero := by rw [dn_zero]; exact ⟨h.zero, h.zero⟩
  one := by rw [dn_one]; exact ⟨h.one, h.zero⟩
  eq := fun {x y a b} p q => by
    rw [eqW_D, ← h.eq p.a q.a, ← h.eq p.b q.b]; rfl
  inj := fun {x a b} p q => by
    obtain ⟨aa, ab⟩ := a
    obtain ⟨ba, bb⟩ := b
    have e1 := h.inj p.a q.a
    have e2 := h.inj p.b q.b
    simp at e1 e2
    rw [e1, e2]

end

theorem pair_to {J : Type} {Q M : J → W6 → Prop} {o : W6 → W6} (h : ∀ {x : J} {w : W6}, Q x w → M x (o w)) {x : DN J} {w : D6} (p : RD Q x w) : RD M x ⟨o w.a, o w.b⟩ := ⟨h p.a, h p.b⟩
theorem to2_eq (w : D6) : to2 fW w = ⟨toW w.a, toW w.b⟩ := by
  unfold to2
  rw [fW_to]
theorem back2_fW (w : D6) : back2 fW w = ⟨fromW w.a, fromW w.b⟩ := by
  unfold back2
  rw [fW_back]

theorem link2 : ∃ b : DN F1, LkD (ivD iv1) (beqA eq1) (RD RM) (RD RP) ⟨1, b⟩ := by
  obtain ⟨b, hb⟩ := rp_of four_lt
  have hm := rm_to hb
  refine ⟨⟨b, b⟩, fd2, relPairs relM, ?_, ?_, fun {x w} h => ?_, fun {x w} h => ?_, fun {w} h1 h2 => ?_, drel_of rrel1, rfl, ⟨hb, hb⟩, ⟨hm, hm⟩⟩
  · rw [dn_one]; exact ⟨rm_one, rm_zero⟩
  · rw [dn_zero]; exact ⟨rm_zero, rm_zero⟩
  · rw [to2_eq]; exact pair_to (Q := RP) (M := RM) (o := toW) rm_to h
  · rw [back2_fW]; exact pair_to (Q := RM) (M := RP) (o := fromW) rp_from h
  · obtain ⟨x, hx⟩ := rp_of h1
    obtain ⟨y, hy⟩ := rp_of h2
    exact ⟨⟨x, y⟩, hx, hy⟩
theorem loO2_ok : LOk eqP25 nonePD loO2 := by
  obtain ⟨b, L⟩ := link2
  exact L.law
end Go.Rq

/- The laws CurveGroup1 and CurveGroup2 hold of what the functions come to. -/
namespace Go.Rq
open Go Go.Proofs

/-! From the field's points to the program's. -/
section
variable {K V : Type} [Rg K] {iv : K → K} {e : K → K → Bool} {F : Fd K iv e} {b : K}

theorem pt_on (F : Fd K iv e) {f : Fl K} {A : Ap K} (h : Pt f.b A) : onE (foK iv) e f A = true := by
  unfold onE
  cases h with
  | zero =>
    show (bif e (0 : K) 0 then e (0 : K) 0 else false) = true
    rw [F.refl]; rfl
  | of h =>
    rename_i x y
    show e (y * y) (x * x * x + f.b) = true
    exact F.eq.2 h
theorem on_pt (F : Fd K iv e) {f : Fl K} {A : Ap K} (h : onE (foK iv) e f A = true) : Pt f.b A := by
  cases hz : A.zero with
  | true => rw [on_none F h hz]; exact .zero
  | false =>
    unfold onE at h
    rw [hz, cond_false] at h
    have h := F.eq.1 h
    obtain ⟨x, y, z⟩ := A
    simp only at hz
    subst hz
    exact .of h

/-- What the program answers of points that stand for the field's. -/
structure Br (F : Fd K iv e) (b : K) (R : Ap K → Ap V → Prop) (eqP : Ap V → Ap V → Bool) (zp : Ap V) (t : GP V) : Prop where
  pt : ∀ {p : Ap V}, t.ck p = true → ∃ A, R A p ∧ Pt b A
  ck : ∀ {A : Ap K} {p : Ap V}, R A p → Pt b A → t.ck p = true
  ad : ∀ {A B : Ap K} {p q : Ap V}, R A p → R B q → Pt b A → Pt b B → (t.ad p q).2 = 0 ∧ R (sumA iv e A B) (t.ad p q).1
  ne : ∀ {A : Ap K} {p : Ap V}, R A p → Pt b A → (t.ne p).2 = 0 ∧ R (negK A) (t.ne p).1
  zp : R ⟨0, 0, true⟩ zp
  inj : ∀ {A : Ap K} {p q : Ap V}, R A p → R A q → p = q
  refl : ∀ p, eqP p p = true

theorem Br.gp {R : Ap K → Ap V → Prop} {eqP : Ap V → Ap V → Bool} {zp : Ap V} {t : GP V} (h : Br F b R eqP zp t) (C : Cv F b) : GPOk eqP zp t where
  refl := h.refl
  ad p q hp hq := by
    obtain ⟨A, a1, a2⟩ := h.pt hp
    obtain ⟨B, b1, b2⟩ := h.pt hq
    obtain ⟨k1, k2⟩ := h.ad a1 b1 a2 b2
    exact ⟨k1, h.ck k2 (sum_pt F a2 b2)⟩
  ne p hp := by
    obtain ⟨A, a1, a2⟩ := h.pt hp
    obtain ⟨k1, k2⟩ := h.ne a1 a2
    exact ⟨k1, h.ck k2 (neg_pt a2)⟩
  zc := h.ck h.zp .zero
  comm p q hp hq := by
    obtain ⟨A, a1, a2⟩ := h.pt hp
    obtain ⟨B, b1, b2⟩ := h.pt hq
    have k := (h.ad b1 a1 b2 a2).2
    rw [sum_comm F b2 a2] at k
    exact h.inj (h.ad a1 b1 a2 b2).2 k
  assoc p q r hp hq hr := by
    obtain ⟨A, a1, a2⟩ := h.pt hp
    obtain ⟨B, b1, b2⟩ := h.pt hq
    obtain ⟨D, d1, d2⟩ := h.pt hr
    have k1 := (h.ad (h.ad a1 b1 a2 b2).2 d1 (sum_pt F a2 b2) d2).2
    have k2 := (h.ad a1 (h.ad b1 d1 b2 d2).2 a2 (sum_pt F b2 d2)).2
    rw [sum_assoc F C a2 b2 d2] at k1
    exact h.inj k1 k2
  neg p hp := by
    obtain ⟨A, a1, a2⟩ := h.pt hp
    have k := (h.ad a1 (h.ne a1 a2).2 a2 (neg_pt a2)).2
    rw [sum_neg F a2] at k
    exact h.inj k h.zp
  zero p hp := by
    obtain ⟨A, a1, a2⟩ := h.pt hp
    have k := (h.ad a1 h.zp a2 .zero).2
    rw [a2.add0] at k
    exact h.inj k a1
end

def gpO1 : GP W6 := ⟨checkP1, addP1, negP1⟩
def gpO2 : GP D6 := ⟨checkP2, addP2, negP2⟩

section
variable {K : Type} [Rg K] {iv : K → K} {e : K → K → Bool} {M P : K → W6 → Prop} {f : Fl K}

theorem Lk.ckPt (L : Lk iv e M P f) (hlt : ∀ {x : K} {w : W6}, P x w → w.val < pN) {A : Ap K} {p : Ap W6} (h : RA P A p) (hA : Pt f.b A) : checkP1 p = true := by
  have hb : belowP1 p = true := by
    unfold belowP1
    rw [belowI_nat, belowI_nat, decide_eq_true (hlt h.x), decide_eq_true (hlt h.y)]
    rfl
  unfold checkP1
  rw [hb, cond_true, ← on_rel L.rel L.fl (L.inn h)]
  exact pt_on L.F hA

theorem Lk.br (L : Lk iv e M P f) (hlt : ∀ {x : K} {w : W6}, P x w → w.val < pN) : Br L.F f.b (RA P) eqP13 zeroP1 gpO1 where
  pt := fun {p} h => by
    have h' : rcheck1 p = true := by rw [← L.check]; exact h
    obtain ⟨-, A, hP, hon⟩ := L.point h'
    exact ⟨A, hP, on_pt L.F hon⟩
  ck h hA := L.ckPt hlt h hA
  ad := fun {A B p q} ha hb a2 b2 => by
    have c1 : rcheck1 p = true := by rw [← L.check]; exact L.ckPt hlt ha a2
    have c2 : rcheck1 q = true := by rw [← L.check]; exact L.ckPt hlt hb b2
    have h4 : RA P (sumA iv e A B) (radd1 p q) := radd_rel L.ref ha hb
    have h5 : addP1 p q = (radd1 p q, 0) := by rw [L.add, c1, c2]; rfl
    show (addP1 p q).2 = 0 ∧ RA P (sumA iv e A B) (addP1 p q).1
    rw [h5]
    exact ⟨rfl, h4⟩
  ne := fun {A p} ha a2 => by
    have c1 : rcheck1 p = true := by rw [← L.check]; exact L.ckPt hlt ha a2
    have h4 := rneg_rel L.ref ha
    have h5 : negP1 p = (rneg1G roO p, 0) := by rw [L.neg, c1]; rfl
    show (negP1 p).2 = 0 ∧ RA P (negK A) (negP1 p).1
    rw [h5]
    exact ⟨rfl, h4⟩
  zp := ⟨L.ref.zero, L.ref.zero, rfl⟩
  inj h k := ra_inj L.ref h k
  refl p := (eqP13_iff p p).2 rfl
end

section
variable {K : Type} [Rg K] {iv : K → K} {e : K → K → Bool} {M P : K → D6 → Prop} {f : Fl K}

theorem LkD.ckPt (L : LkD iv e M P f) (hlt : ∀ {x : K} {w : D6}, P x w → w.a.val < pN ∧ w.b.val < pN) {A : Ap K} {p : Ap D6} (h : RA P A p) (hA : Pt f.b A) : checkP2 p = true := by
  have hb : belowP2 p = true := by
    unfold belowP2
    obtain ⟨h1, h2⟩ := hlt h.x
    obtain ⟨h3, h4⟩ := hlt h.y
    rw [belowI_nat, belowI_nat, belowI_nat, belowI_nat, decide_eq_true h1, decide_eq_true h2, decide_eq_true h3, decide_eq_true h4]
    rfl
  unfold checkP2
  rw [hb, cond_true, ← on_rel L.rel L.fl (L.inn h)]
  exact pt_on L.F hA

theorem LkD.br (L : LkD iv e M P f) (hlt : ∀ {x : K} {w : D6}, P x w → w.a.val < pN ∧ w.b.val < pN) : Br L.F f.b (RA P) eqP25 zeroP2 gpO2 where
  pt := fun {p} h => by
    have h' : rcheck2 p = true := by rw [← L.check]; exact h
    obtain ⟨-, A, hP, hon⟩ := L.point h'
    exact ⟨A, hP, on_pt L.F hon⟩
  ck h hA := L.ckPt hlt h hA
  ad := fun {A B p q} ha hb a2 b2 => by
    have c1 : rcheck2 p = true := by rw [← L.check]; exact L.ckPt hlt ha a2
    have c2 : rcheck2 q = true := by rw [← L.check]; exact L.ckPt hlt hb b2
    have h4 : RA P (sumA iv e A B) (rad2 p q) := rad2_rel L.ref ha hb
    have h5 : addP2 p q = (rad2 p q, 0) := by rw [L.add, c1, c2]; rfl
    show (addP2 p q).2 = 0 ∧ RA P (sumA iv e A B) (addP2 p q).1
    rw [h5]
    exact ⟨rfl, h4⟩
  ne := fun {A p} ha a2 => by
    have c1 : rcheck2 p = true := by rw [← L.check]; exact L.ckPt hlt ha a2
    have h4 := rneg2_rel L.ref ha
    have h5 : negP2 p = (rneg2P doO p, 0) := by rw [L.neg, c1]; rfl
    show (negP2 p).2 = 0 ∧ RA P (negK A) (negP2 p).1
    rw [h5]
    exact ⟨rfl, h4⟩
  zp := ⟨L.ref.zero, L.ref.zero, rfl⟩
  inj h k := ra2_inj L.ref h k
  refl p := (eqP25_iff p p).2 rfl
end

theorem four_rv {b : F1} (hb : RP b (ofW 4#64)) : RV (p := pN) b 4 := ⟨by rw [← hb.eq]; exact four_val.symm⟩
theorem link1c : ∃ b : F1, Lk iv1 eq1 RM RP ⟨1, b⟩ ∧ Cv fd1 b := by
  obtain ⟨b, hb⟩ := rp_of four_lt
  exact ⟨b, ⟨fd1, relM, rm_one, rm_zero, rm_to, rp_from, rp_of, rrel1, rfl, hb⟩, cv1 (four_rv hb)⟩
theorem link2c : ∃ b : DN F1, LkD (ivD iv1) (beqA eq1) (RD RM) (RD RP) ⟨1, b⟩ ∧ Cv fd2 b := by
  obtain ⟨b, hb⟩ := rp_of four_lt
  have hm := rm_to hb
  refine ⟨⟨b, b⟩, ⟨fd2, relPairs relM, ?_, ?_, fun {x w} h => ?_, fun {x w} h => ?_, fun {w} h1 h2 => ?_, drel_of rrel1, rfl, ⟨hb, hb⟩, ⟨hm, hm⟩⟩, cv2 (four_rv hb)⟩
  · rw [dn_one]; exact ⟨rm_one, rm_zero⟩
  · rw [dn_zero]; exact ⟨rm_zero, rm_zero⟩
  · rw [to2_eq]; exact pair_to (Q := RP) (M := RM) (o := toW) rm_to h
  · rw [back2_fW]; exact pair_to (Q := RM) (M := RP) (o := fromW) rp_from h
  · obtain ⟨x, hx⟩ := rp_of h1
    obtain ⟨y, hy⟩ := rp_of h2
    exact ⟨⟨x, y⟩, hx, hy⟩
theorem gpO1_ok : GPOk eqP13 zeroP1 gpO1 := by
  obtain ⟨b, L, C⟩ := link1c
  exact (L.br rp_lt).gp C
theorem gpO2_ok : GPOk eqP25 zeroP2 gpO2 := by
  obtain ⟨b, L, C⟩ := link2c
  exact (L.br (fun h => ⟨rp_lt h.a, rp_lt h.b⟩)).gp C
end Go.Rq

/- The law PointSigns holds of what the functions come to. -/
namespace Go.Rq
open Go Go.Proofs

theorem sym_step {x y : Nat} {r r' : Int} (h : r > 0 ↔ r' < 0) : (if x < y then -1 else if y < x then 1 else r : Int) > 0 ↔ (if y < x then -1 else if x < y then 1 else r' : Int) < 0 := by
  by_cases h1 : x < y
  · have h2 : ¬ y < x := by omega
    simp [h1, h2]
  · by_cases h2 : y < x
    · simp [h1, h2]
    · simpa [h1, h2] using h
theorem cmW_gt (a b : W6) : cmW a b > 0 ↔ b.val < a.val := by
  rw [← cmW_nat b a, cmW_ite, cmW_ite]
  exact sym_step (sym_step (sym_step (sym_step (sym_step (sym_step (by omega))))))
theorem half_val : (shr1 primeW).val = (pN - 1) / 2 := by decide +kernel
theorem above_nat (x : W6) : aboveW x = decide ((pN - 1) / 2 < x.val) := by
  have h := cmW_gt x (shr1 primeW)
  rw [half_val] at h
  unfold aboveW
  rw [show chainV (cmpL x (shr1 primeW)) 0 = cmW x (shr1 primeW) from rfl]
  exact decide_eq_decide.2 h

/-- Of a number and the negated one just one is above. -/
theorem above_neg {y z : W6} (hy : y.val < pN) (h0 : y.val ≠ 0) (hz : z.val = (pN - y.val) % pN) : aboveW z = !aboveW y := by
  rw [above_nat, above_nat, hz, Nat.mod_eq_of_lt (by omega), ← decide_not]
  apply decide_eq_decide.2
  have hp : pN % 2 = 1 := by decide +kernel
  omega

/-- A byte whose flags differ in one. -/
theorem flag_xor (u : Bool) (n : Fin 32) : xor8 (flag false u (n.val : Nat)) (flag false (!u) (n.val : Nat)) = 32 := by
  revert n u
  decide +kernel
theorem top_byte {x : W6} (h : x.val < pN) : ∃ n : Fin 32, byW x 0 = ((n.val : Nat) : Int) := by
  have hw : x.w5.toNat < 2305843009213693952 := by
    obtain ⟨a0, a1, a2, a3, a4, a5⟩ := x
    have hp : pN < 4925250774549309901534880012517951725634967408808180833493536675530715221437151326426783281860614455100828498788352 := by decide +kernel
    simp only [W6.val] at h
    show a5.toNat < 2305843009213693952
    omega
  have h1 : (x.w5 >>> 56).toNat < 32 := by
    rw [BitVec.toNat_ushiftRight, Nat.shiftRight_eq_div_pow]
    show x.w5.toNat / 72057594037927936 < 32
    omega
  refine ⟨⟨(x.w5 >>> 56).toNat, h1⟩, ?_⟩
  show IntKind.u8.wrap (Int.ofNat (x.w5 >>> 56).toNat) = (((x.w5 >>> 56).toNat : Nat) : Int)
  generalize (x.w5 >>> 56).toNat = n at h1
  show ((n : Nat) : Int) % ((2 ^ 8 : Nat) : Int) = (n : Int)
  omega

theorem bytI_congr {b c : Nat → Int} : ∀ (n j : Nat), (∀ i, j ≤ i → b i = c i) → bytI b j n = bytI c j n
  | 0, j, _ => rfl
  | n + 1, j, h => by
    simp only [bytI]
    rw [h j (Nat.le_refl _), bytI_congr n (j + 1) (fun i hi => h i (by omega))]

/-- What makes the law true, for one curve. -/
structure SgOk {V : Type} (ne : Ap V → Ap V × Int) (y0 : Ap V → Bool) (ok : Ap V → Bool) (bs : Ap V → Nat → Int) (n : Nat) : Prop where
  main : ∀ p, (ne p).2 = 0 → p.zero = false → y0 p = false → ok p = true ∧ ok (ne p).1 = true ∧ xor8 (bs p 0) (bs (ne p).1 0) = 32 ∧ bytI (bs p) 1 n = bytI (bs (ne p).1) 1 n

theorem sgPart_ok {V : Type} {ne : Ap V → Ap V × Int} {y0 : Ap V → Bool} {ok : Ap V → Bool} {bs : Ap V → Nat → Int} {n : Nat} (h : SgOk ne y0 ok bs n) (p : Ap V) {no : Tree AV} {K : Tree AV} {w : Tree AV → Tree AV} (hw : ∀ {t : Tree AV}, t.holds (fun q => flat q = some (.bool true)) → (w t).holds (fun q => flat q = some (.bool true)))
    (h1 : no.holds (fun q => flat q = some (.bool true))) (h2 : K.holds (fun q => flat q = some (.bool true))) : (sgPart ne y0 p no (w (sgIn ne ok bs n p K))).holds (fun q => flat q = some (.bool true)) := by
  unfold sgPart
  refine ⟨fun he => ⟨fun _ => h1, fun hz => ⟨fun hy => hw ?_, fun _ => h1⟩⟩, fun _ => h1⟩
  have he : (ne p).2 = 0 := by simpa using he
  have hy : y0 p = false := by simpa using hy
  obtain ⟨g1, g2, g3, g4⟩ := h.main p he hz hy
  unfold sgIn
  rw [g1, g2, g3, g4, strEq_refl]
  exact ⟨rfl, rfl, fun hx => by simp at hx, fun _ => ⟨fun _ => ⟨rfl, h2⟩, fun hx => by cases hx⟩⟩

theorem sgTree_true {t : SG} (h1 : SgOk t.ne1 (fun p => eqW p.y zeroW) t.ok1 t.by1 47) (h2 : SgOk t.ne2 (fun q => eqD q.y zero2) t.ok2 t.by2 95) (p : Ap W6) (q : Ap D6) : (sgTree t p q).holds (fun q => flat q = some (.bool true)) := by
  have e : sgEnd.holds (fun q => flat q = some (.bool true)) := ⟨rfl, grT_ok⟩
  have k : (sgPart t.ne2 (fun q => eqD q.y zero2) q (.need true sgEnd) (.need true (sgIn t.ne2 t.ok2 t.by2 95 q sgEnd))).holds (fun q => flat q = some (.bool true)) :=
    sgPart_ok h2 q (w := fun t => .need true t) (fun h => ⟨rfl, h⟩) ⟨rfl, e⟩ e
  unfold sgTree
  exact sgPart_ok h1 p (w := fun t => t) (fun h => h) k k

def sgO : SG := ⟨negP1, checkP1, byP1, negP2, checkP2, byP2⟩

theorem byP1_zero (p : Ap W6) : byP1 p 0 = flag p.zero (aboveW p.y) (byW p.x 0) := rfl
theorem mkB_congr {u v : Bool × Bool} {b c : Nat → Int} (h : b = c) : ∀ i, 1 ≤ i → mkB u b i = mkB v c i := fun i hi => by
  subst h
  match i, hi with
  | i + 1, _ => rfl
theorem eqW_no {x : W6} (h : eqW x zeroW = false) : x.val ≠ 0 := fun h0 => by
  have : x = zeroW := W6.val_inj h0
  rw [this, (eqW_iff _ _).2 rfl] at h
  cases h

section
variable {K : Type} [Rg K] {iv : K → K} {e : K → K → Bool} {M P : K → W6 → Prop} {f : Fl K}
theorem Lk.signs (L : Lk iv e M P f) : SgOk negP1 (fun p => eqW p.y zeroW) checkP1 byP1 47 where
  main := fun p he hz hy => by
    have hc : rcheck1 p = true := by
      rw [L.neg] at he
      cases hc : rcheck1 p with
      | true => rfl
      | false => rw [hc] at he; cases he
    have hm : (negP1 p).1 = rneg1G roO p := by rw [L.neg, hc]; rfl
    have hb := (L.point hc).1
    unfold belowP1 at hb
    have hx : belowI p.x = true := by
      cases hx : belowI p.x with
      | true => rfl
      | false => rw [hx] at hb; cases hb
    rw [hx, cond_true] at hb
    rw [belowI_nat] at hx hb
    have hx := of_decide_eq_true hx
    have hb := of_decide_eq_true hb
    have hck : checkP1 p = true := by rw [L.check]; exact hc
    obtain ⟨n, hn⟩ := top_byte hx
    have hy' : aboveW (rneg1G roO p).y = !aboveW p.y := by
      have e1 : (rneg1G roO p).y = rfneg fastP p.y := by
        show roO.ne roO.fp p.y = _
        rw [roO_ne, roO_fp]
      rw [e1]
      exact above_neg hb (eqW_no hy) (rfneg_nat hb)
    refine ⟨hck, (gpO1_ok.ne p hck).2, ?_, ?_⟩
    · rw [hm, byP1_zero, byP1_zero, hy']
      have e2 : (rneg1G roO p).x = p.x := rfl
      have e3 : (rneg1G roO p).zero = p.zero := rfl
      rw [e2, e3, hz, hn]
      exact flag_xor _ n
    · rw [hm]
      exact bytI_congr 47 1 (mkB_congr rfl)
end

theorem above_zero : aboveW zeroW = false := by decide +kernel
theorem neg_zero : rfneg fastP zeroW = zeroW := by decide +kernel
theorem above2_neg {y : D6} (ha : y.a.val < pN) (hb : y.b.val < pN) (h0 : eqD y zero2 = false) : above2G aboveW ⟨rfneg fastP y.a, rfneg fastP y.b⟩ = !above2G aboveW y := by
  unfold above2G
  cases hz : eqW y.b zeroW with
  | true =>
    have hb0 : y.b = zeroW := (eqW_iff _ _).1 hz
    have ha0 : eqW y.a zeroW = false := by
      cases h : eqW y.a zeroW with
      | false => rfl
      | true =>
        have : y = zero2 := by
          obtain ⟨a, b⟩ := y
          have h1 : a = zeroW := (eqW_iff _ _).1 h
          have h2 : b = zeroW := hb0
          rw [h1, h2]; rfl
        rw [this, (eqD_iff _ _).2 rfl] at h0
        cases h0
    have e1 : eqW zeroW zeroW = true := (eqW_iff _ _).2 rfl
    simp only [hb0, neg_zero, above_zero, e1, cond_true, cond_false]
    exact above_neg ha (eqW_no ha0) (rfneg_nat ha)
  | false =>
    have hn := rfneg_nat hb
    have hne := eqW_no hz
    have hz2 : eqW (rfneg fastP y.b) zeroW = false := by
      cases h : eqW (rfneg fastP y.b) zeroW with
      | false => rfl
      | true =>
        rw [(eqW_iff _ _).1 h] at hn
        have h3 : (pN - y.b.val) % pN = pN - y.b.val := Nat.mod_eq_of_lt (by omega)
        rw [h3, show zeroW.val = 0 from rfl] at hn
        omega
    simp only [hz2, cond_false]
    rw [above_neg hb hne hn]
    cases aboveW y.b <;> rfl
theorem byP2_zero (p : Ap D6) : byP2 p 0 = flag p.zero (above2G aboveW p.y) (byW p.x.b 0) := rfl
theorem doO_ne : doO.ne = rneg2G roO := by simp only [doO]

section
variable {K : Type} [Rg K] {iv : K → K} {e : K → K → Bool} {M P : K → D6 → Prop} {f : Fl K}
theorem LkD.signs (L : LkD iv e M P f) : SgOk negP2 (fun q => eqD q.y zero2) checkP2 byP2 95 where
  main := fun p he hz hy => by
    have hc : rcheck2 p = true := by
      rw [L.neg] at he
      cases hc : rcheck2 p with
      | true => rfl
      | false => rw [hc] at he; cases he
    have hm : (negP2 p).1 = rneg2P doO p := by rw [L.neg, hc]; rfl
    have hb := (L.point hc).1
    unfold belowP2 at hb
    have h4 : belowI p.x.a = true ∧ belowI p.x.b = true ∧ belowI p.y.a = true ∧ belowI p.y.b = true := by
      revert hb
      cases belowI p.x.a <;> cases belowI p.x.b <;> cases belowI p.y.a <;> cases belowI p.y.b <;> simp
    obtain ⟨b1, b2, b3, b4⟩ := h4
    rw [belowI_nat] at b2 b3 b4
    have b2 := of_decide_eq_true b2
    have b3 := of_decide_eq_true b3
    have b4 := of_decide_eq_true b4
    have hck : checkP2 p = true := by rw [L.check]; exact hc
    obtain ⟨n, hn⟩ := top_byte b2
    have hy' : above2G aboveW (rneg2P doO p).y = !above2G aboveW p.y := by
      have e1 : (rneg2P doO p).y = ⟨rfneg fastP p.y.a, rfneg fastP p.y.b⟩ := by
        show doO.ne p.y = _
        rw [doO_ne]
        show (⟨roO.ne roO.fp p.y.a, roO.ne roO.fp p.y.b⟩ : D6) = _
        rw [roO_ne, roO_fp]
      rw [e1]
      exact above2_neg b3 b4 hy
    refine ⟨hck, (gpO2_ok.ne p hck).2, ?_, ?_⟩
    · rw [hm, byP2_zero, byP2_zero, hy']
      have e2 : (rneg2P doO p).x = p.x := rfl
      have e3 : (rneg2P doO p).zero = p.zero := rfl
      rw [e2, e3, hz, hn]
      exact flag_xor _ n
    · rw [hm]
      exact bytI_congr 95 1 (mkB_congr rfl)
end

theorem sgO_true (p : Ap W6) (q : Ap D6) : (sgTree sgO p q).holds (fun q => flat q = some (.bool true)) := by
  obtain ⟨b, L, -⟩ := link1c
  obtain ⟨c, L2, -⟩ := link2c
  exact sgTree_true L.signs L2.signs p q
end Go.Rq

/- Numbers: shifts by 194, products. -/
namespace Go.Rq
open Go Go.Proofs

/-! The two shifts that are told. -/
inductive Sh | up | down
def Sh.i : Sh → Int | .up => 194 | .down => -194
def shOf (k : IntKind) (n : Int) : Option Sh := match decide (k = .i64) with
  | false => none
  | true => match decide (n = 194) with
    | true => some .up
    | false => match decide (n = -194) with
      | true => some .down
      | false => none
def kSh : Cod Sh where
  enc s := .v (.int .i64 s.i)
  dec a := match a with
    | .v (.int k n) => shOf k n
    | _ => none
  val s := .int .i64 s.i
  h1 _ := rfl
  h2 ρ a v x h r := by
    split at h
    · rename_i k n
      cases r
      unfold shOf at h
      split at h
      · cases h
      · rename_i hk
        have hk := of_decide_eq_true hk
        subst hk
        split at h
        · rename_i e; simp at h; subst h; rw [of_decide_eq_true e]; rfl
        · split at h
          · rename_i e; simp at h; subst h; rw [of_decide_eq_true e]; rfl
          · cases h
    · cases h
def shUp (a : W6) : W6 := ⟨0#64, 0#64, 0#64, a.w0 <<< 2, a.w1 <<< 2 ||| a.w0 >>> 62, a.w2 <<< 2 ||| a.w1 >>> 62⟩
def shDown (a : W6) : W6 := ⟨a.w4 <<< 62 ||| a.w3 >>> 2, a.w5 <<< 62 ||| a.w4 >>> 2, 0#64 ||| a.w5 >>> 2, 0#64, 0#64, 0#64⟩
def shW (a : W6) : Sh → W6
  | .up => shUp a
  | .down => shDown a
set_option maxRecDepth 100000 in
theorem shUp_run (a : W6) : (afunR PR (envOf eqsT []) [] (fun _ => none) 40 60 [c6.agg.enc a, (kInt .i64).enc 194]).strict = .leaf (c6.agg.enc (shUp a)) := by kernel_rfl
set_option maxRecDepth 100000 in
theorem shDown_run (a : W6) : (afunR PR (envOf eqsT []) [] (fun _ => none) 40 60 [c6.agg.enc a, (kInt .i64).enc (-194)]).strict = .leaf (c6.agg.enc (shDown a)) := by kernel_rfl
theorem sh_gives (a : W6) (s : Sh) : Gives (afunR PR (envOf eqsT []) [] (fun _ => none) 40 60 [c6.agg.enc a, kSh.enc s]) (c6.agg.val (shW a s)) := by
  cases s
  · exact leafVal (B := c6.agg) (y := shUp a) (shUp_run a)
  · exact leafVal (B := c6.agg) (y := shDown a) (shDown_run a)
theorem sh2_ok : CallOk PR 60 (fn2 c6.agg kSh c6.agg shW) :=
  .inl ⟨enters_of (fn := Try.f60) (by kernel_rfl) (by kernel_rfl) (by kernel_rfl), pure2 (C := kSh) shift_ctx sh_gives⟩

/-! The product of two numbers. -/
def mrG (M : BitVec 64 → BitVec 64 → BitVec 64 × BitVec 64) (S : BitVec 64 → BitVec 64 → Bool → BitVec 64 × Bool) (t : W6) (a : BitVec 64) (b : W6) : BitVec 64 × W6 :=
  let mc := fun (y u c : BitVec 64) => let p := M a y; let s := S p.2 u false; let h := p.1 + bitW s.2; let r := S s.1 c false; ((r.1, h + bitW r.2) : BitVec 64 × BitVec 64)
  let r0 := mc b.w0 t.w0 (bitW false)
  let r1 := mc b.w1 t.w1 r0.2
  let r2 := mc b.w2 t.w2 r1.2
  let r3 := mc b.w3 t.w3 r2.2
  let r4 := mc b.w4 t.w4 r3.2
  let r5 := mc b.w5 t.w5 r4.2
  (r0.1, ⟨r1.1, r2.1, r3.1, r4.1, r5.1, r5.2⟩)
def wmG (M : BitVec 64 → BitVec 64 → BitVec 64 × BitVec 64) (S : BitVec 64 → BitVec 64 → Bool → BitVec 64 × Bool) (a b : W6) : W6 × W6 :=
  let q0 := mrG M S zeroW a.w0 b
  let q1 := mrG M S q0.2 a.w1 b
  let q2 := mrG M S q1.2 a.w2 b
  let q3 := mrG M S q2.2 a.w3 b
  let q4 := mrG M S q3.2 a.w4 b
  let q5 := mrG M S q4.2 a.w5 b
  (⟨q0.1, q1.1, q2.1, q3.1, q4.1, q5.1⟩, q5.2)
def kNN : Cod (W6 × W6) := kTup c6.agg c6.agg (fun _ => rfl) (fun _ => rfl)
set_option maxRecDepth 1000000 in
theorem wm_run (M : BitVec 64 → BitVec 64 → BitVec 64 × BitVec 64) (S : BitVec 64 → BitVec 64 → Bool → BitVec 64 × Bool) (a b : W6) : (afunR PR (rowE M S) [] (fun _ => none) 60 62 [c6.agg.enc a, c6.agg.enc b]).strict = .leaf (kNN.enc (wmG M S a b)) := by kernel_rfl
def wmW : W6 → W6 → W6 × W6 := wmG mul64 add64
theorem wm_ctx : Ctx PR (rowE mul64 add64) [] (fun _ => none) 60 62 :=
  ctx_of (envH_ok eqsT_ok (TabPOk.cons mul64_ok (TabPOk.cons add64_ok TabPOk.nil)) TabHOk.nil) mixed (fn := Try.f62) (by kernel_rfl) (by kernel_rfl) (by kernel_rfl) (tabOk_none _)
theorem wm_ok : CallOk PR 62 (fn2 c6.agg c6.agg kNN wmW) :=
  .inl ⟨enters_of (fn := Try.f62) (by kernel_rfl) (by kernel_rfl) (by kernel_rfl), pure2 wm_ctx (fun a b => leafVal (B := kNN) (y := wmW a b) (wm_run mul64 add64 a b))⟩

/-! As numbers. -/
theorem mrW_eq {t : W6} {a : BitVec 64} {b : W6} {r0 r1 r2 r3 r4 r5 : BitVec 64 × BitVec 64}
    (h0 : mac a b.w0 t.w0 (bitW false) = r0) (h1 : mac a b.w1 t.w1 r0.2 = r1) (h2 : mac a b.w2 t.w2 r1.2 = r2) (h3 : mac a b.w3 t.w3 r2.2 = r3) (h4 : mac a b.w4 t.w4 r3.2 = r4) (h5 : mac a b.w5 t.w5 r4.2 = r5) :
    mrG mul64 add64 t a b = (r0.1, ⟨r1.1, r2.1, r3.1, r4.1, r5.1, r5.2⟩) := by
  subst h0 h1 h2 h3 h4 h5
  rfl
theorem mr_sum {p0 t0 r0 c0 p1 t1 r1 c1 p2 t2 r2 c2 p3 t3 r3 c3 p4 t4 r4 c4 p5 t5 r5 c5 : Nat} (e0 : r0 + 18446744073709551616 * c0 = p0 + t0) (e1 : r1 + 18446744073709551616 * c1 = p1 + t1 + c0) (e2 : r2 + 18446744073709551616 * c2 = p2 + t2 + c1) (e3 : r3 + 18446744073709551616 * c3 = p3 + t3 + c2) (e4 : r4 + 18446744073709551616 * c4 = p4 + t4 + c3) (e5 : r5 + 18446744073709551616 * c5 = p5 + t5 + c4) :
    r0 + 18446744073709551616 * (r1 + 18446744073709551616 * r2 + 340282366920938463463374607431768211456 * r3 + 6277101735386680763835789423207666416102355444464034512896 * r4 + 115792089237316195423570985008687907853269984665640564039457584007913129639936 * r5 + 2135987035920910082395021706169552114602704522356652769947041607822219725780640550022962086936576 * c5) =
    (t0 + 18446744073709551616 * t1 + 340282366920938463463374607431768211456 * t2 + 6277101735386680763835789423207666416102355444464034512896 * t3 + 115792089237316195423570985008687907853269984665640564039457584007913129639936 * t4 + 2135987035920910082395021706169552114602704522356652769947041607822219725780640550022962086936576 * t5) +
    (p0 + 18446744073709551616 * p1 + 340282366920938463463374607431768211456 * p2 + 6277101735386680763835789423207666416102355444464034512896 * p3 + 115792089237316195423570985008687907853269984665640564039457584007913129639936 * p4 + 2135987035920910082395021706169552114602704522356652769947041607822219725780640550022962086936576 * p5) := by
  omega
theorem mr_nat (t : W6) (a : BitVec 64) (b : W6) : (mrG mul64 add64 t a b).1.toNat + 18446744073709551616 * (mrG mul64 add64 t a b).2.val = t.val + a.toNat * b.val := by
  obtain ⟨r0, hr0⟩ : ∃ r, mac a b.w0 t.w0 (bitW false) = r := ⟨_, rfl⟩
  obtain ⟨r1, hr1⟩ : ∃ r, mac a b.w1 t.w1 r0.2 = r := ⟨_, rfl⟩
  obtain ⟨r2, hr2⟩ : ∃ r, mac a b.w2 t.w2 r1.2 = r := ⟨_, rfl⟩
  obtain ⟨r3, hr3⟩ : ∃ r, mac a b.w3 t.w3 r2.2 = r := ⟨_, rfl⟩
  obtain ⟨r4, hr4⟩ : ∃ r, mac a b.w4 t.w4 r3.2 = r := ⟨_, rfl⟩
  obtain ⟨r5, hr5⟩ : ∃ r, mac a b.w5 t.w5 r4.2 = r := ⟨_, rfl⟩
  have hres := mrW_eq hr0 hr1 hr2 hr3 hr4 hr5
  have e0 := mac_nat a b.w0 t.w0 (bitW false)
  rw [hr0, show (bitW false).toNat = 0 from rfl, Nat.add_zero] at e0
  have e1 := mac_nat a b.w1 t.w1 r0.2
  rw [hr1] at e1
  have e2 := mac_nat a b.w2 t.w2 r1.2
  rw [hr2] at e2
  have e3 := mac_nat a b.w3 t.w3 r2.2
  rw [hr3] at e3
  have e4 := mac_nat a b.w4 t.w4 r3.2
  rw [hr4] at e4
  have e5 := mac_nat a b.w5 t.w5 r4.2
  rw [hr5] at e5
  have sum := mr_sum e0 e1 e2 e3 e4 e5
  rw [← val_mul a.toNat b] at sum
  rw [hres]
  exact sum
theorem wm_sum {o0 o1 o2 o3 o4 o5 v1 v2 v3 v4 v5 v6 x0 x1 x2 x3 x4 x5 : Nat} (h0 : o0 + 18446744073709551616 * v1 = 0 + x0) (h1 : o1 + 18446744073709551616 * v2 = v1 + x1) (h2 : o2 + 18446744073709551616 * v3 = v2 + x2) (h3 : o3 + 18446744073709551616 * v4 = v3 + x3) (h4 : o4 + 18446744073709551616 * v5 = v4 + x4) (h5 : o5 + 18446744073709551616 * v6 = v5 + x5) :
    (o0 + 18446744073709551616 * o1 + 340282366920938463463374607431768211456 * o2 + 6277101735386680763835789423207666416102355444464034512896 * o3 + 115792089237316195423570985008687907853269984665640564039457584007913129639936 * o4 + 2135987035920910082395021706169552114602704522356652769947041607822219725780640550022962086936576 * o5) + 39402006196394479212279040100143613805079739270465446667948293404245721771497210611414266254884915640806627990306816 * v6 =
    (x0 + 18446744073709551616 * x1 + 340282366920938463463374607431768211456 * x2 + 6277101735386680763835789423207666416102355444464034512896 * x3 + 115792089237316195423570985008687907853269984665640564039457584007913129639936 * x4 + 2135987035920910082395021706169552114602704522356652769947041607822219725780640550022962086936576 * x5) := by
  omega
theorem wm_nat (a b : W6) : (wmW a b).1.val + 39402006196394479212279040100143613805079739270465446667948293404245721771497210611414266254884915640806627990306816 * (wmW a b).2.val = a.val * b.val := by
  have hb : a.val * b.val = (a.w0.toNat * b.val) + 18446744073709551616 * (a.w1.toNat * b.val) + 340282366920938463463374607431768211456 * (a.w2.toNat * b.val) + 6277101735386680763835789423207666416102355444464034512896 * (a.w3.toNat * b.val) + 115792089237316195423570985008687907853269984665640564039457584007913129639936 * (a.w4.toNat * b.val) + 2135987035920910082395021706169552114602704522356652769947041607822219725780640550022962086936576 * (a.w5.toNat * b.val) := by
    rw [Nat.mul_comm, val_mul]
    simp only [Nat.mul_comm b.val]
  rw [hb]
  have h0 := mr_nat zeroW a.w0 b
  rw [zero_val] at h0
  have h1 := mr_nat (mrG mul64 add64 zeroW a.w0 b).2 a.w1 b
  have h2 := mr_nat (mrG mul64 add64 (mrG mul64 add64 zeroW a.w0 b).2 a.w1 b).2 a.w2 b
  have h3 := mr_nat (mrG mul64 add64 (mrG mul64 add64 (mrG mul64 add64 zeroW a.w0 b).2 a.w1 b).2 a.w2 b).2 a.w3 b
  have h4 := mr_nat (mrG mul64 add64 (mrG mul64 add64 (mrG mul64 add64 (mrG mul64 add64 zeroW a.w0 b).2 a.w1 b).2 a.w2 b).2 a.w3 b).2 a.w4 b
  have h5 := mr_nat (mrG mul64 add64 (mrG mul64 add64 (mrG mul64 add64 (mrG mul64 add64 (mrG mul64 add64 zeroW a.w0 b).2 a.w1 b).2 a.w2 b).2 a.w3 b).2 a.w4 b).2 a.w5 b
  exact wm_sum h0 h1 h2 h3 h4 h5

/-- The lowest 190 bits. -/
def cutW (a : W6) : W6 := shDown (shUp a)
theorem down_lt (a : W6) : (shDown a).val < 1569275433846670190958947355801916604025588861116008628224 := by
  have h0 := (a.w4 <<< 62 ||| a.w3 >>> 2).isLt
  have h1 := (a.w5 <<< 62 ||| a.w4 >>> 2).isLt
  have h2 : (0#64 ||| a.w5 >>> 2).toNat < 4611686018427387904 := by
    rw [BitVec.zero_or, BitVec.toNat_ushiftRight, Nat.shiftRight_eq_div_pow]
    have := a.w5.isLt
    omega
  unfold shDown W6.val
  simp only
  generalize (a.w4 <<< 62 ||| a.w3 >>> 2).toNat = x at *
  generalize (a.w5 <<< 62 ||| a.w4 >>> 2).toNat = y at *
  generalize (0#64 ||| a.w5 >>> 2).toNat = z at *
  simp only [BitVec.toNat_ofNat, Nat.zero_mod]
  omega
theorem small_sum {m n : W6} (hm : m.val < 1569275433846670190958947355801916604025588861116008628224) (hn : n.val < 1569275433846670190958947355801916604025588861116008628224) : (wAddW m n).1.val = m.val + n.val := by
  have h := adds_nat m n
  have hb := b2n_le (adds m n).2
  show (adds m n).1.val = _
  generalize (adds m n).1.val = v at *
  generalize b2n (adds m n).2 = c at *
  omega
theorem small_mul {m n : W6} (hm : m.val < 1569275433846670190958947355801916604025588861116008628224) (hn : n.val < 1569275433846670190958947355801916604025588861116008628224) : (wmW m n).1.val = m.val * n.val := by
  have h := wm_nat m n
  have hp : m.val * n.val < 1569275433846670190958947355801916604025588861116008628224 * 1569275433846670190958947355801916604025588861116008628224 := Nat.mul_lt_mul'' hm hn
  generalize m.val * n.val = x at *
  omega
end Go.Rq

/- A modulus: what its functions read out of its block. -/
namespace Go.Rq
open Go Go.Proofs

abbrev Mo : Type := W6 × BitVec 64 × W6
def afunP (P : Program) (E : Env) (sym : List Tmp) (lf f : Nat) (t : TypeId) (x : Mo) (args : List AV) : Tree AV := (afun P E sym (fun _ => none) lf f (.ptr 0 0 :: args) (oneAH cFa t x) 1).bind fun q => .leaf q.1
theorem givesP {P : Program} {E : Env} {sym : List Tmp} {lf f : Nat} {t : TypeId} {x : Mo} {args : List AV} {u : Tree AV} {v : Value} (e : (afunP P E sym lf f t x args).strict = u) (hu : u.holds (fun q => flat q = some v)) :
    GivesH (afun P E sym (fun _ => none) lf f (.ptr 0 0 :: args) (oneAH cFa t x) 1) v := ⟨Tree.holds_bind (Tree.holds_strict (by rw [show ((afun P E sym (fun _ => none) lf f (.ptr 0 0 :: args) (oneAH cFa t x) 1).bind fun q => Tree.leaf q.1).strict = u from e]; exact hu))⟩

/-! Is it none? -/
def moNone (m : Mo) : Bool := m.2.1 == 0#64
noncomputable def mnE : Env := envH eqsT [] []
theorem mnE_ok : EnvOk PR mnE := envH_ok eqsT_ok TabPOk.nil TabHOk.nil
theorem mn_run (m : Mo) : (afunP PR mnE [] 10 119 165 m []).strict = .leaf (kBool.enc (moNone m)) := by kernel_rfl
theorem mn_ent : Enters PR 119 := enters_of (fn := Try.f119) (by kernel_rfl) (by kernel_rfl) (by kernel_rfl)
theorem mn_ok : HeapOk PR 119 (rdp 165 cFa mc0 kBool (fun m _ => moNone m)) :=
  rdp_ok (E := mnE) (sym := []) (lf := 10) mnE_ok mixed (fn := Try.f119) (c := bodyOf PR 119) (by kernel_rfl) (by kernel_rfl) (by kernel_rfl) (fun m z => givesP (mn_run m) (holds_leaf (kBool.h1 _)))

/-! The modulus taken away, if it goes. -/
noncomputable def mlE0 (sb : W6 → W6 → W6 × Bool) : Env := envH eqsT [(164, fn2 c6.agg c6.agg kWB sb)] []
theorem ml_run (sb : W6 → W6 → W6 × Bool) (m : Mo) (x : W6) : (afunP PR (mlE0 sb) [17] 10 118 165 m [c6.agg.enc x]).strict =
    .br (!(sb x m.1).2) (.leaf (c6.agg.enc (sb x m.1).1)) (.leaf (c6.agg.enc x)) := by kernel_rfl
def moLess (sb : W6 → W6 → W6 × Bool) (m : Mo) (x : W6) : W6 := bif !(sb x m.1).2 then (sb x m.1).1 else x

/-! The product, by 2^-384. -/
def mcG (M : BitVec 64 → BitVec 64 → BitVec 64 × BitVec 64) (S : BitVec 64 → BitVec 64 → Bool → BitVec 64 × Bool) (a y u c : BitVec 64) : BitVec 64 × BitVec 64 :=
  let p := M a y; let s := S p.2 u false; let h := p.1 + bitW s.2; let r := S s.1 c false; (r.1, h + bitW r.2)
def moRound (M : BitVec 64 → BitVec 64 → BitVec 64 × BitVec 64) (S : BitVec 64 → BitVec 64 → Bool → BitVec 64 × Bool) (m : Mo) (b : W6) (x : BitVec 64) (t : W8) : W8 :=
  let r0 := mcG M S x b.w0 t.1.w0 (bitW false)
  let r1 := mcG M S x b.w1 t.1.w1 r0.2
  let r2 := mcG M S x b.w2 t.1.w2 r1.2
  let r3 := mcG M S x b.w3 t.1.w3 r2.2
  let r4 := mcG M S x b.w4 t.1.w4 r3.2
  let r5 := mcG M S x b.w5 t.1.w5 r4.2
  let u6 := S t.2.1 r5.2 false
  let q := r0.1 * m.2.1
  let mm := M q m.1.w0
  let s0 := S mm.2 r0.1 false
  let s1 := mcG M S q m.1.w1 r1.1 (mm.1 + bitW s0.2)
  let s2 := mcG M S q m.1.w2 r2.1 s1.2
  let s3 := mcG M S q m.1.w3 r3.1 s2.2
  let s4 := mcG M S q m.1.w4 r4.1 s3.2
  let s5 := mcG M S q m.1.w5 r5.1 s4.2
  let s6 := S u6.1 s5.2 false
  (⟨s1.1, s2.1, s3.1, s4.1, s5.1, s6.1⟩, bitW u6.2 + bitW s6.2, bitW u6.2)
def moRaw (M : BitVec 64 → BitVec 64 → BitVec 64 × BitVec 64) (S : BitVec 64 → BitVec 64 → Bool → BitVec 64 × Bool) (m : Mo) (a b : W6) : W8 :=
  moRound M S m b a.w5 (moRound M S m b a.w4 (moRound M S m b a.w3 (moRound M S m b a.w2 (moRound M S m b a.w1 (moRound M S m b a.w0 zero8)))))
noncomputable def mmE0 (M : BitVec 64 → BitVec 64 → BitVec 64 × BitVec 64) (S : BitVec 64 → BitVec 64 → Bool → BitVec 64 × Bool) (L : Mo → W6 → W6) : Env := envH eqsT (rowT M S) [(118, rdp 165 cFa (mc1 c6.agg) c6.agg L)]
set_option maxRecDepth 1000000 in
theorem mm_run (M : BitVec 64 → BitVec 64 → BitVec 64 × BitVec 64) (S : BitVec 64 → BitVec 64 → Bool → BitVec 64 × Bool) (L : Mo → W6 → W6) (m : Mo) (a b : W6) : (afunP PR (mmE0 M S L) [] 20 120 165 m [c6.agg.enc a, c6.agg.enc b]).strict =
    .leaf (c6.agg.enc (L m (moRaw M S m a b).1)) := by kernel_rfl

/-! What is left. -/
noncomputable def mrE0 (N : Mo → Bool) (cm : W6 → W6 → Int) (O : BitVec 64 → W6) (T : Mo → W6 → W6 → W6) : Env := envH eqsT [(117, fn2 c6.agg c6.agg (kInt .i64) cm), (63, fn1 kU c6.agg O)]
  [(119, rdp 165 cFa mc0 kBool (fun m _ => N m)), (120, rdp 165 cFa (mc2 c6.agg c6.agg) c6.agg (fun m x => T m x.1 x.2))]
theorem mred_run (N : Mo → Bool) (cm : W6 → W6 → Int) (O : BitVec 64 → W6) (T : Mo → W6 → W6 → W6) (m : Mo) (a : W6) : (afunP PR (mrE0 N cm O T) [6, 14] 10 67 165 m [c6.agg.enc a]).strict =
    .br (N m) (.leaf (c6.agg.enc zeroW)) (.br (decide (cm a m.1 < 0)) (.leaf (c6.agg.enc a)) (.leaf (c6.agg.enc (T m (T m a m.2.2) (O (bitW true)))))) := by kernel_rfl
end Go.Rq

/- A modulus: contracts of what reads it. -/
namespace Go.Rq
open Go Go.Proofs

/-! The difference of two numbers. -/
def wSubW (a b : W6) : W6 × Bool := ((subs a b).1, (subs a b).2 == true)
def wSubT : PureTab := [(172, fn3 kU kU kBit kUB sub64)]
theorem wSubT_ok : TabPOk PR wSubT := TabPOk.cons sub64_ok TabPOk.nil
theorem wsub_ctx : Ctx PR (envOf eqsT wSubT) [] (fun _ => none) 40 164 :=
  ctx_of (envOf_ok eqsT_ok wSubT_ok) mixed (fn := Try.f164) (by kernel_rfl) (by kernel_rfl) (by kernel_rfl) (tabOk_none _)
set_option maxRecDepth 100000 in
theorem wsub_run (a b : W6) : (afunR PR (envOf eqsT wSubT) [] (fun _ => none) 40 164 [c6.agg.enc a, c6.agg.enc b]).strict = .leaf (kWB.enc (wSubW a b)) := by kernel_rfl
theorem wsub_ok : CallOk PR 164 (fn2 c6.agg c6.agg kWB wSubW) :=
  .inl ⟨enters_of (fn := Try.f164) (by kernel_rfl) (by kernel_rfl) (by kernel_rfl), pure2 wsub_ctx (fun a b => leafVal (B := kWB) (y := wSubW a b) (wsub_run a b))⟩

def moLessW : Mo → W6 → W6 := moLess wSubW
theorem ml_gives (sb : W6 → W6 → W6 × Bool) (m : Mo) (x : W6) : GivesH (afun PR (mlE0 sb) [17] (fun _ => none) 10 118 (.ptr 0 0 :: [c6.agg.enc x]) (oneAH cFa 165 m) 1) (c6.agg.val (moLess sb m x)) :=
  givesP (ml_run sb m x) (holds_br (B := c6.agg) (holds_leaf (c6.agg.h1 _)) (holds_leaf (c6.agg.h1 _)))
theorem mlE0_ok : EnvOk PR (mlE0 wSubW) := envH_ok eqsT_ok (TabPOk.cons wsub_ok TabPOk.nil) TabHOk.nil
theorem ml_ent : Enters PR 118 := enters_of (fn := Try.f118) (by kernel_rfl) (by kernel_rfl) (by kernel_rfl)
theorem ml_ok : HeapOk PR 118 (rdp 165 cFa (mc1 c6.agg) c6.agg moLessW) :=
  rdp_ok (E := mlE0 wSubW) (sym := [17]) (lf := 10) mlE0_ok mixed (fn := Try.f118) (c := bodyOf PR 118) (by kernel_rfl) (by kernel_rfl) (by kernel_rfl) (fun m z => ml_gives wSubW m z)

def moMontW (m : Mo) (a b : W6) : W6 := moLessW m (moRaw mul64 add64 m a b).1
theorem mmE0_ok : EnvOk PR (mmE0 mul64 add64 moLessW) := envH_ok eqsT_ok (TabPOk.cons mul64_ok (TabPOk.cons add64_ok TabPOk.nil)) (TabHOk.cons ml_ent ml_ok TabHOk.nil)
theorem mm_ent : Enters PR 120 := enters_of (fn := Try.f120) (by kernel_rfl) (by kernel_rfl) (by kernel_rfl)
theorem mm_ok : HeapOk PR 120 (rdp 165 cFa (mc2 c6.agg c6.agg) c6.agg (fun m x => moMontW m x.1 x.2)) :=
  rdp_ok (E := mmE0 mul64 add64 moLessW) (sym := []) (lf := 20) mmE0_ok mixed (fn := Try.f120) (c := bodyOf PR 120) (by kernel_rfl) (by kernel_rfl) (by kernel_rfl) (fun m z => givesP (mm_run mul64 add64 moLessW m z.1 z.2) (holds_leaf (c6.agg.h1 _)))

def moRedG (N : Mo → Bool) (cm : W6 → W6 → Int) (O : BitVec 64 → W6) (T : Mo → W6 → W6 → W6) (m : Mo) (a : W6) : W6 := bif N m then zeroW else bif decide (cm a m.1 < 0) then a else T m (T m a m.2.2) (O (bitW true))
def moRedW : Mo → W6 → W6 := moRedG moNone cmW ofW moMontW
theorem mred_gives (N : Mo → Bool) (cm : W6 → W6 → Int) (O : BitVec 64 → W6) (T : Mo → W6 → W6 → W6) (m : Mo) (a : W6) : GivesH (afun PR (mrE0 N cm O T) [6, 14] (fun _ => none) 10 67 (.ptr 0 0 :: [c6.agg.enc a]) (oneAH cFa 165 m) 1) (c6.agg.val (moRedG N cm O T m a)) :=
  givesP (mred_run N cm O T m a) (holds_br (B := c6.agg) (holds_leaf (c6.agg.h1 _)) (holds_br (B := c6.agg) (holds_leaf (c6.agg.h1 _)) (holds_leaf (c6.agg.h1 _))))
theorem mrE0_ok : EnvOk PR (mrE0 moNone cmW ofW moMontW) := envH_ok eqsT_ok (TabPOk.cons cmp_ok (TabPOk.cons of_ok TabPOk.nil)) (TabHOk.cons mn_ent mn_ok (TabHOk.cons mm_ent mm_ok TabHOk.nil))
theorem mred_ent : Enters PR 67 := enters_of (fn := Try.f67) (by kernel_rfl) (by kernel_rfl) (by kernel_rfl)
theorem mred_ok : HeapOk PR 67 (rdp 165 cFa (mc1 c6.agg) c6.agg moRedW) :=
  rdp_ok (E := mrE0 moNone cmW ofW moMontW) (sym := [6, 14]) (lf := 10) mrE0_ok mixed (fn := Try.f67) (c := bodyOf PR 67) (by kernel_rfl) (by kernel_rfl) (by kernel_rfl) (fun m z => mred_gives moNone cmW ofW moMontW m z)
end Go.Rq
