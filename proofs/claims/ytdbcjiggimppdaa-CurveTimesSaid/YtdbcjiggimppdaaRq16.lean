/- The law CurveFirst holds of what the functions come to. -/
import Derived.Test.YtdbcjiggimppdaaRq15
import Derived.Test.YtdbcjiggimppdaaRq13
import Derived.Test.YtdbcjiggimppdaaRq12
namespace Go.Rq
open Go Go.Proofs
open Lean.Grind (CommRing)

/-! The reference's operations go like a field's. -/
section
variable {K : Type} [CommRing K] {iv : K → K} {e : K → K → Bool} {R : K → W6 → Prop} {t : RO}

structure RRel (R : K → W6 → Prop) (iv : K → K) (e : K → K → Bool) (t : RO) : Prop where
  mu : ∀ {x y : K} {a b : W6}, R x a → R y b → R (x * y) (t.mu t.fp a b)
  ad : ∀ {x y : K} {a b : W6}, R x a → R y b → R (x + y) (t.ad t.fp a b)
  sb : ∀ {x y : K} {a b : W6}, R x a → R y b → R (x - y) (t.sb t.fp a b)
  ne : ∀ {x : K} {a : W6}, R x a → R (-x) (t.ne t.fp a)
  iv : ∀ {x : K} {a : W6}, R x a → R (iv x) (t.iv t.fp a)
  zero : R 0 zeroW
  one : R 1 numOne
  eq : ∀ {x y : K} {a b : W6}, R x a → R y b → e x y = eqW a b
  inj : ∀ {x : K} {a b : W6}, R x a → R x b → a = b

/-- An element of one part. -/
structure S1 (R : K → W6 → Prop) (x : K) (d : D6) : Prop where
  a : R x d.a
  b : d.b = zeroW

theorem RRel.cast {J : Type} {R : J → W6 → Prop} {x y : J} {a : W6} (h : R x a) (e : x = y) : R y a := e ▸ h

theorem s1_add (h : RRel R iv e t) {x y : K} {a b : D6} (p : S1 R x a) (q : S1 R y b) : S1 R (x + y) (radd2G t a b) :=
  ⟨h.ad p.a q.a, by
    show t.ad t.fp a.b b.b = zeroW
    rw [p.b, q.b]
    exact h.inj (RRel.cast (h.ad h.zero h.zero) (by grind)) h.zero⟩
theorem s1_neg (h : RRel R iv e t) {x : K} {a : D6} (p : S1 R x a) : S1 R (-x) (rneg2G t a) :=
  ⟨h.ne p.a, by
    show t.ne t.fp a.b = zeroW
    rw [p.b]
    exact h.inj (RRel.cast (h.ne h.zero) (by grind)) h.zero⟩
theorem s1_sub (h : RRel R iv e t) {x y : K} {a b : D6} (p : S1 R x a) (q : S1 R y b) : S1 R (x - y) (rsub2G t a b) := by
  have := s1_add h p (s1_neg h q)
  rw [show x + -y = x - y by grind] at this
  exact this
theorem s1_tm (h : RRel R iv e t) {x : K} {a : D6} (p : S1 R x a) : ∀ k : Nat, S1 R (tmK x k) (timesA (radd2G t) a k)
  | 0 => ⟨h.zero, rfl⟩
  | k + 1 => s1_add h (s1_tm h p k) p

def thG (t : RO) : TH := ⟨thmG t (rmul2G t), fun a s => timesA (radd2G t) a s.n, rsub2G t⟩
theorem trel1 (h : RRel R iv e t) : TRel (S1 R) true e (thG t) where
  mu := fun {p x y a b} ho ha hb => by
    show S1 R (x * y) (bif p.one then ⟨t.mu t.fp a.a b.a, zeroW⟩ else rmul2G t a b)
    rw [ho]
    exact ⟨h.mu ha.a hb.a, rfl⟩
  tm s ha := s1_tm h ha s.n
  sb ha hb := s1_sub h ha hb
  zero := ⟨h.zero, rfl⟩
  eq := fun {x y a b} ha hb => by
    rw [eqW_D, ha.b, hb.b, h.eq ha.a hb.a, (eqW_iff zeroW zeroW).2 rfl]
    cases eqW a.a b.a <;> rfl

theorem lowK_zero {p : Jp K} (h : (lowK iv e p).zero = true) : lowK iv e p = ⟨0, 0, true⟩ := by
  unfold lowK at h ⊢
  cases hz : e p.z 0 with
  | true => rfl
  | false => rw [hz] at h; cases h

def multOf (t : RO) (p : Th) (w : W6) (len : Nat) : Th := multG ⟨dblG (thG t), addG (thG t) (dblG (thG t))⟩ p w (64 * len) (noneT p.one)
def manyOf (t : RO) : Ap W6 → W6 → Nat → Ap W6 := manyG (twG t (rinv2G t) (thmG t (rmul2G t))) (multOf t)

theorem many_rel (h : RRel R iv e t) {P : Ap K} {p : Ap W6} (hp : RA R P p) (n : W6) (len : Nat) : RA R (bif P.zero then P else lowK iv e (multK e n.bit ⟨P.x, P.y, 1⟩ (64 * len) noneJ)) (manyOf t p n len) := by
  have hT := trel1 h
  unfold manyOf manyG
  rw [hp.z]
  cases hz : p.zero with
  | true => exact hp
  | false =>
    rw [cond_false, cond_false]
    have hb : TJ (S1 R) true ⟨P.x, P.y, 1⟩ (thOf p) := ⟨⟨hp.x, rfl⟩, ⟨hp.y, rfl⟩, ⟨h.one, rfl⟩, rfl⟩
    have hm := mult_rel hT hb n (64 * len) (noneT_rel hT (b := true) rfl)
    have hi : ∀ {x : K} {a : D6}, S1 R x a → S1 R (iv x) (bif true then ⟨t.iv t.fp a.a, zeroW⟩ else rinv2G t a) := fun hx => ⟨h.iv hx.a, rfl⟩
    obtain ⟨h1, h2, h3⟩ := two_rel hT (r := t) hi hm
    have h1' : (twG t (rinv2G t) (thmG t (rmul2G t)) (multOf t (thOf p) n len)).2.2 = !(lowK iv e (multK e n.bit ⟨P.x, P.y, 1⟩ (64 * len) noneJ)).zero := h1
    rw [h1', Bool.not_not]
    cases hl : (lowK iv e (multK e n.bit ⟨P.x, P.y, 1⟩ (64 * len) noneJ)).zero with
    | true =>
      rw [lowK_zero hl]
      exact ⟨h.zero, h.zero, rfl⟩
    | false => exact ⟨h2.a, h3.a, hl⟩

theorem rcheck_rel (h : RRel R iv e t) {f : Fl K} (hf : R f.b (ofW 4#64)) {P : Ap K} {p : Ap W6} (hp : RA R P p) {bl : W6 → Bool} (h1 : bl p.x = true) (h2 : bl p.y = true) :
    rcheckG t bl (rsideG t) p = onE (foK iv) e f P := by
  have hs : eqW (t.mu t.fp p.y p.y) (rsideG t p.x) = e (P.y * P.y) (P.x * P.x * P.x + f.b) := (h.eq (h.mu hp.y hp.y) (h.ad (h.mu (h.mu hp.x hp.x) hp.x) hf)).symm
  unfold rcheckG onE
  rw [hp.z, h1, h2, foK_zero, ← h.eq hp.x h.zero, ← h.eq hp.y h.zero, hs]
  rfl

theorem eqP13_iff (a b : Ap W6) : eqP13 a b = true ↔ a = b := by
  obtain ⟨⟨a0, a1, a2, a3, a4, a5⟩, ⟨a6, a7, a8, a9, a10, a11⟩, az⟩ := a
  obtain ⟨⟨b0, b1, b2, b3, b4, b5⟩, ⟨b6, b7, b8, b9, b10, b11⟩, bz⟩ := b
  simp [eqP13, and_assoc]

theorem ra_eq (h : RRel R iv e t) {A B : Ap K} {a b : Ap W6} (ha : RA R A a) (hb : RA R B b) : eqP13 a b = eqA e A B := by
  rw [Bool.eq_iff_iff, eqP13_iff]
  unfold eqA
  rw [h.eq ha.x hb.x, h.eq ha.y hb.y, ha.z, hb.z]
  simp only [Bool.and_eq_true, eqW_iff, beq_iff_eq]
  obtain ⟨ax, ay, az⟩ := a
  obtain ⟨bx, bY, bz⟩ := b
  simp

theorem rneg_rel (h : RRel R iv e t) {A : Ap K} {a : Ap W6} (ha : RA R A a) : RA R (negK A) (rneg1G t a) := ⟨ha.x, h.ne ha.y, ha.z⟩

theorem rchord_rel (h : RRel R iv e t) {A B : Ap K} {a b : Ap W6} (ha : RA R A a) (hb : RA R B b) {m : K} {w : W6} (hm : R m w) : RA R (chordK A B m) (rchord t a b w) := by
  have x := h.sb (h.sb (h.mu hm hm) ha.x) hb.x
  exact ⟨x, h.sb (h.mu hm (h.sb ha.x x)) ha.y, rfl⟩

theorem radd_rel (h : RRel R iv e t) {A B : Ap K} {a b : Ap W6} (ha : RA R A a) (hb : RA R B b) : RA R (sumA iv e A B) (radd1G t (rneg1G t) a b) := by
  unfold sumA radd1G
  rw [ha.z, hb.z, ra_eq h ha (rneg_rel h hb), ra_eq h ha hb]
  cases a.zero
  · cases b.zero
    · cases eqA e A (negK B)
      · cases eqA e A B
        · exact rchord_rel h ha hb (h.mu (h.sb hb.y ha.y) (h.iv (h.sb hb.x ha.x)))
        · have s := h.mu ha.x ha.x
          exact rchord_rel h ha hb (h.mu (h.ad (h.ad s s) s) (h.iv (h.ad ha.y ha.y)))
      · exact ⟨h.zero, h.zero, rfl⟩
    · exact ha
  · exact hb

theorem ra_inj (h : RRel R iv e t) {A : Ap K} {a b : Ap W6} (ha : RA R A a) (hb : RA R A b) : a = b := by
  obtain ⟨ax, ay, az⟩ := a
  obtain ⟨bx, bY, bz⟩ := b
  have h1 := h.inj ha.x hb.x
  have h2 := h.inj ha.y hb.y
  have h3 := ha.z.symm.trans hb.z
  simp at h1 h2 h3
  rw [h1, h2, h3]
end

theorem on_none {K : Type} [CommRing K] {iv : K → K} {e : K → K → Bool} (F : Fd K iv e) {f : Fl K} {p : Ap K} (h : onE (foK iv) e f p = true) (hz : p.zero = true) : p = ⟨0, 0, true⟩ := by
  unfold onE at h
  rw [hz, cond_true, foK_zero] at h
  obtain ⟨x, y, z⟩ := p
  simp only at h hz
  cases h1 : e x 0 with
  | false => rw [h1] at h; cases h
  | true =>
    rw [h1, cond_true] at h
    rw [F.eq.1 h1, F.eq.1 h, hz]

/-- A field, its elements as the program keeps them (M) and as they are told (P). -/
structure Lk {K : Type} [CommRing K] (iv : K → K) (e : K → K → Bool) (M P : K → W6 → Prop) (f : Fl K) : Prop where
  F : Fd K iv e
  rel : FRel M (foK iv) fW e eqW
  m1 : M 1 oneW
  m0 : M 0 zeroW
  to : ∀ {x : K} {w : W6}, P x w → M x (toW w)
  fr : ∀ {x : K} {w : W6}, M x w → P x (fromW w)
  of : ∀ {w : W6}, w.val < pN → ∃ x, P x w
  ref : RRel P iv e roO
  f1 : f.one = 1
  fb : P f.b (ofW 4#64)

section
variable {K : Type} [CommRing K] {iv : K → K} {e : K → K → Bool} {M P : K → W6 → Prop} {f : Fl K}

theorem fl_of {J : Type} {Q M : J → W6 → Prop} {t : W6 → W6} (ht : ∀ {x : J} {w : W6}, Q x w → M x (t w)) {f : Fl J} {o w : W6} (h1 : M f.one o) (hb : Q f.b w) : RFl M f ⟨o, t w⟩ := ⟨h1, ht hb⟩
theorem ra_of {J : Type} {Q M : J → W6 → Prop} {t : W6 → W6} (ht : ∀ {x : J} {w : W6}, Q x w → M x (t w)) {A : Ap J} {p : Ap W6} (h : RA Q A p) : RA M A ⟨t p.x, t p.y, p.zero⟩ := ⟨ht h.x, ht h.y, h.z⟩
theorem Lk.fl (L : Lk iv e M P f) : RFl M f fld1 := by
  unfold fld1
  exact fl_of (Q := P) (M := M) (t := toW) L.to (by rw [L.f1]; exact L.m1) L.fb
theorem Lk.inn (L : Lk iv e M P f) {A : Ap K} {p : Ap W6} (h : RA P A p) : RA M A (inP1 p) := by
  unfold inP1
  exact ra_of (Q := P) (M := M) (t := toW) L.to h
theorem Lk.out (L : Lk iv e M P f) {A : Ap K} {p : Ap W6} (h : RA M A p) : RA P A (outP1 p) := by
  unfold outP1
  exact ra_of (Q := M) (M := P) (t := fromW) L.fr h

theorem Lk.times (L : Lk iv e M P f) {f : Fl K} {g : Fl W6} {p : Jp K} {q : Jp W6} (hf : RFl M f g) (hp : RJ M p q) (n : W6) : RJ M (timesF iv e f p n) (timesW g q n) := by
  unfold timesF timesW
  exact times_rel L.rel hf hp n _ ⟨hf.one, hf.one, L.m0⟩
theorem Lk.ga (L : Lk iv e M P f) : GRel M (gaF iv e) gaOW := g_rel L.rel L.times

theorem Lk.below (L : Lk iv e M P f) {p : Ap W6} (h : belowP1 p = true) : ∃ A : Ap K, RA P A p := by
  unfold belowP1 at h
  cases hx : belowI p.x with
  | false => rw [hx] at h; cases h
  | true =>
    rw [hx, cond_true] at h
    rw [belowI_nat] at hx h
    obtain ⟨x, h1⟩ := L.of (of_decide_eq_true hx)
    obtain ⟨y, h2⟩ := L.of (of_decide_eq_true h)
    exact ⟨⟨x, y, p.zero⟩, h1, h2, rfl⟩

theorem zero_below : belowI zeroW = true := by rw [belowI_nat]; decide +kernel

theorem Lk.check (L : Lk iv e M P f) (p : Ap W6) : checkP1 p = rcheck1 p := by
  unfold checkP1
  cases hb : belowP1 p with
  | true =>
    obtain ⟨A, hP⟩ := L.below hb
    unfold belowP1 at hb
    have hx : belowI p.x = true := by
      cases hx : belowI p.x with
      | false => rw [hx] at hb; cases hb
      | true => rfl
    rw [hx, cond_true] at hb
    rw [cond_true, ← on_rel L.rel L.fl (L.inn hP)]
    exact (rcheck_rel L.ref L.fb hP hx hb).symm
  | false =>
    rw [cond_false]
    unfold rcheck1 rcheckG
    unfold belowP1 at hb
    cases hz : p.zero with
    | true =>
      rw [cond_true]
      cases hx : eqW p.x zeroW with
      | false => rfl
      | true =>
        cases hy : eqW p.y zeroW with
        | false => rfl
        | true =>
          rw [(eqW_iff _ _).1 hx, (eqW_iff _ _).1 hy, zero_below] at hb
          cases hb
    | false =>
      rw [cond_false]
      cases hx : belowI p.x with
      | false => rfl
      | true =>
        rw [hx, cond_true] at hb
        rw [hb]; rfl

/-- What is a point. -/
theorem Lk.point (L : Lk iv e M P f) {p : Ap W6} (h : rcheck1 p = true) : belowP1 p = true ∧ ∃ A : Ap K, RA P A p ∧ onE (foK iv) e f A = true := by
  rw [← L.check] at h
  unfold checkP1 at h
  cases hb : belowP1 p with
  | false => rw [hb] at h; cases h
  | true =>
    obtain ⟨A, hP⟩ := L.below hb
    rw [hb, cond_true, ← on_rel L.rel L.fl (L.inn hP)] at h
    exact ⟨rfl, A, hP, h⟩
theorem Lk.on (L : Lk iv e M P f) {p : Ap W6} (h : rcheck1 p = true) : onE fW eqW fld1 (inP1 p) = true := by
  obtain ⟨-, A, hP, hon⟩ := L.point h
  rw [← on_rel L.rel L.fl (L.inn hP)]
  exact hon
theorem Lk.off (L : Lk iv e M P f) {p : Ap W6} (h : rcheck1 p = false) (hb : belowP1 p = true) : onE fW eqW fld1 (inP1 p) = false := by
  rw [← L.check] at h
  unfold checkP1 at h
  rw [hb, cond_true] at h
  exact h

theorem Lk.rmul (L : Lk iv e M P f) {A : Ap K} {p : Ap W6} (hp : RA P A p) (n : W6) : RA P (bif A.zero then A else lowK iv e (multK e n.bit ⟨A.x, A.y, 1⟩ (64 * wdL rlenI n) noneJ)) (rmul1 p n) := many_rel L.ref hp n (wdL rlenI n)

theorem Lk.n0 (L : Lk iv e M P f) : fromW zeroW = zeroW := L.ref.inj (L.fr L.m0) L.ref.zero
theorem Lk.nn (L : Lk iv e M P f) : ((outP1 ⟨zeroW, zeroW, false⟩, 5) : Ap W6 × Int) = (noneP, 5) := by
  unfold outP1
  rw [L.n0]
  rfl

theorem sum1_def (p : Ap W6) (n : W6) : sumP1W p n = bif belowP1 p then (outP1 (ga1 gaOW zeroW fld1 (inP1 p) n).1, (ga1 gaOW zeroW fld1 (inP1 p) n).2) else (noneP, 5) := by unfold sumP1W sm1 suOW gath1W; rfl
theorem ga1_def (p : Ap W6) (n : W6) (h : onE fW eqW fld1 p = false) : ga1 gaOW zeroW fld1 p n = (⟨zeroW, zeroW, false⟩, 5) := by
  have hg : ga1 gaOW zeroW fld1 p n = bif onE fW eqW fld1 p then (gaOW.lo fld1 (gaOW.su fld1 ⟨fld1.one, fld1.one, zeroW⟩ (gaOW.ti fld1 (gaOW.ra fld1 p) n)), 0) else (⟨zeroW, zeroW, false⟩, 5) := rfl
  rw [hg, h]; rfl
def unitN : W6 × W6 := (ofW (bitW true), ofW (bitW true))
theorem add1_def (p q : Ap W6) : addP1 p q = bif belowP1 p then (bif belowP1 q then (outP1 (ga2 gaOW zeroW fld1 (inP1 p, inP1 q) unitN).1, (ga2 gaOW zeroW fld1 (inP1 p, inP1 q) unitN).2) else (noneP, 5)) else (noneP, 5) := by
  unfold addP1 sumP2W sm2 suOW gath2W; rfl
theorem ga2_defA (p q : Ap W6) (n : W6 × W6) (h : onE fW eqW fld1 p = false) : ga2 gaOW zeroW fld1 (p, q) n = (⟨zeroW, zeroW, false⟩, 5) := by
  have hg : ga2 gaOW zeroW fld1 (p, q) n = bif onE fW eqW fld1 p then (bif onE fW eqW fld1 q then
      (gaOW.lo fld1 (gaOW.su fld1 (gaOW.su fld1 ⟨fld1.one, fld1.one, zeroW⟩ (gaOW.ti fld1 (gaOW.ra fld1 p) n.1)) (gaOW.ti fld1 (gaOW.ra fld1 q) n.2)), 0) else (⟨zeroW, zeroW, false⟩, 5)) else (⟨zeroW, zeroW, false⟩, 5) := rfl
  rw [hg, h]; rfl
theorem ga2_defB (p q : Ap W6) (n : W6 × W6) (h : onE fW eqW fld1 q = false) : ga2 gaOW zeroW fld1 (p, q) n = (⟨zeroW, zeroW, false⟩, 5) := by
  have hg : ga2 gaOW zeroW fld1 (p, q) n = bif onE fW eqW fld1 p then (bif onE fW eqW fld1 q then
      (gaOW.lo fld1 (gaOW.su fld1 (gaOW.su fld1 ⟨fld1.one, fld1.one, zeroW⟩ (gaOW.ti fld1 (gaOW.ra fld1 p) n.1)) (gaOW.ti fld1 (gaOW.ra fld1 q) n.2)), 0) else (⟨zeroW, zeroW, false⟩, 5)) else (⟨zeroW, zeroW, false⟩, 5) := rfl
  rw [hg, h]
  cases onE fW eqW fld1 p <;> rfl

theorem Lk.mul (L : Lk iv e M P f) (p : Ap W6) (n : W6) : sumP1W p n = bif rcheck1 p then (rmul1 p n, 0) else (noneP, 5) := by
  rw [sum1_def]
  cases hc : rcheck1 p with
  | true =>
    obtain ⟨hb, A, hP, hon⟩ := L.point hc
    obtain ⟨h1, h2⟩ := ga1_rel L.ga L.m0 L.fl (L.inn hP) n
    have h3 := ga1_low L.F L.f1 (on_none L.F hon) hon n (wdL_le n).2
    rw [h3] at h1 h2
    rw [hb, cond_true, cond_true, ← h2, ra_inj L.ref (L.out h1) (L.rmul hP n)]
  | false =>
    rw [cond_false]
    cases hb : belowP1 p with
    | false => rfl
    | true =>
      rw [cond_true, ga1_def _ n (L.off hc hb)]
      exact L.nn

theorem Lk.add (L : Lk iv e M P f) (p q : Ap W6) : addP1 p q = bif rcheck1 p then (bif rcheck1 q then (radd1 p q, 0) else (Go.Rq.noneP, 5)) else (Go.Rq.noneP, 5) := by
  rw [add1_def]
  cases hc : rcheck1 p with
  | false =>
    rw [cond_false]
    cases hb : belowP1 p with
    | false => rfl
    | true =>
      cases hb2 : belowP1 q with
      | false => rfl
      | true =>
        rw [cond_true, cond_true, ga2_defA _ _ _ (L.off hc hb)]
        exact L.nn
  | true =>
    rw [cond_true, (L.point hc).1, cond_true]
    cases hd : rcheck1 q with
    | false =>
      rw [cond_false]
      cases hb2 : belowP1 q with
      | false => rfl
      | true =>
        rw [cond_true, ga2_defB _ _ _ (L.off hd hb2)]
        exact L.nn
    | true =>
      rw [cond_true, (L.point hd).1, cond_true]
      obtain ⟨-, A, hP, hon⟩ := L.point hc
      obtain ⟨-, B, hQ, hoq⟩ := L.point hd
      obtain ⟨h1, h2⟩ := ga2_rel L.ga L.m0 L.fl (x := (A, B)) (y := (inP1 p, inP1 q)) (L.inn hP) (L.inn hQ) unitN
      have h3 : ga2 (gaF iv e) 0 f (A, B) unitN = (sumA iv e A B, 0) := ga2_low L.F L.f1 (on_none L.F hon) (on_none L.F hoq) hon hoq
      rw [h3] at h1 h2
      have h4 : RA P (sumA iv e A B) (radd1 p q) := radd_rel L.ref hP hQ
      rw [← h2, ra_inj L.ref (L.out h1) h4]

theorem Lk.neg (L : Lk iv e M P f) (p : Ap W6) : negP1 p = bif rcheck1 p then (rneg1G roO p, 0) else (Go.Rq.noneP, 5) := by
  unfold negP1
  rw [L.check]
  cases hc : rcheck1 p with
  | false => rw [Bool.not_false, cond_true, cond_false]; rfl
  | true =>
    obtain ⟨-, A, hP, -⟩ := L.point hc
    have h1 := L.out (neg_rel L.rel (L.inn hP))
    have h2 : negE (foK iv) A = negK A := by
      unfold negE negK
      rw [foK_zero, foK_sub]
      congr 1
      grind
    rw [h2] at h1
    rw [ra_inj L.ref h1 (rneg_rel L.ref hP), Bool.not_true, cond_false, cond_true]

theorem rin1_def (p : Ap W6) : rin1 p = bif rcheck1 p then (rmul1 p orderW).zero else false := by unfold rin1 rin1G; rfl
theorem inGroup_def (p : Ap W6) : inGroup1 p = bif belowP1 p then (bif onE fW eqW fld1 (inP1 p) then (lowerE fW eqW (timesW fld1 (raiseJ fW fld1 (inP1 p)) orderW)).zero else false) else false := by
  unfold inGroup1 inEW inGW lowFW; rfl
theorem Lk.ing (L : Lk iv e M P f) (p : Ap W6) : inGroup1 p = bif rcheck1 p then rin1 p else false := by
  rw [inGroup_def, rin1_def]
  cases hc : rcheck1 p with
  | true =>
    obtain ⟨hb, A, hP, hon⟩ := L.point hc
    have h1 := lower_rel L.rel (L.times L.fl (raise_rel L.rel L.fl (L.inn hP)) orderW)
    rw [times_low L.F L.f1 (on_none L.F hon) orderW (wdL_le orderW).2] at h1
    rw [hb, cond_true, L.on hc, cond_true, cond_true, cond_true, ← h1.z, (L.rmul hP orderW).z]
  | false =>
    rw [cond_false]
    cases hb : belowP1 p with
    | false => rfl
    | true =>
      rw [L.off hc hb]; rfl

theorem ap_eq {V : Type} {x y u v : V} {b : Bool} (h : x = u) (k : y = v) : (⟨x, y, b⟩ : Ap V) = ⟨u, v, b⟩ := by rw [h, k]
theorem gen1_eq : gen1P = rgen1P := by
  unfold gen1P rgen1P
  exact ap_eq (by decide +kernel) (by decide +kernel)

def loO : LO W6 := ⟨rcheck1, checkP1, rin1, inGroup1, rgen1P, gen1P, rneg1G roO, negP1, radd1, addP1, rmul1, sumP1W, oneG⟩
theorem Lk.law (L : Lk iv e M P f) : LOk eqP13 Go.Rq.noneP loO where
  on _ _ _ _ := rfl
  refl p := (eqP13_iff p p).2 rfl
  ck p := L.check p
  ig p := L.ing p
  ge := gen1_eq
  ne p := L.neg p
  ad p q := L.add p q
  mu p n := L.mul p n
end

/-! The great prime. -/
theorem pow_rel {K : Type} [CommRing K] {R : K → W6 → Prop} {t : PO} {f : Fa} {a e : W6} (hm : ∀ {x y : K} {v w : W6}, R x v → R y w → R (x * y) (t.mu f v w)) {x : K} (h : R x a) :
    ∀ (k : Nat) {y : K} {o : Option W6}, R y (ovP o) → R (pwB (fun i => t.bt e (i : Int) == 1) x k y) (ovP (powR t f a e k o))
  | 0, y, o, hy => hy
  | k + 1, y, o, hy => by
    simp only [pwB, powR]
    apply pow_rel hm h k
    cases t.bt e (k : Int) == 1
    · exact hm hy hy
    · exact hm (hm hy hy) h

theorem rp_mul {x y : F1} {a b : W6} (h : RP x a) (k : RP y b) : RP (x * y) (rmulW fastP a b) := rp_of_mul h k (rmulW_nat a b (rp_lt k))
theorem exp_eq : (rsubW primeW numTwo).1 = expInv := by decide +kernel
theorem exp_len : (rlenI expInv).toNat = 381 := by decide +kernel
theorem exp_bitsI : bitsV (fun i => bitI expInv (i : Int) == 1) 381 = pN - 2 := by decide +kernel
theorem rpoO_mu : rpoO.mu = rmulW := by simp only [rpoO]
theorem rpoO_bt : rpoO.bt = bitI := by simp only [rpoO]
theorem roO_fp : roO.fp = fastP := by simp only [roO]
theorem roO_mu : roO.mu = rmulW := by simp only [roO]
theorem roO_ad : roO.ad = rfadd := by simp only [roO]
theorem roO_sb : roO.sb = rfsub := by simp only [roO]
theorem roO_ne : roO.ne = rfneg := by simp only [roO]
theorem roO_iv : roO.iv = rinvW := by simp only [roO]
theorem rinvW_pow (a : W6) : rinvW fastP a = ovP (powR rpoO fastP a expInv 381 none) := by
  unfold rinvW rpowW rpowO
  rw [show fastP.1 = primeW from rfl, exp_eq, exp_len]
theorem rp_inv {x : F1} {a : W6} (h : RP x a) : RP (iv1 x) (rinvW fastP a) := by
  have h1 := pow_rel (K := F1) (R := RP) (t := rpoO) (f := fastP) (e := expInv) (fun h k => by rw [rpoO_mu]; exact rp_mul h k) h 381 (y := 1) (o := none) (rp_of_one (by decide +kernel))
  rw [rpoO_bt, pwB_one exp_bitsI] at h1
  rw [rinvW_pow, iv1_pow]
  exact h1

theorem rrel1 : RRel RP iv1 eq1 roO where
  mu := fun h k => by rw [roO_mu, roO_fp]; exact rp_mul h k
  ad := fun {x y a b} h k => by
    have hv := rfadd_nat (rp_lt h) (rp_lt k)
    rw [roO_ad, roO_fp]
    generalize rfadd fastP a b = w at hv ⊢
    exact rp_of_add h k hv
  sb := fun {x y a b} h k => by
    have hv := rfsub_nat (rp_lt h) (rp_lt k)
    rw [roO_sb, roO_fp]
    generalize rfsub fastP a b = w at hv ⊢
    exact rp_of_sub h k hv
  ne := fun {x a} h => by
    have hv := rfneg_nat (rp_lt h)
    rw [roO_ne, roO_fp]
    generalize rfneg fastP a = w at hv ⊢
    exact rp_of_neg h hv
  iv := fun h => by rw [roO_iv, roO_fp]; exact rp_inv h
  zero := rp_zero
  one := rp_of_one (by decide +kernel)
  eq := fun h k => rp_eq h k
  inj := fun h k => rp_inj h k

theorem four_lt : (ofW 4#64).val < pN := by decide +kernel
theorem link1 : ∃ b : F1, Lk iv1 eq1 RM RP ⟨1, b⟩ := by
  obtain ⟨b, hb⟩ := rp_of four_lt
  exact ⟨b, fd1, relM, rm_one, rm_zero, rm_to, rp_from, rp_of, rrel1, rfl, hb⟩
theorem loO_ok : LOk eqP13 noneP loO := by
  obtain ⟨b, L⟩ := link1
  exact L.law
end Go.Rq

/- Numbers: shifts by 194, products. -/
namespace Go.Rq
open Go Go.Proofs

/-! The two shifts that are told. -/
inductive Sh | up | down
def Sh.i : Sh → Int | .up => 194 | .down => -194
def shOf (k : IntKind) (n : Int) : Option Sh := match decide (k = .i64) with
  | false => none
  | true => match decide (n = 194) with
    | true => some .up
    | false => match decide (n = -194) with
      | true => some .down
      | false => none
def kSh : Cod Sh where
  enc s := .v (.int .i64 s.i)
  dec a := match a with
    | .v (.int k n) => shOf k n
    | _ => none
  val s := .int .i64 s.i
  h1 _ := rfl
  h2 ρ a v x h r := by
    split at h
    · rename_i k n
      cases r
      unfold shOf at h
      split at h
      · cases h
      · rename_i hk
        have hk := of_decide_eq_true hk
        subst hk
        split at h
        · rename_i e; simp at h; subst h; rw [of_decide_eq_true e]; rfl
        · split at h
          · rename_i e; simp at h; subst h; rw [of_decide_eq_true e]; rfl
          · cases h
    · cases h
def shUp (a : W6) : W6 := ⟨0#64, 0#64, 0#64, a.w0 <<< 2, a.w1 <<< 2 ||| a.w0 >>> 62, a.w2 <<< 2 ||| a.w1 >>> 62⟩
def shDown (a : W6) : W6 := ⟨a.w4 <<< 62 ||| a.w3 >>> 2, a.w5 <<< 62 ||| a.w4 >>> 2, 0#64 ||| a.w5 >>> 2, 0#64, 0#64, 0#64⟩
def shW (a : W6) : Sh → W6
  | .up => shUp a
  | .down => shDown a
set_option maxRecDepth 100000 in
theorem shUp_run (a : W6) : (afunR PR (envOf eqsT []) [] (fun _ => none) 40 60 [c6.agg.enc a, (kInt .i64).enc 194]).strict = .leaf (c6.agg.enc (shUp a)) := by kernel_rfl
set_option maxRecDepth 100000 in
theorem shDown_run (a : W6) : (afunR PR (envOf eqsT []) [] (fun _ => none) 40 60 [c6.agg.enc a, (kInt .i64).enc (-194)]).strict = .leaf (c6.agg.enc (shDown a)) := by kernel_rfl
theorem sh_gives (a : W6) (s : Sh) : Gives (afunR PR (envOf eqsT []) [] (fun _ => none) 40 60 [c6.agg.enc a, kSh.enc s]) (c6.agg.val (shW a s)) := by
  cases s
  · exact leafVal (B := c6.agg) (y := shUp a) (shUp_run a)
  · exact leafVal (B := c6.agg) (y := shDown a) (shDown_run a)
theorem sh2_ok : CallOk PR 60 (fn2 c6.agg kSh c6.agg shW) :=
  .inl ⟨enters_of (fn := Try.f60) (by kernel_rfl) (by kernel_rfl) (by kernel_rfl), pure2 (C := kSh) shift_ctx sh_gives⟩

/-! The product of two numbers. -/
def mrG (M : BitVec 64 → BitVec 64 → BitVec 64 × BitVec 64) (S : BitVec 64 → BitVec 64 → Bool → BitVec 64 × Bool) (t : W6) (a : BitVec 64) (b : W6) : BitVec 64 × W6 :=
  let mc := fun (y u c : BitVec 64) => let p := M a y; let s := S p.2 u false; let h := p.1 + bitW s.2; let r := S s.1 c false; ((r.1, h + bitW r.2) : BitVec 64 × BitVec 64)
  let r0 := mc b.w0 t.w0 (bitW false)
  let r1 := mc b.w1 t.w1 r0.2
  let r2 := mc b.w2 t.w2 r1.2
  let r3 := mc b.w3 t.w3 r2.2
  let r4 := mc b.w4 t.w4 r3.2
  let r5 := mc b.w5 t.w5 r4.2
  (r0.1, ⟨r1.1, r2.1, r3.1, r4.1, r5.1, r5.2⟩)
def wmG (M : BitVec 64 → BitVec 64 → BitVec 64 × BitVec 64) (S : BitVec 64 → BitVec 64 → Bool → BitVec 64 × Bool) (a b : W6) : W6 × W6 :=
  let q0 := mrG M S zeroW a.w0 b
  let q1 := mrG M S q0.2 a.w1 b
  let q2 := mrG M S q1.2 a.w2 b
  let q3 := mrG M S q2.2 a.w3 b
  let q4 := mrG M S q3.2 a.w4 b
  let q5 := mrG M S q4.2 a.w5 b
  (⟨q0.1, q1.1, q2.1, q3.1, q4.1, q5.1⟩, q5.2)
def kNN : Cod (W6 × W6) := kTup c6.agg c6.agg (fun _ => rfl) (fun _ => rfl)
set_option maxRecDepth 1000000 in
theorem wm_run (M : BitVec 64 → BitVec 64 → BitVec 64 × BitVec 64) (S : BitVec 64 → BitVec 64 → Bool → BitVec 64 × Bool) (a b : W6) : (afunR PR (rowE M S) [] (fun _ => none) 60 62 [c6.agg.enc a, c6.agg.enc b]).strict = .leaf (kNN.enc (wmG M S a b)) := by kernel_rfl
def wmW : W6 → W6 → W6 × W6 := wmG mul64 add64
theorem wm_ctx : Ctx PR (rowE mul64 add64) [] (fun _ => none) 60 62 :=
  ctx_of (envH_ok eqsT_ok (TabPOk.cons mul64_ok (TabPOk.cons add64_ok TabPOk.nil)) TabHOk.nil) mixed (fn := Try.f62) (by kernel_rfl) (by kernel_rfl) (by kernel_rfl) (tabOk_none _)
theorem wm_ok : CallOk PR 62 (fn2 c6.agg c6.agg kNN wmW) :=
  .inl ⟨enters_of (fn := Try.f62) (by kernel_rfl) (by kernel_rfl) (by kernel_rfl), pure2 wm_ctx (fun a b => leafVal (B := kNN) (y := wmW a b) (wm_run mul64 add64 a b))⟩

/-! As numbers. -/
theorem mrW_eq {t : W6} {a : BitVec 64} {b : W6} {r0 r1 r2 r3 r4 r5 : BitVec 64 × BitVec 64}
    (h0 : mac a b.w0 t.w0 (bitW false) = r0) (h1 : mac a b.w1 t.w1 r0.2 = r1) (h2 : mac a b.w2 t.w2 r1.2 = r2) (h3 : mac a b.w3 t.w3 r2.2 = r3) (h4 : mac a b.w4 t.w4 r3.2 = r4) (h5 : mac a b.w5 t.w5 r4.2 = r5) :
    mrG mul64 add64 t a b = (r0.1, ⟨r1.1, r2.1, r3.1, r4.1, r5.1, r5.2⟩) := by
  subst h0 h1 h2 h3 h4 h5
  rfl
theorem mr_sum {p0 t0 r0 c0 p1 t1 r1 c1 p2 t2 r2 c2 p3 t3 r3 c3 p4 t4 r4 c4 p5 t5 r5 c5 : Nat} (e0 : r0 + 18446744073709551616 * c0 = p0 + t0) (e1 : r1 + 18446744073709551616 * c1 = p1 + t1 + c0) (e2 : r2 + 18446744073709551616 * c2 = p2 + t2 + c1) (e3 : r3 + 18446744073709551616 * c3 = p3 + t3 + c2) (e4 : r4 + 18446744073709551616 * c4 = p4 + t4 + c3) (e5 : r5 + 18446744073709551616 * c5 = p5 + t5 + c4) :
    r0 + 18446744073709551616 * (r1 + 18446744073709551616 * r2 + 340282366920938463463374607431768211456 * r3 + 6277101735386680763835789423207666416102355444464034512896 * r4 + 115792089237316195423570985008687907853269984665640564039457584007913129639936 * r5 + 2135987035920910082395021706169552114602704522356652769947041607822219725780640550022962086936576 * c5) =
    (t0 + 18446744073709551616 * t1 + 340282366920938463463374607431768211456 * t2 + 6277101735386680763835789423207666416102355444464034512896 * t3 + 115792089237316195423570985008687907853269984665640564039457584007913129639936 * t4 + 2135987035920910082395021706169552114602704522356652769947041607822219725780640550022962086936576 * t5) +
    (p0 + 18446744073709551616 * p1 + 340282366920938463463374607431768211456 * p2 + 6277101735386680763835789423207666416102355444464034512896 * p3 + 115792089237316195423570985008687907853269984665640564039457584007913129639936 * p4 + 2135987035920910082395021706169552114602704522356652769947041607822219725780640550022962086936576 * p5) := by
  omega
theorem mr_nat (t : W6) (a : BitVec 64) (b : W6) : (mrG mul64 add64 t a b).1.toNat + 18446744073709551616 * (mrG mul64 add64 t a b).2.val = t.val + a.toNat * b.val := by
  obtain ⟨r0, hr0⟩ : ∃ r, mac a b.w0 t.w0 (bitW false) = r := ⟨_, rfl⟩
  obtain ⟨r1, hr1⟩ : ∃ r, mac a b.w1 t.w1 r0.2 = r := ⟨_, rfl⟩
  obtain ⟨r2, hr2⟩ : ∃ r, mac a b.w2 t.w2 r1.2 = r := ⟨_, rfl⟩
  obtain ⟨r3, hr3⟩ : ∃ r, mac a b.w3 t.w3 r2.2 = r := ⟨_, rfl⟩
  obtain ⟨r4, hr4⟩ : ∃ r, mac a b.w4 t.w4 r3.2 = r := ⟨_, rfl⟩
  obtain ⟨r5, hr5⟩ : ∃ r, mac a b.w5 t.w5 r4.2 = r := ⟨_, rfl⟩
  have hres := mrW_eq hr0 hr1 hr2 hr3 hr4 hr5
  have e0 := mac_nat a b.w0 t.w0 (bitW false)
  rw [hr0, show (bitW false).toNat = 0 from rfl, Nat.add_zero] at e0
  have e1 := mac_nat a b.w1 t.w1 r0.2
  rw [hr1] at e1
  have e2 := mac_nat a b.w2 t.w2 r1.2
  rw [hr2] at e2
  have e3 := mac_nat a b.w3 t.w3 r2.2
  rw [hr3] at e3
  have e4 := mac_nat a b.w4 t.w4 r3.2
  rw [hr4] at e4
  have e5 := mac_nat a b.w5 t.w5 r4.2
  rw [hr5] at e5
  have sum := mr_sum e0 e1 e2 e3 e4 e5
  rw [← val_mul a.toNat b] at sum
  rw [hres]
  exact sum
theorem wm_sum {o0 o1 o2 o3 o4 o5 v1 v2 v3 v4 v5 v6 x0 x1 x2 x3 x4 x5 : Nat} (h0 : o0 + 18446744073709551616 * v1 = 0 + x0) (h1 : o1 + 18446744073709551616 * v2 = v1 + x1) (h2 : o2 + 18446744073709551616 * v3 = v2 + x2) (h3 : o3 + 18446744073709551616 * v4 = v3 + x3) (h4 : o4 + 18446744073709551616 * v5 = v4 + x4) (h5 : o5 + 18446744073709551616 * v6 = v5 + x5) :
    (o0 + 18446744073709551616 * o1 + 340282366920938463463374607431768211456 * o2 + 6277101735386680763835789423207666416102355444464034512896 * o3 + 115792089237316195423570985008687907853269984665640564039457584007913129639936 * o4 + 2135987035920910082395021706169552114602704522356652769947041607822219725780640550022962086936576 * o5) + 39402006196394479212279040100143613805079739270465446667948293404245721771497210611414266254884915640806627990306816 * v6 =
    (x0 + 18446744073709551616 * x1 + 340282366920938463463374607431768211456 * x2 + 6277101735386680763835789423207666416102355444464034512896 * x3 + 115792089237316195423570985008687907853269984665640564039457584007913129639936 * x4 + 2135987035920910082395021706169552114602704522356652769947041607822219725780640550022962086936576 * x5) := by
  omega
theorem wm_nat (a b : W6) : (wmW a b).1.val + 39402006196394479212279040100143613805079739270465446667948293404245721771497210611414266254884915640806627990306816 * (wmW a b).2.val = a.val * b.val := by
  have hb : a.val * b.val = (a.w0.toNat * b.val) + 18446744073709551616 * (a.w1.toNat * b.val) + 340282366920938463463374607431768211456 * (a.w2.toNat * b.val) + 6277101735386680763835789423207666416102355444464034512896 * (a.w3.toNat * b.val) + 115792089237316195423570985008687907853269984665640564039457584007913129639936 * (a.w4.toNat * b.val) + 2135987035920910082395021706169552114602704522356652769947041607822219725780640550022962086936576 * (a.w5.toNat * b.val) := by
    rw [Nat.mul_comm, val_mul]
    simp only [Nat.mul_comm b.val]
  rw [hb]
  have h0 := mr_nat zeroW a.w0 b
  rw [zero_val] at h0
  have h1 := mr_nat (mrG mul64 add64 zeroW a.w0 b).2 a.w1 b
  have h2 := mr_nat (mrG mul64 add64 (mrG mul64 add64 zeroW a.w0 b).2 a.w1 b).2 a.w2 b
  have h3 := mr_nat (mrG mul64 add64 (mrG mul64 add64 (mrG mul64 add64 zeroW a.w0 b).2 a.w1 b).2 a.w2 b).2 a.w3 b
  have h4 := mr_nat (mrG mul64 add64 (mrG mul64 add64 (mrG mul64 add64 (mrG mul64 add64 zeroW a.w0 b).2 a.w1 b).2 a.w2 b).2 a.w3 b).2 a.w4 b
  have h5 := mr_nat (mrG mul64 add64 (mrG mul64 add64 (mrG mul64 add64 (mrG mul64 add64 (mrG mul64 add64 zeroW a.w0 b).2 a.w1 b).2 a.w2 b).2 a.w3 b).2 a.w4 b).2 a.w5 b
  exact wm_sum h0 h1 h2 h3 h4 h5

/-- The lowest 190 bits. -/
def cutW (a : W6) : W6 := shDown (shUp a)
theorem down_lt (a : W6) : (shDown a).val < 1569275433846670190958947355801916604025588861116008628224 := by
  have h0 := (a.w4 <<< 62 ||| a.w3 >>> 2).isLt
  have h1 := (a.w5 <<< 62 ||| a.w4 >>> 2).isLt
  have h2 : (0#64 ||| a.w5 >>> 2).toNat < 4611686018427387904 := by
    rw [BitVec.zero_or, BitVec.toNat_ushiftRight, Nat.shiftRight_eq_div_pow]
    have := a.w5.isLt
    omega
  unfold shDown W6.val
  simp only
  generalize (a.w4 <<< 62 ||| a.w3 >>> 2).toNat = x at *
  generalize (a.w5 <<< 62 ||| a.w4 >>> 2).toNat = y at *
  generalize (0#64 ||| a.w5 >>> 2).toNat = z at *
  simp only [BitVec.toNat_ofNat, Nat.zero_mod]
  omega
theorem small_sum {m n : W6} (hm : m.val < 1569275433846670190958947355801916604025588861116008628224) (hn : n.val < 1569275433846670190958947355801916604025588861116008628224) : (wAddW m n).1.val = m.val + n.val := by
  have h := adds_nat m n
  have hb := b2n_le (adds m n).2
  show (adds m n).1.val = _
  generalize (adds m n).1.val = v at *
  generalize b2n (adds m n).2 = c at *
  omega
theorem small_mul {m n : W6} (hm : m.val < 1569275433846670190958947355801916604025588861116008628224) (hn : n.val < 1569275433846670190958947355801916604025588861116008628224) : (wmW m n).1.val = m.val * n.val := by
  have h := wm_nat m n
  have hp : m.val * n.val < 1569275433846670190958947355801916604025588861116008628224 * 1569275433846670190958947355801916604025588861116008628224 := Nat.mul_lt_mul'' hm hn
  generalize m.val * n.val = x at *
  omega
end Go.Rq

/- The reference's points of the second curve: contracts. Written by a program of ours. -/
namespace Go.Rq
open Go Go.Proofs

/-- The reference's elements of two parts, left open. -/
structure DO where
  mu : D6 → D6 → D6
  ad : D6 → D6 → D6
  sb : D6 → D6 → D6
  iv : D6 → D6
  ne : D6 → D6
def doT (t : DO) : PureTab := [(99, fn2 c12.agg c12.agg c12.agg t.mu), (148, fn2 c12.agg c12.agg c12.agg t.ad), (109, fn2 c12.agg c12.agg c12.agg t.sb), (160, fn1 c12.agg c12.agg t.iv), (110, fn1 c12.agg c12.agg t.ne)]
def doO : DO := ⟨rmul2G roO, radd2G roO, rsub2G roO, rinv2G roO, rneg2G roO⟩
theorem doT_eq : [(99, fn2 c12.agg c12.agg c12.agg (rmul2G roO)), (148, fn2 c12.agg c12.agg c12.agg (radd2G roO)), (109, fn2 c12.agg c12.agg c12.agg (rsub2G roO)), (160, fn1 c12.agg c12.agg (rinv2G roO)), (110, fn1 c12.agg c12.agg (rneg2G roO))] = doT doO := by kernel_rfl
theorem doT_ok : TabPOk PR (doT doO) := Eq.subst (motive := TabPOk PR) doT_eq (TabPOk.cons rmul2_ok (TabPOk.cons radd2_ok (TabPOk.cons rsub2_ok (TabPOk.cons rinv2_ok (TabPOk.cons rneg2_ok TabPOk.nil)))))

/-! What is added in the equation. -/
def fourD : D6 := ⟨ofW 4#64, ofW 4#64⟩
theorem rfour_ctx : Ctx PR (envOf eqsT []) [] (fun _ => none) 10 149 :=
  ctx_of (envOf_ok eqsT_ok TabPOk.nil) mixed (fn := Try.f149) (by kernel_rfl) (by kernel_rfl) (by kernel_rfl) (tabOk_none _)
theorem rfour_run : (afunR PR (envOf eqsT []) [] (fun _ => none) 10 149 []).strict = .leaf (c12.agg.enc fourD) := by kernel_rfl
theorem rfour_ok : CallOk PR 149 (fn0 c12.agg fourD) :=
  .inl ⟨enters_of (fn := Try.f149) (by kernel_rfl) (by kernel_rfl) (by kernel_rfl), pure0 rfour_ctx (leafVal (B := c12.agg) (y := fourD) rfour_run)⟩

def rside2G (t : DO) (four : D6) (x : D6) : D6 := t.ad (t.mu (t.mu x x) x) four
def rsd2T (t : DO) (four : D6) : PureTab := (149, fn0 c12.agg four) :: doT t
theorem rside2_run (t : DO) (four : D6) (x : D6) : (afunR PR (envOf eqsT (rsd2T t four)) [] (fun _ => none) 40 100 [c12.agg.enc x]).strict = .leaf (c12.agg.enc (rside2G t four x)) := by kernel_rfl
theorem rside2_ctx : Ctx PR (envOf eqsT (rsd2T doO fourD)) [] (fun _ => none) 40 100 :=
  ctx_of (envOf_ok eqsT_ok (TabPOk.cons rfour_ok doT_ok)) mixed (fn := Try.f100) (by kernel_rfl) (by kernel_rfl) (by kernel_rfl) (tabOk_none _)
theorem rside2_ok : CallOk PR 100 (fn1 c12.agg c12.agg (rside2G doO fourD)) :=
  .inl ⟨enters_of (fn := Try.f100) (by kernel_rfl) (by kernel_rfl) (by kernel_rfl), pure1 rside2_ctx (fun a => leafVal (B := c12.agg) (y := rside2G doO fourD a) (rside2_run doO fourD a))⟩

/-! Is it a point? -/
set_option maxRecDepth 100000
def rck2T (t : DO) (bl : W6 → Bool) (sd : D6 → D6) : PureTab := (80, fn1 c6.agg kBool bl) :: (100, fn1 c12.agg c12.agg sd) :: doT t
theorem rck2_run (t : DO) (bl : W6 → Bool) (sd : D6 → D6) (p : Ap D6) : (afunR PR (envOf eqsT (rck2T t bl sd)) [4, 9, 19, 25, 31, 37] (fun _ => none) 40 42 [aD.agg.enc p]).strict =
    .br p.zero (.br (eqD p.x zeroD) (.leaf (kBool.enc (eqD p.y zeroD))) (.leaf (.lit false)))
      (.br (bl p.x.a) (.br (bl p.x.b) (.br (bl p.y.a) (.br (bl p.y.b) (.leaf (kBool.enc (eqD (t.mu p.y p.y) (sd p.x)))) (.leaf (.lit false))) (.leaf (.lit false))) (.leaf (.lit false))) (.leaf (.lit false))) := by kernel_rfl
def rcheck2G (t : DO) (bl : W6 → Bool) (sd : D6 → D6) (p : Ap D6) : Bool := bif p.zero then (bif eqD p.x zeroD then eqD p.y zeroD else false) else
  bif bl p.x.a then (bif bl p.x.b then (bif bl p.y.a then (bif bl p.y.b then eqD (t.mu p.y p.y) (sd p.x) else false) else false) else false) else false
theorem noHolds : (Tree.leaf (AV.lit false)).holds (fun q => flat q = some (kBool.val false)) := holds_leaf (a := .lit false) (v := kBool.val false) rfl
theorem rck2_gives (t : DO) (bl : W6 → Bool) (sd : D6 → D6) (p : Ap D6) : Gives (afunR PR (envOf eqsT (rck2T t bl sd)) [4, 9, 19, 25, 31, 37] (fun _ => none) 40 42 [aD.agg.enc p]) (kBool.val (rcheck2G t bl sd p)) :=
  givesOf (rck2_run t bl sd p)
    (holds_br (B := kBool) (holds_br (B := kBool) (holds_leaf (kBool.h1 _)) noHolds) (holds_br (B := kBool) (holds_br (B := kBool) (holds_br (B := kBool) (holds_br (B := kBool) (holds_leaf (kBool.h1 _)) noHolds) noHolds) noHolds) noHolds))
def rcheck2 : Ap D6 → Bool := rcheck2G doO belowI (rside2G doO fourD)
theorem rck2_ctx : Ctx PR (envOf eqsT (rck2T doO belowI (rside2G doO fourD))) [4, 9, 19, 25, 31, 37] (fun _ => none) 40 42 :=
  ctx_of (envOf_ok eqsT_ok (TabPOk.cons rbelow_ok (TabPOk.cons rside2_ok doT_ok))) mixed (fn := Try.f42) (by kernel_rfl) (by kernel_rfl) (by kernel_rfl) (tabOk_none _)
theorem rck2_ok : CallOk PR 42 (fn1 aD.agg kBool rcheck2) :=
  .inl ⟨enters_of (fn := Try.f42) (by kernel_rfl) (by kernel_rfl) (by kernel_rfl), pure1 rck2_ctx (fun p => rck2_gives doO belowI (rside2G doO fourD) p)⟩

/-! The negated one. -/
def rneg2P (t : DO) (p : Ap D6) : Ap D6 := ⟨p.x, t.ne p.y, p.zero⟩
theorem rneg2P_run (t : DO) (p : Ap D6) : (afunR PR (envOf eqsT (doT t)) [] (fun _ => none) 40 53 [aD.agg.enc p]).strict = .leaf (aD.agg.enc (rneg2P t p)) := by kernel_rfl
theorem rneg2P_ctx : Ctx PR (envOf eqsT (doT doO)) [] (fun _ => none) 40 53 :=
  ctx_of (envOf_ok eqsT_ok doT_ok) mixed (fn := Try.f53) (by kernel_rfl) (by kernel_rfl) (by kernel_rfl) (tabOk_none _)
theorem rneg2P_ok : CallOk PR 53 (fn1 aD.agg aD.agg (rneg2P doO)) :=
  .inl ⟨enters_of (fn := Try.f53) (by kernel_rfl) (by kernel_rfl) (by kernel_rfl), pure1 rneg2P_ctx (fun p => leafVal (B := aD.agg) (y := rneg2P doO p) (rneg2P_run doO p))⟩

/-! The sum by the slope. -/
def eqP25 (a b : Ap D6) : Bool := (a.x.a.w0 == b.x.a.w0) && ((a.x.a.w1 == b.x.a.w1) && ((a.x.a.w2 == b.x.a.w2) && ((a.x.a.w3 == b.x.a.w3) && ((a.x.a.w4 == b.x.a.w4) && ((a.x.a.w5 == b.x.a.w5) && ((a.x.b.w0 == b.x.b.w0) && ((a.x.b.w1 == b.x.b.w1) && ((a.x.b.w2 == b.x.b.w2) && ((a.x.b.w3 == b.x.b.w3) && ((a.x.b.w4 == b.x.b.w4) && ((a.x.b.w5 == b.x.b.w5) && ((a.y.a.w0 == b.y.a.w0) && ((a.y.a.w1 == b.y.a.w1) && ((a.y.a.w2 == b.y.a.w2) && ((a.y.a.w3 == b.y.a.w3) && ((a.y.a.w4 == b.y.a.w4) && ((a.y.a.w5 == b.y.a.w5) && ((a.y.b.w0 == b.y.b.w0) && ((a.y.b.w1 == b.y.b.w1) && ((a.y.b.w2 == b.y.b.w2) && ((a.y.b.w3 == b.y.b.w3) && ((a.y.b.w4 == b.y.b.w4) && ((a.y.b.w5 == b.y.b.w5) && ((a.zero == b.zero) && true))))))))))))))))))))))))
def rslopeA (t : DO) (a : Ap D6) : D6 := t.mu (t.ad (t.ad (t.mu a.x a.x) (t.mu a.x a.x)) (t.mu a.x a.x)) (t.iv (t.ad a.y a.y))
def rslopeB (t : DO) (a b : Ap D6) : D6 := t.mu (t.sb b.y a.y) (t.iv (t.sb b.x a.x))
theorem rslope_run (t : DO) (a b : Ap D6) : (afunR PR (envOf eqsT (doT t)) [8] (fun _ => none) 40 108 [aD.agg.enc a, aD.agg.enc b]).strict =
    .br (eqP25 a b) (.leaf (c12.agg.enc (rslopeA t a))) (.leaf (c12.agg.enc (rslopeB t a b))) := by kernel_rfl
def rslope (t : DO) (a b : Ap D6) : D6 := bif eqP25 a b then rslopeA t a else rslopeB t a b
theorem rslope_gives (t : DO) (a b : Ap D6) : Gives (afunR PR (envOf eqsT (doT t)) [8] (fun _ => none) 40 108 [aD.agg.enc a, aD.agg.enc b]) (c12.agg.val (rslope t a b)) :=
  givesOf (rslope_run t a b) (holds_br (B := c12.agg) (holds_leaf (c12.agg.h1 _)) (holds_leaf (c12.agg.h1 _)))
theorem rslope_ctx : Ctx PR (envOf eqsT (doT doO)) [8] (fun _ => none) 40 108 :=
  ctx_of (envOf_ok eqsT_ok doT_ok) mixed (fn := Try.f108) (by kernel_rfl) (by kernel_rfl) (by kernel_rfl) (tabOk_none _)
theorem rslope_ok : CallOk PR 108 (fn2 aD.agg aD.agg c12.agg (rslope doO)) :=
  .inl ⟨enters_of (fn := Try.f108) (by kernel_rfl) (by kernel_rfl) (by kernel_rfl), pure2 rslope_ctx (fun a b => rslope_gives doO a b)⟩
def rchord2 (t : DO) (a b : Ap D6) (m : D6) : Ap D6 :=
  let x := t.sb (t.sb (t.mu m m) a.x) b.x
  ⟨x, t.sb (t.mu m (t.sb a.x x)) a.y, false⟩
def apD (p : Ap D6) (z : Bool) : AV := .agg (c12.enc p.x ++ (c12.enc p.y ++ [.lit z]))
theorem apD_flat (p : Ap D6) (z : Bool) (h : p.zero = z) : flat (apD p z) = some (aD.agg.val p) := by
  obtain ⟨x, y, w⟩ := p
  simp at h; subst h
  exact apFlatD x y w
def rad2T (t : DO) (N : Ap D6 → Ap D6) (S : Ap D6 → Ap D6 → D6) : PureTab := (53, fn1 aD.agg aD.agg N) :: (108, fn2 aD.agg aD.agg c12.agg S) :: doT t
theorem rad2_run (t : DO) (N : Ap D6 → Ap D6) (S : Ap D6 → Ap D6 → D6) (a b : Ap D6) : (afunR PR (envOf eqsT (rad2T t N S)) [8, 11, 16] (fun _ => none) 40 52 [aD.agg.enc a, aD.agg.enc b]).strict =
    .br a.zero (.leaf (aD.agg.enc b)) (.br b.zero (.leaf (aD.agg.enc a)) (.br (eqP25 a (N b)) (.leaf (apD ⟨zeroD, zeroD, true⟩ true)) (.leaf (apD (rchord2 t a b (S a b)) false)))) := by kernel_rfl
def rad2G (t : DO) (N : Ap D6 → Ap D6) (S : Ap D6 → Ap D6 → D6) (a b : Ap D6) : Ap D6 := bif a.zero then b else bif b.zero then a else bif eqP25 a (N b) then ⟨zeroD, zeroD, true⟩ else rchord2 t a b (S a b)
theorem rad2_gives (t : DO) (N : Ap D6 → Ap D6) (S : Ap D6 → Ap D6 → D6) (a b : Ap D6) : Gives (afunR PR (envOf eqsT (rad2T t N S)) [8, 11, 16] (fun _ => none) 40 52 [aD.agg.enc a, aD.agg.enc b]) (aD.agg.val (rad2G t N S a b)) :=
  givesOf (rad2_run t N S a b) (holds_br (B := aD.agg) (holds_leaf (aD.agg.h1 _)) (holds_br (B := aD.agg) (holds_leaf (aD.agg.h1 _)) (holds_br (B := aD.agg) (holds_leaf (apD_flat _ _ rfl)) (holds_leaf (apD_flat _ _ rfl)))))
def rad2 : Ap D6 → Ap D6 → Ap D6 := rad2G doO (rneg2P doO) (rslope doO)
theorem rad2_ctx : Ctx PR (envOf eqsT (rad2T doO (rneg2P doO) (rslope doO))) [8, 11, 16] (fun _ => none) 40 52 :=
  ctx_of (envOf_ok eqsT_ok (TabPOk.cons rneg2P_ok (TabPOk.cons rslope_ok doT_ok))) mixed (fn := Try.f52) (by kernel_rfl) (by kernel_rfl) (by kernel_rfl) (tabOk_none _)
theorem rad2_ok : CallOk PR 52 (fn2 aD.agg aD.agg aD.agg rad2) :=
  .inl ⟨enters_of (fn := Try.f52) (by kernel_rfl) (by kernel_rfl) (by kernel_rfl), pure2 rad2_ctx (fun a b => rad2_gives doO (rneg2P doO) (rslope doO) a b)⟩

/-! The generator. -/
def rgen2P : Ap D6 := ⟨⟨⟨0xd48056c8c121bdb8#64, 0x0bac0326a805bbef#64, 0xb4510b647ae3d177#64, 0xc6e47ad4fa403b02#64, 0x260805272dc51051#64, 0x024aa2b2f08f0a91#64⟩, ⟨0xe5ac7d055d042b7e#64, 0x334cf11213945d57#64, 0xb5da61bbdc7f5049#64, 0x596bd0d09920b61a#64, 0x7dacd3a088274f65#64, 0x13e02b6052719f60#64⟩⟩,
  ⟨⟨0xe193548608b82801#64, 0x923ac9cc3baca289#64, 0x6d429a695160d12c#64, 0xadfd9baa8cbdd3a7#64, 0x8cc9cdc6da2e351a#64, 0x0ce5d527727d6e11#64⟩, ⟨0xaaa9075ff05f79be#64, 0x3f370d275cec1da1#64, 0x267492ab572e99ab#64, 0xcb3e287e85a763af#64, 0x32acd2b02bc28b99#64, 0x0606c4a02ea734cc#64⟩⟩, false⟩
theorem rgen2_ctx : Ctx PR (envOf eqsT []) [] (fun _ => none) 10 47 :=
  ctx_of (envOf_ok eqsT_ok TabPOk.nil) mixed (fn := Try.f47) (by kernel_rfl) (by kernel_rfl) (by kernel_rfl) (tabOk_none _)
theorem rgen2_run : (afunR PR (envOf eqsT []) [] (fun _ => none) 10 47 []).strict = .leaf (apD rgen2P false) := by kernel_rfl
theorem rgen2_ok : CallOk PR 47 (fn0 aD.agg rgen2P) :=
  .inl ⟨enters_of (fn := Try.f47) (by kernel_rfl) (by kernel_rfl) (by kernel_rfl), pure0 rgen2_ctx (givesOf rgen2_run (holds_leaf (apD_flat _ _ rfl)))⟩

/-! A point by words, and by a number. -/
def thOf2 (p : Ap D6) : Th := ⟨p.x, p.y, ⟨numOne, zeroW⟩, false⟩
theorem many2_run (tw : Th → D6 × D6 × Bool) (ok : Nat → Bool) (mu : Th → W6 → Nat → Th) (p : Ap D6) (w : W6) (len cap : Nat) : Tree.but [3] 0 (afunT PR (maE tw ok mu) [10, 29] (fun _ => none) 40 111 [aD.agg.enc p, .slc 0 0 len cap] (oneAH c6 47 w) 1) =
    .br p.zero (.leaf (aD.agg.enc p)) (.need (ok len && true) (.br (!(tw (mu (thOf2 p) w len)).2.2) (.leaf (apD ⟨zeroD, zeroD, true⟩ true)) (.leaf (apD ⟨(tw (mu (thOf2 p) w len)).1, (tw (mu (thOf2 p) w len)).2.1, false⟩ false)))) := by kernel_rfl
def many2G (tw : Th → D6 × D6 × Bool) (mu : Th → W6 → Nat → Th) (p : Ap D6) (w : W6) (len : Nat) : Ap D6 :=
  bif p.zero then p else bif !(tw (mu (thOf2 p) w len)).2.2 then ⟨zeroD, zeroD, true⟩ else ⟨(tw (mu (thOf2 p) w len)).1, (tw (mu (thOf2 p) w len)).2.1, false⟩
theorem many2_gives (tw : Th → D6 × D6 × Bool) (ok : Nat → Bool) (mu : Th → W6 → Nat → Th) (p : Ap D6) (w : W6) (len cap : Nat) (hk : ok len = true) :
    GivesH (afun PR (maE tw ok mu) [10, 29] (fun _ => none) 40 111 [aD.agg.enc p, .slc 0 0 len cap] (oneAH c6 47 w) 1) (aD.agg.val (many2G tw mu p w len)) :=
  givesU (many2_run tw ok mu p w len cap) (holds_br (B := aD.agg) (holds_leaf (aD.agg.h1 _)) ⟨by rw [hk]; rfl, holds_br (B := aD.agg) (holds_leaf (apD_flat _ _ rfl)) (holds_leaf (apD_flat _ _ rfl))⟩)
def many2W : Ap D6 → W6 → Nat → Ap D6 := many2G twW multW
theorem many2_okH : HeapOk PR 111 (slv 47 aD.agg c6 aD.agg le6 many2W) :=
  slv_ok (E := maE twW le6 multW) (sym := [10, 29]) (lf := 40) (tab := fun _ _ _ _ => fun _ => none) maE_ok mixed (fn := Try.f111) (c := bodyOf PR 111) (by kernel_rfl) (by kernel_rfl) (by kernel_rfl)
    (fun _ _ _ _ _ => tabOk_none _) (fun p w len cap hk => many2_gives twW le6 multW p w len cap hk)
theorem many2_ent : Enters PR 111 := enters_of (fn := Try.f111) (by kernel_rfl) (by kernel_rfl) (by kernel_rfl)
noncomputable def ml2E (ok : Nat → Bool) (ma : Ap D6 → W6 → Nat → Ap D6) (L : W6 → Nat) : Env :=
  envL eqsT [] [(111, slv 47 aD.agg c6 aD.agg ok ma)] [(98, layS c6.agg 47 c6 L 6 (fun n => n))] false
theorem rml2_run (ok : Nat → Bool) (ma : Ap D6 → W6 → Nat → Ap D6) (L : W6 → Nat) (p : Ap D6) (n : W6) : Tree.but [1] 0 (afunR PR (ml2E ok ma L) [] (fun _ => none) 40 54 [aD.agg.enc p, c6.agg.enc n]) =
    .need (ok (L n) && true) (.leaf (aD.agg.enc (ma p n (L n)))) := by kernel_rfl
theorem ml2E_ok : EnvOk PR (ml2E le6 many2W (wdL rlenI)) := envL_ok eqsT_ok TabPOk.nil (TabHOk.cons many2_ent many2_okH TabHOk.nil) (TabLOk.cons words_ent words_okL TabLOk.nil)
theorem rml2_ctx : Ctx PR (ml2E le6 many2W (wdL rlenI)) [] (fun _ => none) 40 54 :=
  ctx_of (ml2E_ok) mixed (fn := Try.f54) (by kernel_rfl) (by kernel_rfl) (by kernel_rfl) (tabOk_none _)
theorem rml2_gives (ok : Nat → Bool) (ma : Ap D6 → W6 → Nat → Ap D6) (L : W6 → Nat) (p : Ap D6) (n : W6) (h : ok (L n) = true) : Gives (afunR PR (ml2E ok ma L) [] (fun _ => none) 40 54 [aD.agg.enc p, c6.agg.enc n]) (aD.agg.val (ma p n (L n))) :=
  givesB (rml2_run ok ma L p n) ⟨by rw [h]; rfl, aD.agg.h1 _⟩
def rml2 (p : Ap D6) (n : W6) : Ap D6 := many2W p n (wdL rlenI n)
theorem rml2_ok : CallOk PR 54 (fn2 aD.agg c6.agg aD.agg rml2) :=
  .inl ⟨enters_of (fn := Try.f54) (by kernel_rfl) (by kernel_rfl) (by kernel_rfl), pure2 rml2_ctx (fun p n => rml2_gives le6 many2W (wdL rlenI) p n (Nat.ble_eq_true_of_le (wdL_le n).1))⟩

/-! Is it of the group? -/
def rinT2 (ck : Ap D6 → Bool) (od : W6) (ml : Ap D6 → W6 → Ap D6) : PureTab := [(42, fn1 aD.agg kBool ck), (89, fn0 c6.agg od), (54, fn2 aD.agg c6.agg aD.agg ml)]
theorem rin2_run (ck : Ap D6 → Bool) (od : W6) (ml : Ap D6 → W6 → Ap D6) (p : Ap D6) : (afunR PR (envOf eqsT (rinT2 ck od ml)) [5] (fun _ => none) 40 45 [aD.agg.enc p]).strict =
    .br (ck p) (.leaf (kBool.enc (ml p od).zero)) (.leaf (.lit false)) := by kernel_rfl
def rin2G (ck : Ap D6 → Bool) (od : W6) (ml : Ap D6 → W6 → Ap D6) (p : Ap D6) : Bool := bif ck p then (ml p od).zero else false
theorem rin2_gives (ck : Ap D6 → Bool) (od : W6) (ml : Ap D6 → W6 → Ap D6) (p : Ap D6) : Gives (afunR PR (envOf eqsT (rinT2 ck od ml)) [5] (fun _ => none) 40 45 [aD.agg.enc p]) (kBool.val (rin2G ck od ml p)) :=
  givesOf (rin2_run ck od ml p) (holds_br (B := kBool) (holds_leaf (kBool.h1 _)) noHolds)
def rin2 : Ap D6 → Bool := rin2G rcheck2 orderW rml2
theorem rin2_ctx : Ctx PR (envOf eqsT (rinT2 rcheck2 orderW rml2)) [5] (fun _ => none) 40 45 :=
  ctx_of (envOf_ok eqsT_ok (TabPOk.cons rck2_ok (TabPOk.cons rorder_ok (TabPOk.cons rml2_ok TabPOk.nil)))) mixed (fn := Try.f45) (by kernel_rfl) (by kernel_rfl) (by kernel_rfl) (tabOk_none _)
theorem rin2_ok : CallOk PR 45 (fn1 aD.agg kBool rin2) :=
  .inl ⟨enters_of (fn := Try.f45) (by kernel_rfl) (by kernel_rfl) (by kernel_rfl), pure1 rin2_ctx (fun p => rin2_gives rcheck2 orderW rml2 p)⟩

/-! Is what is told the wanted one? -/
def nonePD : Ap D6 := ⟨zeroD, zeroD, false⟩
theorem onl2_run (p : Ap D6) (e : Int) (f : Bool) (w : Ap D6) : (afunR PR (envOf eqsT []) [10, 14, 21] (fun _ => none) 40 51 [aD.agg.enc p, (kInt .i64).enc e, kBool.enc f, aD.agg.enc w]).strict =
    .br (!f) (.br (eqP25 p nonePD) (.leaf (kBool.enc (e == 5))) (.leaf (.lit false))) (.br (eqP25 p w) (.leaf (kBool.enc (e == 0))) (.leaf (.lit false))) := by kernel_rfl
def twoLG (p : Ap D6) (e : Int) (f : Bool) (w : Ap D6) : Bool := bif !f then (bif eqP25 p nonePD then e == 5 else false) else (bif eqP25 p w then e == 0 else false)
theorem onl2_ctx : Ctx PR (envOf eqsT []) [10, 14, 21] (fun _ => none) 40 51 :=
  ctx_of (envOf_ok eqsT_ok TabPOk.nil) mixed (fn := Try.f51) (by kernel_rfl) (by kernel_rfl) (by kernel_rfl) (tabOk_none _)
theorem onl2_ok : CallOk PR 51 (fn4 aD.agg (kInt .i64) kBool aD.agg kBool twoLG) :=
  .inl ⟨enters_of (fn := Try.f51) (by kernel_rfl) (by kernel_rfl) (by kernel_rfl), pure4 onl2_ctx (fun p e f w => givesOf (onl2_run p e f w)
    (holds_br (B := kBool) (holds_br (B := kBool) (holds_leaf (kBool.h1 _)) noHolds) (holds_br (B := kBool) (holds_leaf (kBool.h1 _)) noHolds)))⟩
end Go.Rq

/- The law CurveSecond, gone through: what is called left open. -/
namespace Go.Rq
open Go Go.Proofs

def loT2 (t : LO D6) : PureTab := [(42, fn1 aD.agg kBool t.ck), (43, fn1 aD.agg kBool t.ckP), (45, fn1 aD.agg kBool t.ig), (44, fn1 aD.agg kBool t.igP),
  (47, fn0 aD.agg t.ge), (46, fn0 aD.agg t.geP), (53, fn1 aD.agg aD.agg t.ne), (48, fn1 aD.agg kPD t.neP),
  (52, fn2 aD.agg aD.agg aD.agg t.ad), (49, fn2 aD.agg aD.agg kPD t.adP), (54, fn2 aD.agg c6.agg aD.agg t.mu), (50, fn2 aD.agg c6.agg kPD t.muP),
  (51, fn4 aD.agg (kInt .i64) kBool aD.agg kBool t.on)]
noncomputable def loE2 (t : LO D6) : Env := envH eqsT (loT2 t) []

set_option maxRecDepth 1000000 in
theorem second_law (t : LO D6) (a b : Ap D6) (n : W6) : (afunR PR (loE2 t) [24, 28, 34, 38, 57, 62, 68, 78, 90, 93] (fun _ => none) 10 5 [aD.agg.enc a, aD.agg.enc b, c6.agg.enc n]).strict = loTree eqP25 t a b n := by kernel_rfl

end Go.Rq

/- The law on the chapter's examples: what its function comes to. -/
namespace Go.Rq
open Go Go.Proofs

set_option maxRecDepth 1000000 in
theorem aw_run : (afunR PR awE [] (fun _ => none) 10 55 []).strict = .leaf (.v (.bool true)) := by kernel_rfl
theorem aw_ok : CallOk PR 55 (fn0 kBool true) :=
  .inl ⟨enters_of (fn := Try.f55) (by kernel_rfl) (by kernel_rfl) (by kernel_rfl), pure0 aw_ctx (givesOf aw_run (holds_leaf (v := kBool.val true) rfl))⟩

def knT : PureTab := (55, fn0 kBool true) :: knT0
theorem knT_ok : TabPOk PR knT := TabPOk.cons aw_ok knT0_ok
noncomputable def knE : Env := envH eqsT knT [(56, viewG PR suV [] 10 56)]
theorem knE_ok : EnvOk PR knE := envH_ok eqsT_ok knT_ok (TabHOk.cons su_entW (view_ok suV_ctx) TabHOk.nil)
theorem kn_ctx : Ctx PR knE [] (fun _ => none) 10 10 :=
  ctx_of knE_ok mixed (fn := Try.f10) (by kernel_rfl) (by kernel_rfl) (by kernel_rfl) (tabOk_none _)
set_option maxRecDepth 1000000 in
theorem kn_run : (afunR PR knE [] (fun _ => none) 10 10 []).strict = .leaf (.v (.bool true)) := by kernel_rfl
end Go.Rq

/- The laws CurveGroup1 and CurveGroup2, gone through: what is called left open. -/
namespace Go.Rq
open Go Go.Proofs

structure GP (K : Type) where
  ck : Ap K → Bool
  ad : Ap K → Ap K → Ap K × Int
  ne : Ap K → Ap K × Int

def grT : Tree AV := .leaf (kBool.enc true)
def grF : Tree AV := .leaf (.lit false)
def grpEnd {K : Type} (eqP : Ap K → Ap K → Bool) (zp : Ap K) (t : GP K) (a b c : Ap K) : Tree AV :=
  .br (eqP (t.ad a b).1 (t.ad b a).1) (.br (eqP (t.ad (t.ad a b).1 c).1 (t.ad a (t.ad b c).1).1) (.br (eqP (t.ad a (t.ne a).1).1 zp) (.br (eqP (t.ad a zp).1 a) (.leaf (kBool.enc (t.ck (t.ad (t.ad a b).1 c).1))) grF) grF) grF) grF
def grpTree {K : Type} (eqP : Ap K → Ap K → Bool) (zp : Ap K) (t : GP K) (a b c : Ap K) : Tree AV :=
  .br (!t.ck a) grT (.br (!t.ck b) grT (.br (!t.ck c) grT
    (.br ((t.ad a b).2 == 0) (.br ((t.ad b a).2 == 0) (.br ((t.ad b c).2 == 0) (.br ((t.ad (t.ad a b).1 c).2 == 0) (.br ((t.ad a (t.ad b c).1).2 == 0) (.br ((t.ne a).2 == 0) (.br ((t.ad a (t.ne a).1).2 == 0) (.br ((t.ad a zp).2 == 0)
      (grpEnd eqP zp t a b c) grF)
      (.br false (grpEnd eqP zp t a b c) grF)) (.br false (grpEnd eqP zp t a b c) grF)) (.br false (grpEnd eqP zp t a b c) grF)) (.br false (grpEnd eqP zp t a b c) grF)) (.br false (grpEnd eqP zp t a b c) grF)) (.br false (grpEnd eqP zp t a b c) grF)) (.br false (grpEnd eqP zp t a b c) grF))))

def gpT1 (t : GP W6) : PureTab := [(55, fn0 kBool true), (30, fn1 aW.agg kBool t.ck), (36, fn2 aW.agg aW.agg kPW t.ad), (35, fn1 aW.agg kPW t.ne)]
noncomputable def gpE1 (t : GP W6) : Env := envH eqsT (gpT1 t) []
def zeroP1 : Ap W6 := ⟨zeroW, zeroW, true⟩
set_option maxRecDepth 1000000 in
theorem group1_law (t : GP W6) (a b c : Ap W6) : (afunR PR (gpE1 t) [29, 34, 38, 89, 93, 97, 101, 105, 109, 113, 121, 126, 131, 136, 141] (fun _ => none) 10 6 [aW.agg.enc a, aW.agg.enc b, aW.agg.enc c]).strict = grpTree eqP13 zeroP1 t a b c := by kernel_rfl

def gpT2 (t : GP D6) : PureTab := [(55, fn0 kBool true), (43, fn1 aD.agg kBool t.ck), (49, fn2 aD.agg aD.agg kPD t.ad), (48, fn1 aD.agg kPD t.ne)]
noncomputable def gpE2 (t : GP D6) : Env := envH eqsT (gpT2 t) []
def zeroP2 : Ap D6 := ⟨zeroD, zeroD, true⟩
set_option maxRecDepth 1000000 in
theorem group2_law (t : GP D6) (a b c : Ap D6) : (afunR PR (gpE2 t) [29, 34, 38, 89, 93, 97, 101, 105, 109, 113, 121, 126, 131, 136, 141] (fun _ => none) 10 8 [aD.agg.enc a, aD.agg.enc b, aD.agg.enc c]).strict = grpTree eqP25 zeroP2 t a b c := by kernel_rfl

/-- What makes the laws true. -/
structure GPOk {K : Type} (eqP : Ap K → Ap K → Bool) (zp : Ap K) (t : GP K) : Prop where
  refl : ∀ p, eqP p p = true
  ad : ∀ p q, t.ck p = true → t.ck q = true → (t.ad p q).2 = 0 ∧ t.ck (t.ad p q).1 = true
  ne : ∀ p, t.ck p = true → (t.ne p).2 = 0 ∧ t.ck (t.ne p).1 = true
  zc : t.ck zp = true
  comm : ∀ p q, t.ck p = true → t.ck q = true → (t.ad p q).1 = (t.ad q p).1
  assoc : ∀ p q r, t.ck p = true → t.ck q = true → t.ck r = true → (t.ad (t.ad p q).1 r).1 = (t.ad p (t.ad q r).1).1
  neg : ∀ p, t.ck p = true → (t.ad p (t.ne p).1).1 = zp
  zero : ∀ p, t.ck p = true → (t.ad p zp).1 = p

theorem grT_ok : grT.holds (fun q => flat q = some (.bool true)) := rfl
theorem go_on {c : Bool} {x y : Tree AV} (hc : c = true) (h : x.holds (fun q => flat q = some (.bool true))) : (Tree.br c x y).holds (fun q => flat q = some (.bool true)) := ⟨fun _ => h, fun hf => by rw [hc] at hf; cases hf⟩
theorem eq_zero {z : Int} (h : z = 0) : (z == 0) = true := by rw [h]; rfl
theorem grpTree_true {K : Type} {eqP : Ap K → Ap K → Bool} {zp : Ap K} {t : GP K} (h : GPOk eqP zp t) (a b c : Ap K) : (grpTree eqP zp t a b c).holds (fun q => flat q = some (.bool true)) := by
  unfold grpTree grpEnd
  refine ⟨fun _ => grT_ok, fun ha => ⟨fun _ => grT_ok, fun hb => ⟨fun _ => grT_ok, fun hc => ?_⟩⟩⟩
  have ha : t.ck a = true := by simpa using ha
  have hb : t.ck b = true := by simpa using hb
  have hc : t.ck c = true := by simpa using hc
  obtain ⟨e1, k1⟩ := h.ad a b ha hb
  obtain ⟨e2, k2⟩ := h.ad b a hb ha
  obtain ⟨e3, k3⟩ := h.ad b c hb hc
  obtain ⟨e4, k4⟩ := h.ad _ c k1 hc
  obtain ⟨e5, k5⟩ := h.ad a _ ha k3
  obtain ⟨e6, k6⟩ := h.ne a ha
  obtain ⟨e7, k7⟩ := h.ad a _ ha k6
  obtain ⟨e8, k8⟩ := h.ad a zp ha h.zc
  refine go_on (eq_zero e1) (go_on (eq_zero e2) (go_on (eq_zero e3) (go_on (eq_zero e4) (go_on (eq_zero e5) (go_on (eq_zero e6) (go_on (eq_zero e7) (go_on (eq_zero e8) (go_on ?_ (go_on ?_ (go_on ?_ (go_on ?_ ?_)))))))))))
  · rw [h.comm a b ha hb]; exact h.refl _
  · rw [h.assoc a b c ha hb hc]; exact h.refl _
  · rw [h.neg a ha]; exact h.refl _
  · rw [h.zero a ha]; exact h.refl _
  · rw [k4]; rfl
end Go.Rq

/- The law CurveTimes, gone through: what is called left open. -/
namespace Go.Rq
open Go Go.Proofs

structure TL (K : Type) where
  ck : Ap K → Bool
  ad : Ap K → Ap K → Ap K × Int
  mu : Ap K → W6 → Ap K × Int
structure WL where
  sh : W6 → Sh → W6
  ad : W6 → W6 → W6 × Bool
  mu : W6 → W6 → W6 × W6

def tmPart {K : Type} (eqP : Ap K → Ap K → Bool) (t : TL K) (a : Ap K) (m n s p : W6) (rest : Tree AV) : Tree AV :=
  .br (t.ck a) (.br (!(eqP (t.mu a s).1 (t.ad (t.mu a m).1 (t.mu a n).1).1)) grF (.br (!(eqP (t.mu (t.mu a m).1 n).1 (t.mu a p).1)) grF (.br (!((t.ad (t.mu a m).1 (t.mu a n).1).2 == 0)) grF (.br (!((t.mu a p).2 == 0)) grF rest)))) rest
def tmTree {K L : Type} (eqP : Ap K → Ap K → Bool) (eqQ : Ap L → Ap L → Bool) (t : TL K) (u : TL L) (w : WL) (a : Ap K) (b : Ap L) (m n : W6) : Tree AV :=
  tmPart eqP t a (w.sh (w.sh m .up) .down) (w.sh (w.sh n .up) .down) (w.ad (w.sh (w.sh m .up) .down) (w.sh (w.sh n .up) .down)).1 (w.mu (w.sh (w.sh m .up) .down) (w.sh (w.sh n .up) .down)).1
    (tmPart eqQ u b (w.sh (w.sh m .up) .down) (w.sh (w.sh n .up) .down) (w.ad (w.sh (w.sh m .up) .down) (w.sh (w.sh n .up) .down)).1 (w.mu (w.sh (w.sh m .up) .down) (w.sh (w.sh n .up) .down)).1 grT)

def tmT (t : TL W6) (u : TL D6) (w : WL) : PureTab := [(55, fn0 kBool true), (60, fn2 c6.agg kSh c6.agg w.sh), (61, fn2 c6.agg c6.agg kWB w.ad), (62, fn2 c6.agg c6.agg kNN w.mu),
  (30, fn1 aW.agg kBool t.ck), (36, fn2 aW.agg aW.agg kPW t.ad), (37, fn2 aW.agg c6.agg kPW t.mu),
  (43, fn1 aD.agg kBool u.ck), (49, fn2 aD.agg aD.agg kPD u.ad), (50, fn2 aD.agg c6.agg kPD u.mu)]
noncomputable def tmE (t : TL W6) (u : TL D6) (w : WL) : Env := envH eqsT (tmT t u w) []
set_option maxRecDepth 1000000 in
theorem times_law (t : TL W6) (u : TL D6) (w : WL) (a : Ap W6) (b : Ap D6) (m n : W6) : (afunR PR (tmE t u w) [58, 98, 103, 107, 110, 112, 152, 157, 161, 164] (fun _ => none) 10 9 [aW.agg.enc a, aD.agg.enc b, c6.agg.enc m, c6.agg.enc n]).strict =
    tmTree eqP13 eqP25 t u w a b m n := by kernel_rfl

/-- What makes the law true. -/
structure TLOk {K : Type} (eqP : Ap K → Ap K → Bool) (t : TL K) : Prop where
  refl : ∀ p, eqP p p = true
  main : ∀ (a : Ap K) (m n s p : W6), t.ck a = true → s.val = m.val + n.val → p.val = m.val * n.val →
    (t.mu a s).1 = (t.ad (t.mu a m).1 (t.mu a n).1).1 ∧ (t.mu (t.mu a m).1 n).1 = (t.mu a p).1 ∧ (t.ad (t.mu a m).1 (t.mu a n).1).2 = 0 ∧ (t.mu a p).2 = 0

theorem go_by {c : Bool} {x y : Tree AV} (hc : c = false) (h : y.holds (fun q => flat q = some (.bool true))) : (Tree.br c x y).holds (fun q => flat q = some (.bool true)) := ⟨fun ht => (by rw [hc] at ht; cases ht), fun _ => h⟩
theorem tmPart_true {K : Type} {eqP : Ap K → Ap K → Bool} {t : TL K} (h : TLOk eqP t) (a : Ap K) {m n s p : W6} (hs : s.val = m.val + n.val) (hp : p.val = m.val * n.val) {rest : Tree AV} (hr : rest.holds (fun q => flat q = some (.bool true))) :
    (tmPart eqP t a m n s p rest).holds (fun q => flat q = some (.bool true)) := by
  unfold tmPart
  refine ⟨fun hc => ?_, fun _ => hr⟩
  obtain ⟨h1, h2, h3, h4⟩ := h.main a m n s p hc hs hp
  refine go_by ?_ (go_by ?_ (go_by ?_ (go_by ?_ hr)))
  · rw [h1, h.refl]; rfl
  · rw [h2, h.refl]; rfl
  · rw [h3]; rfl
  · rw [h4]; rfl
end Go.Rq
