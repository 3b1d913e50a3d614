/- The law CurveFirst holds of what the functions come to. -/
import Derived.Test.YtdbcjiggimppdaaGreatRq17
import Derived.Test.YtdbcjiggimppdaaGreatRq15
import Derived.Test.YtdbcjiggimppdaaGreatRq10
namespace Go.Rq
open Go Go.Proofs

/-! The reference's operations go like a field's. -/
section
variable {K : Type} [Rg K] {iv : K → K} {e : K → K → Bool} {R : K → W6 → Prop} {t : RO}

structure RRel (R : K → W6 → Prop) (iv : K → K) (e : K → K → Bool) (t : RO) : Prop where
  mu : ∀ {x y : K} {a b : W6}, R x a → R y b → R (x * y) (t.mu t.fp a b)
  ad : ∀ {x y : K} {a b : W6}, R x a → R y b → R (x + y) (t.ad t.fp a b)
  sb : ∀ {x y : K} {a b : W6}, R x a → R y b → R (x - y) (t.sb t.fp a b)
  ne : ∀ {x : K} {a : W6}, R x a → R (-x) (t.ne t.fp a)
  iv : ∀ {x : K} {a : W6}, R x a → R (iv x) (t.iv t.fp a)
  zero : R 0 zeroW
  one : R 1 numOne
  eq : ∀ {x y : K} {a b : W6}, R x a → R y b → e x y = eqW a b
  inj : ∀ {x : K} {a b : W6}, R x a → R x b → a = b

/-- An element of one part. -/
structure S1 (R : K → W6 → Prop) (x : K) (d : D6) : Prop where
  a : R x d.a
  b : d.b = zeroW

theorem RRel.cast {J : Type} {R : J → W6 → Prop} {x y : J} {a : W6} (h : R x a) (e : x = y) : R y a := e ▸ h

theorem s1_add (h : RRel R iv e t) {x y : K} {a b : D6} (p : S1 R x a) (q : S1 R y b) : S1 R (x + y) (radd2G t a b) :=
  ⟨h.ad p.a q.a, by
    show t.ad t.fp a.b b.b = zeroW
    rw [p.b, q.b]
    exact h.inj (RRel.cast (h.ad h.zero h.zero) (Rg.add_zero 0)) h.zero⟩
theorem s1_neg (h : RRel R iv e t) {x : K} {a : D6} (p : S1 R x a) : S1 R (-x) (rneg2G t a) :=
  ⟨h.ne p.a, by
    show t.ne t.fp a.b = zeroW
    rw [p.b]
    exact h.inj (RRel.cast (h.ne h.zero) rg_neg_zero) h.zero⟩
theorem s1_sub (h : RRel R iv e t) {x y : K} {a b : D6} (p : S1 R x a) (q : S1 R y b) : S1 R (x - y) (rsub2G t a b) := by
  have := s1_add h p (s1_neg h q)
  rw [← Rg.sub_eq x y] at this
  exact this
theorem s1_tm (h : RRel R iv e t) {x : K} {a : D6} (p : S1 R x a) : ∀ k : Nat, S1 R (tmK x k) (timesA (radd2G t) a k)
  | 0 => ⟨h.zero, rfl⟩
  | k + 1 => s1_add h (s1_tm h p k) p

def thG (t : RO) : TH := ⟨thmG t (rmul2G t), fun a s => timesA (radd2G t) a s.n, rsub2G t⟩
theorem trel1 (h : RRel R iv e t) : TRel (S1 R) true e (thG t) where
  mu := fun {p x y a b} ho ha hb => by
    show S1 R (x * y) (bif p.one then ⟨t.mu t.fp a.a b.a, zeroW⟩ else rmul2G t a b)
    rw [ho]
    exact ⟨h.mu ha.a hb.a, rfl⟩
  tm s ha := s1_tm h ha s.n
  sb ha hb := s1_sub h ha hb
  zero := ⟨h.zero, rfl⟩
  eq := fun {x y a b} ha hb => by
    rw [eqW_D, ha.b, hb.b, h.eq ha.a hb.a, (eqW_iff zeroW zeroW).2 rfl]
    cases eqW a.a b.a <;> rfl

theorem lowK_zero {p : Jp K} (h : (lowK iv e p).zero = true) : lowK iv e p = ⟨0, 0, true⟩ := by
  unfold lowK at h ⊢
  cases hz : e p.z 0 with
  | true => rfl
  | false => rw [hz] at h; cases h

def multOf (t : RO) (p : Th) (w : W6) (len : Nat) : Th := multG ⟨dblG (thG t), addG (thG t) (dblG (thG t))⟩ p w (64 * len) (noneT p.one)
def manyOf (t : RO) : Ap W6 → W6 → Nat → Ap W6 := manyG (twG t (rinv2G t) (thmG t (rmul2G t))) (multOf t)

theorem many_rel (h : RRel R iv e t) {P : Ap K} {p : Ap W6} (hp : RA R P p) (n : W6) (len : Nat) : RA R (bif P.zero then P else lowK iv e (multK e n.bit ⟨P.x, P.y, 1⟩ (64 * len) noneJ)) (manyOf t p n len) := by
  have hT := trel1 h
  unfold manyOf manyG
  rw [hp.z]
  cases hz : p.zero with
  | true => exact hp
  | false =>
    rw [cond_false, cond_false]
    have hb : TJ (S1 R) true ⟨P.x, P.y, 1⟩ (thOf p) := ⟨⟨hp.x, rfl⟩, ⟨hp.y, rfl⟩, ⟨h.one, rfl⟩, rfl⟩
    have hm := mult_rel hT hb n (64 * len) (noneT_rel hT (b := true) rfl)
    have hi : ∀ {x : K} {a : D6}, S1 R x a → S1 R (iv x) (bif true then ⟨t.iv t.fp a.a, zeroW⟩ else rinv2G t a) := fun hx => ⟨h.iv hx.a, rfl⟩
    obtain ⟨h1, h2, h3⟩ := two_rel hT (r := t) hi hm
    have h1' : (twG t (rinv2G t) (thmG t (rmul2G t)) (multOf t (thOf p) n len)).2.2 = !(lowK iv e (multK e n.bit ⟨P.x, P.y, 1⟩ (64 * len) noneJ)).zero := h1
    rw [h1', Bool.not_not]
    cases hl : (lowK iv e (multK e n.bit ⟨P.x, P.y, 1⟩ (64 * len) noneJ)).zero with
    | true =>
      rw [lowK_zero hl]
      exact ⟨h.zero, h.zero, rfl⟩
    | false => exact ⟨h2.a, h3.a, hl⟩

theorem rcheck_rel (h : RRel R iv e t) {f : Fl K} (hf : R f.b (ofW 4#64)) {P : Ap K} {p : Ap W6} (hp : RA R P p) {bl : W6 → Bool} (h1 : bl p.x = true) (h2 : bl p.y = true) :
    rcheckG t bl (rsideG t) p = onE (foK iv) e f P := by
  have hs : eqW (t.mu t.fp p.y p.y) (rsideG t p.x) = e (P.y * P.y) (P.x * P.x * P.x + f.b) := (h.eq (h.mu hp.y hp.y) (h.ad (h.mu (h.mu hp.x hp.x) hp.x) hf)).symm
  unfold rcheckG onE
  rw [hp.z, h1, h2, foK_zero, ← h.eq hp.x h.zero, ← h.eq hp.y h.zero, hs]
  rfl

theorem eqP13_iff (a b : Ap W6) : eqP13 a b = true ↔ a = b := by
  obtain ⟨⟨a0, a1, a2, a3, a4, a5⟩, ⟨a6, a7, a8, a9, a10, a11⟩, az⟩ := a
  obtain ⟨⟨b0, b1, b2, b3, b4, b5⟩, ⟨b6, b7, b8, b9, b10, b11⟩, bz⟩ := b
  simp [eqP13, and_assoc]

theorem ra_eq (h : RRel R iv e t) {A B : Ap K} {a b : Ap W6} (ha : RA R A a) (hb : RA R B b) : eqP13 a b = eqA e A B := by
  rw [Bool.eq_iff_iff, eqP13_iff]
  unfold eqA
  rw [h.eq ha.x hb.x, h.eq ha.y hb.y, ha.z, hb.z]
  simp only [Bool.and_eq_true, eqW_iff, beq_iff_eq]
  obtain ⟨ax, ay, az⟩ := a
  obtain ⟨bx, bY, bz⟩ := b
  simp

theorem rneg_rel (h : RRel R iv e t) {A : Ap K} {a : Ap W6} (ha : RA R A a) : RA R (negK A) (rneg1G t a) := ⟨ha.x, h.ne ha.y, ha.z⟩

theorem rchord_rel (h : RRel R iv e t) {A B : Ap K} {a b : Ap W6} (ha : RA R A a) (hb : RA R B b) {m : K} {w : W6} (hm : R m w) : RA R (chordK A B m) (rchord t a b w) := by
  have x := h.sb (h.sb (h.mu hm hm) ha.x) hb.x
  exact ⟨x, h.sb (h.mu hm (h.sb ha.x x)) ha.y, rfl⟩

theorem radd_rel (h : RRel R iv e t) {A B : Ap K} {a b : Ap W6} (ha : RA R A a) (hb : RA R B b) : RA R (sumA iv e A B) (radd1G t (rneg1G t) a b) := by
  unfold sumA radd1G
  rw [ha.z, hb.z, ra_eq h ha (rneg_rel h hb), ra_eq h ha hb]
  cases a.zero
  · cases b.zero
    · cases eqA e A (negK B)
      · cases eqA e A B
        · exact rchord_rel h ha hb (h.mu (h.sb hb.y ha.y) (h.iv (h.sb hb.x ha.x)))
        · have s := h.mu ha.x ha.x
          exact rchord_rel h ha hb (h.mu (h.ad (h.ad s s) s) (h.iv (h.ad ha.y ha.y)))
      · exact ⟨h.zero, h.zero, rfl⟩
    · exact ha
  · exact hb

theorem ra_inj (h : RRel R iv e t) {A : Ap K} {a b : Ap W6} (ha : RA R A a) (hb : RA R A b) : a = b := by
  obtain ⟨ax, ay, az⟩ := a
  obtain ⟨bx, bY, bz⟩ := b
  have h1 := h.inj ha.x hb.x
  have h2 := h.inj ha.y hb.y
  have h3 := ha.z.symm.trans hb.z
  simp at h1 h2 h3
  rw [h1, h2, h3]
end

theorem on_none {K : Type} [Rg K] {iv : K → K} {e : K → K → Bool} (F : Fd K iv e) {f : Fl K} {p : Ap K} (h : onE (foK iv) e f p = true) (hz : p.zero = true) : p = ⟨0, 0, true⟩ := by
  unfold onE at h
  rw [hz, cond_true, foK_zero] at h
  obtain ⟨x, y, z⟩ := p
  simp only at h hz
  cases h1 : e x 0 with
  | false => rw [h1] at h; cases h
  | true =>
    rw [h1, cond_true] at h
    rw [F.eq.1 h1, F.eq.1 h, hz]

/-- A field, its elements as the program keeps them (M) and as they are told (P). -/
structure Lk {K : Type} [Rg K] (iv : K → K) (e : K → K → Bool) (M P : K → W6 → Prop) (f : Fl K) : Prop where
  F : Fd K iv e
  rel : FRel M (foK iv) fW e eqW
  m1 : M 1 oneW
  m0 : M 0 zeroW
  to : ∀ {x : K} {w : W6}, P x w → M x (toW w)
  fr : ∀ {x : K} {w : W6}, M x w → P x (fromW w)
  of : ∀ {w : W6}, w.val < pN → ∃ x, P x w
  ref : RRel P iv e roO
  f1 : f.one = 1
  fb : P f.b (ofW 4#64)

section
variable {K : Type} [Rg K] {iv : K → K} {e : K → K → Bool} {M P : K → W6 → Prop} {f : Fl K}

theorem fl_of {J : Type} {Q M : J → W6 → Prop} {t : W6 → W6} (ht : ∀ {x : J} {w : W6}, Q x w → M x (t w)) {f : Fl J} {o w : W6} (h1 : M f.one o) (hb : Q f.b w) : RFl M f ⟨o, t w⟩ := ⟨h1, ht hb⟩
theorem ra_of {J : Type} {Q M : J → W6 → Prop} {t : W6 → W6} (ht : ∀ {x : J} {w : W6}, Q x w → M x (t w)) {A : Ap J} {p : Ap W6} (h : RA Q A p) : RA M A ⟨t p.x, t p.y, p.zero⟩ := ⟨ht h.x, ht h.y, h.z⟩
theorem Lk.fl (L : Lk iv e M P f) : RFl M f fld1 := by
  unfold fld1
  exact fl_of (Q := P) (M := M) (t := toW) L.to (by rw [L.f1]; exact L.m1) L.fb
theorem Lk.inn (L : Lk iv e M P f) {A : Ap K} {p : Ap W6} (h : RA P A p) : RA M A (inP1 p) := by
  unfold inP1
  exact ra_of (Q := P) (M := M) (t := toW) L.to h
theorem Lk.out (L : Lk iv e M P f) {A : Ap K} {p : Ap W6} (h : RA M A p) : RA P A (outP1 p) := by
  unfold outP1
  exact ra_of (Q := M) (M := P) (t := fromW) L.fr h

theorem Lk.times (L : Lk iv e M P f) {f : Fl K} {g : Fl W6} {p : Jp K} {q : Jp W6} (hf : RFl M f g) (hp : RJ M p q) (n : W6) : RJ M (timesF iv e f p n) (timesW g q n) := by
  unfold timesF timesW
  exact times_rel L.rel hf hp n _ ⟨hf.one, hf.one, L.m0⟩
theorem Lk.ga (L : Lk iv e M P f) : GRel M (gaF iv e) gaOW := g_rel L.rel L.times

theorem Lk.below (L : Lk iv e M P f) {p : Ap W6} (h : belowP1 p = true) : ∃ A : Ap K, RA P A p := by
  unfold belowP1 at h
  cases hx : belowI p.x with
  | false => rw [hx] at h; cases h
  | true =>
    rw [hx, cond_true] at h
    rw [belowI_nat] at hx h
    obtain ⟨x, h1⟩ := L.of (of_decide_eq_true hx)
    obtain ⟨y, h2⟩ := L.of (of_decide_eq_true h)
    exact ⟨⟨x, y, p.zero⟩, h1, h2, rfl⟩

theorem zero_below : belowI zeroW = true := by rw [belowI_nat]; decide +kernel

theorem Lk.check (L : Lk iv e M P f) (p : Ap W6) : checkP1 p = rcheck1 p := by
  unfold checkP1
  cases hb : belowP1 p with
  | true =>
    obtain ⟨A, hP⟩ := L.below hb
    unfold belowP1 at hb
    have hx : belowI p.x = true := by
      cases hx : belowI p.x with
      | false => rw [hx] at hb; cases hb
      | true => rfl
    rw [hx, cond_true] at hb
    rw [cond_true, ← on_rel L.rel L.fl (L.inn hP)]
    exact (rcheck_rel L.ref L.fb hP hx hb).symm
  | false =>
    rw [cond_false]
    unfold rcheck1 rcheckG
    unfold belowP1 at hb
    cases hz : p.zero with
    | true =>
      rw [cond_true]
      cases hx : eqW p.x zeroW with
      | false => rfl
      | true =>
        cases hy : eqW p.y zeroW with
        | false => rfl
        | true =>
          rw [(eqW_iff _ _).1 hx, (eqW_iff _ _).1 hy, zero_below] at hb
          cases hb
    | false =>
      rw [cond_false]
      cases hx : belowI p.x with
      | false => rfl
      | true =>
        rw [hx, cond_true] at hb
        rw [hb]; rfl

/-- What is a point. -/
theorem Lk.point (L : Lk iv e M P f) {p : Ap W6} (h : rcheck1 p = true) : belowP1 p = true ∧ ∃ A : Ap K, RA P A p ∧ onE (foK iv) e f A = true := by
  rw [← L.check] at h
  unfold checkP1 at h
  cases hb : belowP1 p with
  | false => rw [hb] at h; cases h
  | true =>
    obtain ⟨A, hP⟩ := L.below hb
    rw [hb, cond_true, ← on_rel L.rel L.fl (L.inn hP)] at h
    exact ⟨rfl, A, hP, h⟩
theorem Lk.on (L : Lk iv e M P f) {p : Ap W6} (h : rcheck1 p = true) : onE fW eqW fld1 (inP1 p) = true := by
  obtain ⟨-, A, hP, hon⟩ := L.point h
  rw [← on_rel L.rel L.fl (L.inn hP)]
  exact hon
theorem Lk.off (L : Lk iv e M P f) {p : Ap W6} (h : rcheck1 p = false) (hb : belowP1 p = true) : onE fW eqW fld1 (inP1 p) = false := by
  rw [← L.check] at h
  unfold checkP1 at h
  rw [hb, cond_true] at h
  exact h

theorem Lk.rmul (L : Lk iv e M P f) {A : Ap K} {p : Ap W6} (hp : RA P A p) (n : W6) : RA P (bif A.zero then A else lowK iv e (multK e n.bit ⟨A.x, A.y, 1⟩ (64 * wdL rlenI n) noneJ)) (rmul1 p n) := many_rel L.ref hp n (wdL rlenI n)

theorem Lk.n0 (L : Lk iv e M P f) : fromW zeroW = zeroW := L.ref.inj (L.fr L.m0) L.ref.zero
theorem Lk.nn (L : Lk iv e M P f) : ((outP1 ⟨zeroW, zeroW, false⟩, 5) : Ap W6 × Int) = (noneP, 5) := by
  unfold outP1
  rw [L.n0]
  rfl

theorem sum1_def (p : Ap W6) (n : W6) : sumP1W p n = bif belowP1 p then (outP1 (ga1 gaOW zeroW fld1 (inP1 p) n).1, (ga1 gaOW zeroW fld1 (inP1 p) n).2) else (noneP, 5) := by unfold sumP1W sm1 suOW gath1W; rfl
theorem ga1_def (p : Ap W6) (n : W6) (h : onE fW eqW fld1 p = false) : ga1 gaOW zeroW fld1 p n = (⟨zeroW, zeroW, false⟩, 5) := by
  have hg : ga1 gaOW zeroW fld1 p n = bif onE fW eqW fld1 p then (gaOW.lo fld1 (gaOW.su fld1 ⟨fld1.one, fld1.one, zeroW⟩ (gaOW.ti fld1 (gaOW.ra fld1 p) n)), 0) else (⟨zeroW, zeroW, false⟩, 5) := rfl
  rw [hg, h]; rfl
def unitN : W6 × W6 := (ofW (bitW true), ofW (bitW true))
theorem add1_def (p q : Ap W6) : addP1 p q = bif belowP1 p then (bif belowP1 q then (outP1 (ga2 gaOW zeroW fld1 (inP1 p, inP1 q) unitN).1, (ga2 gaOW zeroW fld1 (inP1 p, inP1 q) unitN).2) else (noneP, 5)) else (noneP, 5) := by
  unfold addP1 sumP2W sm2 suOW gath2W; rfl
theorem ga2_defA (p q : Ap W6) (n : W6 × W6) (h : onE fW eqW fld1 p = false) : ga2 gaOW zeroW fld1 (p, q) n = (⟨zeroW, zeroW, false⟩, 5) := by
  have hg : ga2 gaOW zeroW fld1 (p, q) n = bif onE fW eqW fld1 p then (bif onE fW eqW fld1 q then
      (gaOW.lo fld1 (gaOW.su fld1 (gaOW.su fld1 ⟨fld1.one, fld1.one, zeroW⟩ (gaOW.ti fld1 (gaOW.ra fld1 p) n.1)) (gaOW.ti fld1 (gaOW.ra fld1 q) n.2)), 0) else (⟨zeroW, zeroW, false⟩, 5)) else (⟨zeroW, zeroW, false⟩, 5) := rfl
  rw [hg, h]; rfl
theorem ga2_defB (p q : Ap W6) (n : W6 × W6) (h : onE fW eqW fld1 q = false) : ga2 gaOW zeroW fld1 (p, q) n = (⟨zeroW, zeroW, false⟩, 5) := by
  have hg : ga2 gaOW zeroW fld1 (p, q) n = bif onE fW eqW fld1 p then (bif onE fW eqW fld1 q then
      (gaOW.lo fld1 (gaOW.su fld1 (gaOW.su fld1 ⟨fld1.one, fld1.one, zeroW⟩ (gaOW.ti fld1 (gaOW.ra fld1 p) n.1)) (gaOW.ti fld1 (gaOW.ra fld1 q) n.2)), 0) else (⟨zeroW, zeroW, false⟩, 5)) else (⟨zeroW, zeroW, false⟩, 5) := rfl
  rw [hg, h]
  cases onE fW eqW fld1 p <;> rfl

theorem Lk.mul (L : Lk iv e M P f) (p : Ap W6) (n : W6) : sumP1W p n = bif rcheck1 p then (rmul1 p n, 0) else (noneP, 5) := by
  rw [sum1_def]
  cases hc : rcheck1 p with
  | true =>
    obtain ⟨hb, A, hP, hon⟩ := L.point hc
    obtain ⟨h1, h2⟩ := ga1_rel L.ga L.m0 L.fl (L.inn hP) n
    have h3 := ga1_low L.F L.f1 (on_none L.F hon) hon n (wdL_le n).2
    rw [h3] at h1 h2
    rw [hb, cond_true, cond_true, ← h2, ra_inj L.ref (L.out h1) (L.rmul hP n)]
  | false =>
    rw [cond_false]
    cases hb : belowP1 p with
    | false => rfl
    | true =>
      rw [cond_true, ga1_def _ n (L.off hc hb)]
      exact L.nn

theorem Lk.add (L : Lk iv e M P f) (p q : Ap W6) : addP1 p q = bif rcheck1 p then (bif rcheck1 q then (radd1 p q, 0) else (Go.Rq.noneP, 5)) else (Go.Rq.noneP, 5) := by
  rw [add1_def]
  cases hc : rcheck1 p with
  | false =>
    rw [cond_false]
    cases hb : belowP1 p with
    | false => rfl
    | true =>
      cases hb2 : belowP1 q with
      | false => rfl
      | true =>
        rw [cond_true, cond_true, ga2_defA _ _ _ (L.off hc hb)]
        exact L.nn
  | true =>
    rw [cond_true, (L.point hc).1, cond_true]
    cases hd : rcheck1 q with
    | false =>
      rw [cond_false]
      cases hb2 : belowP1 q with
      | false => rfl
      | true =>
        rw [cond_true, ga2_defB _ _ _ (L.off hd hb2)]
        exact L.nn
    | true =>
      rw [cond_true, (L.point hd).1, cond_true]
      obtain ⟨-, A, hP, hon⟩ := L.point hc
      obtain ⟨-, B, hQ, hoq⟩ := L.point hd
      obtain ⟨h1, h2⟩ := ga2_rel L.ga L.m0 L.fl (x := (A, B)) (y := (inP1 p, inP1 q)) (L.inn hP) (L.inn hQ) unitN
      have h3 : ga2 (gaF iv e) 0 f (A, B) unitN = (sumA iv e A B, 0) := ga2_low L.F L.f1 (on_none L.F hon) (on_none L.F hoq) hon hoq
      rw [h3] at h1 h2
      have h4 : RA P (sumA iv e A B) (radd1 p q) := radd_rel L.ref hP hQ
      rw [← h2, ra_inj L.ref (L.out h1) h4]

theorem Lk.neg (L : Lk iv e M P f) (p : Ap W6) : negP1 p = bif rcheck1 p then (rneg1G roO p, 0) else (Go.Rq.noneP, 5) := by
  unfold negP1
  rw [L.check]
  cases hc : rcheck1 p with
  | false => rw [Bool.not_false, cond_true, cond_false]; rfl
  | true =>
    obtain ⟨-, A, hP, -⟩ := L.point hc
    have h1 := L.out (neg_rel L.rel (L.inn hP))
    have h2 : negE (foK iv) A = negK A := by
      unfold negE negK
      rw [foK_zero, foK_sub]
      congr 1
      rw [Rg.sub_eq]
      exact rg_zero_add _
    rw [h2] at h1
    rw [ra_inj L.ref h1 (rneg_rel L.ref hP), Bool.not_true, cond_false, cond_true]

theorem rin1_def (p : Ap W6) : rin1 p = bif rcheck1 p then (rmul1 p orderW).zero else false := by unfold rin1 rin1G; rfl
theorem inGroup_def (p : Ap W6) : inGroup1 p = bif belowP1 p then (bif onE fW eqW fld1 (inP1 p) then (lowerE fW eqW (timesW fld1 (raiseJ fW fld1 (inP1 p)) orderW)).zero else false) else false := by
  unfold inGroup1 inEW inGW lowFW; rfl
theorem Lk.ing (L : Lk iv e M P f) (p : Ap W6) : inGroup1 p = bif rcheck1 p then rin1 p else false := by
  rw [inGroup_def, rin1_def]
  cases hc : rcheck1 p with
  | true =>
    obtain ⟨hb, A, hP, hon⟩ := L.point hc
    have h1 := lower_rel L.rel (L.times L.fl (raise_rel L.rel L.fl (L.inn hP)) orderW)
    rw [times_low L.F L.f1 (on_none L.F hon) orderW (wdL_le orderW).2] at h1
    rw [hb, cond_true, L.on hc, cond_true, cond_true, cond_true, ← h1.z, (L.rmul hP orderW).z]
  | false =>
    rw [cond_false]
    cases hb : belowP1 p with
    | false => rfl
    | true =>
      rw [L.off hc hb]; rfl

theorem ap_eq {V : Type} {x y u v : V} {b : Bool} (h : x = u) (k : y = v) : (⟨x, y, b⟩ : Ap V) = ⟨u, v, b⟩ := by rw [h, k]
theorem gen1_eq : gen1P = rgen1P := by
  unfold gen1P rgen1P
  exact ap_eq (by decide +kernel) (by decide +kernel)

def loO : LO W6 := ⟨rcheck1, checkP1, rin1, inGroup1, rgen1P, gen1P, rneg1G roO, negP1, radd1, addP1, rmul1, sumP1W, oneG⟩
theorem Lk.law (L : Lk iv e M P f) : LOk eqP13 Go.Rq.noneP loO where
  on _ _ _ _ := rfl
  refl p := (eqP13_iff p p).2 rfl
  ck p := L.check p
  ig p := L.ing p
  ge := gen1_eq
  ne p := L.neg p
  ad p q := L.add p q
  mu p n := L.mul p n
end

/-! The great prime. -/
theorem pow_rel {K : Type} [Rg K] {R : K → W6 → Prop} {t : PO} {f : Fa} {a e : W6} (hm : ∀ {x y : K} {v w : W6}, R x v → R y w → R (x * y) (t.mu f v w)) {x : K} (h : R x a) :
    ∀ (k : Nat) {y : K} {o : Option W6}, R y (ovP o) → R (pwB (fun i => t.bt e (i : Int) == 1) x k y) (ovP (powR t f a e k o))
  | 0, y, o, hy => hy
  | k + 1, y, o, hy => by
    simp only [pwB, powR]
    apply pow_rel hm h k
    cases t.bt e (k : Int) == 1
    · exact hm hy hy
    · exact hm (hm hy hy) h

theorem rp_mul {x y : F1} {a b : W6} (h : RP x a) (k : RP y b) : RP (x * y) (rmulW fastP a b) := rp_of_mul h k (rmulW_nat a b (rp_lt k))
theorem exp_eq : (rsubW primeW numTwo).1 = expInv := by decide +kernel
theorem exp_len : (rlenI expInv).toNat = 381 := by decide +kernel
theorem exp_bitsI : bitsV (fun i => bitI expInv (i : Int) == 1) 381 = pN - 2 := by decide +kernel
theorem rpoO_mu : rpoO.mu = rmulW := by simp only [rpoO]
theorem rpoO_bt : rpoO.bt = bitI := by simp only [rpoO]
theorem roO_fp : roO.fp = fastP := by simp only [roO]
theorem roO_mu : roO.mu = rmulW := by simp only [roO]
theorem roO_ad : roO.ad = rfadd := by simp only [roO]
theorem roO_sb : roO.sb = rfsub := by simp only [roO]
theorem roO_ne : roO.ne = rfneg := by simp only [roO]
theorem roO_iv : roO.iv = rinvW := by simp only [roO]
theorem rinvW_pow (a : W6) : rinvW fastP a = ovP (powR rpoO fastP a expInv 381 none) := by
  unfold rinvW rpowW rpowO
  rw [show fastP.1 = primeW from rfl, exp_eq, exp_len]
theorem rp_inv {x : F1} {a : W6} (h : RP x a) : RP (iv1 x) (rinvW fastP a) := by
  have h1 := pow_rel (K := F1) (R := RP) (t := rpoO) (f := fastP) (e := expInv) (fun h k => by rw [rpoO_mu]; exact rp_mul h k) h 381 (y := 1) (o := none) (rp_of_one (by decide +kernel))
  rw [rpoO_bt, pwB_one exp_bitsI] at h1
  rw [rinvW_pow, iv1_pow]
  exact h1

theorem rrel1 : RRel RP iv1 eq1 roO where
  mu := fun h k => by rw [roO_mu, roO_fp]; exact rp_mul h k
  ad := fun {x y a b} h k => by
    have hv := rfadd_nat (rp_lt h) (rp_lt k)
    rw [roO_ad, roO_fp]
    generalize rfadd fastP a b = w at hv ⊢
    exact rp_of_add h k hv
  sb := fun {x y a b} h k => by
    have hv := rfsub_nat (rp_lt h) (rp_lt k)
    rw [roO_sb, roO_fp]
    generalize rfsub fastP a b = w at hv ⊢
    exact rp_of_sub h k hv
  ne := fun {x a} h => by
    have hv := rfneg_nat (rp_lt h)
    rw [roO_ne, roO_fp]
    generalize rfneg fastP a = w at hv ⊢
    exact rp_of_neg h hv
  iv := fun h => by rw [roO_iv, roO_fp]; exact rp_inv h
  zero := rp_zero
  one := rp_of_one (by decide +kernel)
  eq := fun h k => rp_eq h k
  inj := fun h k => rp_inj h k

theorem four_lt : (ofW 4#64).val < pN := by decide +kernel
theorem link1 : ∃ b : F1, Lk iv1 eq1 RM RP ⟨1, b⟩ := by
  obtain ⟨b, hb⟩ := rp_of four_lt
  exact ⟨b, fd1, relM, rm_one, rm_zero, rm_to, rp_from, rp_of, rrel1, rfl, hb⟩
theorem loO_ok : LOk eqP13 noneP loO := by
  obtain ⟨b, L⟩ := link1
  exact L.law
end Go.Rq

/- Numbers: shifts by 194, products. -/
namespace Go.Rq
open Go Go.Proofs

/-! The two shifts that are told. -/
inductive Sh | up | down
def Sh.i : Sh → Int | .up => 194 | .down => -194
def shOf (k : IntKind) (n : Int) : Option Sh := match decide (k = .i64) with
  | false => none
  | true => match decide (n = 194) with
    | true => some .up
    | false => match decide (n = -194) with
      | true => some .down
      | false => none
def kSh : Cod Sh where
  enc s := .v (.int .i64 s.i)
  dec a := match a with
    | .v (.int k n) => shOf k n
    | _ => none
  val s := .int .i64 s.i
  h1 _ := rfl
  h2 ρ a v x h r := by
    split at h
    · rename_i k n
      cases r
      unfold shOf at h
      split at h
      · cases h
      · rename_i hk
        have hk := of_decide_eq_true hk
        subst hk
        split at h
        · rename_i e; simp at h; subst h; rw [of_decide_eq_true e]; rfl
        · split at h
          · rename_i e; simp at h; subst h; rw [of_decide_eq_true e]; rfl
          · cases h
    · cases h
def shUp (a : W6) : W6 := ⟨0#64, 0#64, 0#64, a.w0 <<< 2, a.w1 <<< 2 ||| a.w0 >>> 62, a.w2 <<< 2 ||| a.w1 >>> 62⟩
def shDown (a : W6) : W6 := ⟨a.w4 <<< 62 ||| a.w3 >>> 2, a.w5 <<< 62 ||| a.w4 >>> 2, 0#64 ||| a.w5 >>> 2, 0#64, 0#64, 0#64⟩
def shW (a : W6) : Sh → W6
  | .up => shUp a
  | .down => shDown a
set_option maxRecDepth 100000 in
theorem shUp_run (a : W6) : (afunR PR (envOf eqsT []) [] (fun _ => none) 40 44 [c6.agg.enc a, (kInt .i64).enc 194]).strict = .leaf (c6.agg.enc (shUp a)) := by kernel_rfl
set_option maxRecDepth 100000 in
theorem shDown_run (a : W6) : (afunR PR (envOf eqsT []) [] (fun _ => none) 40 44 [c6.agg.enc a, (kInt .i64).enc (-194)]).strict = .leaf (c6.agg.enc (shDown a)) := by kernel_rfl
theorem sh_gives (a : W6) (s : Sh) : Gives (afunR PR (envOf eqsT []) [] (fun _ => none) 40 44 [c6.agg.enc a, kSh.enc s]) (c6.agg.val (shW a s)) := by
  cases s
  · exact leafVal (B := c6.agg) (y := shUp a) (shUp_run a)
  · exact leafVal (B := c6.agg) (y := shDown a) (shDown_run a)
theorem sh2_ok : CallOk PR 44 (fn2 c6.agg kSh c6.agg shW) :=
  .inl ⟨enters_of (fn := Tryz.f44) (by kernel_rfl) (by kernel_rfl) (by kernel_rfl), pure2 (C := kSh) shift_ctx sh_gives⟩

/-! The product of two numbers. -/
def mrG (M : BitVec 64 → BitVec 64 → BitVec 64 × BitVec 64) (S : BitVec 64 → BitVec 64 → Bool → BitVec 64 × Bool) (t : W6) (a : BitVec 64) (b : W6) : BitVec 64 × W6 :=
  let mc := fun (y u c : BitVec 64) => let p := M a y; let s := S p.2 u false; let h := p.1 + bitW s.2; let r := S s.1 c false; ((r.1, h + bitW r.2) : BitVec 64 × BitVec 64)
  let r0 := mc b.w0 t.w0 (bitW false)
  let r1 := mc b.w1 t.w1 r0.2
  let r2 := mc b.w2 t.w2 r1.2
  let r3 := mc b.w3 t.w3 r2.2
  let r4 := mc b.w4 t.w4 r3.2
  let r5 := mc b.w5 t.w5 r4.2
  (r0.1, ⟨r1.1, r2.1, r3.1, r4.1, r5.1, r5.2⟩)
def wmG (M : BitVec 64 → BitVec 64 → BitVec 64 × BitVec 64) (S : BitVec 64 → BitVec 64 → Bool → BitVec 64 × Bool) (a b : W6) : W6 × W6 :=
  let q0 := mrG M S zeroW a.w0 b
  let q1 := mrG M S q0.2 a.w1 b
  let q2 := mrG M S q1.2 a.w2 b
  let q3 := mrG M S q2.2 a.w3 b
  let q4 := mrG M S q3.2 a.w4 b
  let q5 := mrG M S q4.2 a.w5 b
  (⟨q0.1, q1.1, q2.1, q3.1, q4.1, q5.1⟩, q5.2)
def kNN : Cod (W6 × W6) := kTup c6.agg c6.agg (fun _ => rfl) (fun _ => rfl)
def wmW : W6 → W6 → W6 × W6 := wmG mul64 add64
/-! As numbers. -/
theorem mrW_eq {t : W6} {a : BitVec 64} {b : W6} {r0 r1 r2 r3 r4 r5 : BitVec 64 × BitVec 64}
    (h0 : mac a b.w0 t.w0 (bitW false) = r0) (h1 : mac a b.w1 t.w1 r0.2 = r1) (h2 : mac a b.w2 t.w2 r1.2 = r2) (h3 : mac a b.w3 t.w3 r2.2 = r3) (h4 : mac a b.w4 t.w4 r3.2 = r4) (h5 : mac a b.w5 t.w5 r4.2 = r5) :
    mrG mul64 add64 t a b = (r0.1, ⟨r1.1, r2.1, r3.1, r4.1, r5.1, r5.2⟩) := by
  subst h0 h1 h2 h3 h4 h5
  rfl
theorem mr_sum {p0 t0 r0 c0 p1 t1 r1 c1 p2 t2 r2 c2 p3 t3 r3 c3 p4 t4 r4 c4 p5 t5 r5 c5 : Nat} (e0 : r0 + 18446744073709551616 * c0 = p0 + t0) (e1 : r1 + 18446744073709551616 * c1 = p1 + t1 + c0) (e2 : r2 + 18446744073709551616 * c2 = p2 + t2 + c1) (e3 : r3 + 18446744073709551616 * c3 = p3 + t3 + c2) (e4 : r4 + 18446744073709551616 * c4 = p4 + t4 + c3) (e5 : r5 + 18446744073709551616 * c5 = p5 + t5 + c4) :
    r0 + 18446744073709551616 * (r1 + 18446744073709551616 * r2 + 340282366920938463463374607431768211456 * r3 + 6277101735386680763835789423207666416102355444464034512896 * r4 + 115792089237316195423570985008687907853269984665640564039457584007913129639936 * r5 + 2135987035920910082395021706169552114602704522356652769947041607822219725780640550022962086936576 * c5) =
    (t0 + 18446744073709551616 * t1 + 340282366920938463463374607431768211456 * t2 + 6277101735386680763835789423207666416102355444464034512896 * t3 + 115792089237316195423570985008687907853269984665640564039457584007913129639936 * t4 + 2135987035920910082395021706169552114602704522356652769947041607822219725780640550022962086936576 * t5) +
    (p0 + 18446744073709551616 * p1 + 340282366920938463463374607431768211456 * p2 + 6277101735386680763835789423207666416102355444464034512896 * p3 + 115792089237316195423570985008687907853269984665640564039457584007913129639936 * p4 + 2135987035920910082395021706169552114602704522356652769947041607822219725780640550022962086936576 * p5) := by
  omega
theorem mr_nat (t : W6) (a : BitVec 64) (b : W6) : (mrG mul64 add64 t a b).1.toNat + 18446744073709551616 * (mrG mul64 add64 t a b).2.val = t.val + a.toNat * b.val := by
  obtain ⟨r0, hr0⟩ : ∃ r, mac a b.w0 t.w0 (bitW false) = r := ⟨_, rfl⟩
  obtain ⟨r1, hr1⟩ : ∃ r, mac a b.w1 t.w1 r0.2 = r := ⟨_, rfl⟩
  obtain ⟨r2, hr2⟩ : ∃ r, mac a b.w2 t.w2 r1.2 = r := ⟨_, rfl⟩
  obtain ⟨r3, hr3⟩ : ∃ r, mac a b.w3 t.w3 r2.2 = r := ⟨_, rfl⟩
  obtain ⟨r4, hr4⟩ : ∃ r, mac a b.w4 t.w4 r3.2 = r := ⟨_, rfl⟩
  obtain ⟨r5, hr5⟩ : ∃ r, mac a b.w5 t.w5 r4.2 = r := ⟨_, rfl⟩
  have hres := mrW_eq hr0 hr1 hr2 hr3 hr4 hr5
  have e0 := mac_nat a b.w0 t.w0 (bitW false)
  rw [hr0, show (bitW false).toNat = 0 from rfl, Nat.add_zero] at e0
  have e1 := mac_nat a b.w1 t.w1 r0.2
  rw [hr1] at e1
  have e2 := mac_nat a b.w2 t.w2 r1.2
  rw [hr2] at e2
  have e3 := mac_nat a b.w3 t.w3 r2.2
  rw [hr3] at e3
  have e4 := mac_nat a b.w4 t.w4 r3.2
  rw [hr4] at e4
  have e5 := mac_nat a b.w5 t.w5 r4.2
  rw [hr5] at e5
  have sum := mr_sum e0 e1 e2 e3 e4 e5
  rw [← val_mul a.toNat b] at sum
  rw [hres]
  exact sum
theorem wm_sum {o0 o1 o2 o3 o4 o5 v1 v2 v3 v4 v5 v6 x0 x1 x2 x3 x4 x5 : Nat} (h0 : o0 + 18446744073709551616 * v1 = 0 + x0) (h1 : o1 + 18446744073709551616 * v2 = v1 + x1) (h2 : o2 + 18446744073709551616 * v3 = v2 + x2) (h3 : o3 + 18446744073709551616 * v4 = v3 + x3) (h4 : o4 + 18446744073709551616 * v5 = v4 + x4) (h5 : o5 + 18446744073709551616 * v6 = v5 + x5) :
    (o0 + 18446744073709551616 * o1 + 340282366920938463463374607431768211456 * o2 + 6277101735386680763835789423207666416102355444464034512896 * o3 + 115792089237316195423570985008687907853269984665640564039457584007913129639936 * o4 + 2135987035920910082395021706169552114602704522356652769947041607822219725780640550022962086936576 * o5) + 39402006196394479212279040100143613805079739270465446667948293404245721771497210611414266254884915640806627990306816 * v6 =
    (x0 + 18446744073709551616 * x1 + 340282366920938463463374607431768211456 * x2 + 6277101735386680763835789423207666416102355444464034512896 * x3 + 115792089237316195423570985008687907853269984665640564039457584007913129639936 * x4 + 2135987035920910082395021706169552114602704522356652769947041607822219725780640550022962086936576 * x5) := by
  omega
theorem wm_nat (a b : W6) : (wmW a b).1.val + 39402006196394479212279040100143613805079739270465446667948293404245721771497210611414266254884915640806627990306816 * (wmW a b).2.val = a.val * b.val := by
  have hb : a.val * b.val = (a.w0.toNat * b.val) + 18446744073709551616 * (a.w1.toNat * b.val) + 340282366920938463463374607431768211456 * (a.w2.toNat * b.val) + 6277101735386680763835789423207666416102355444464034512896 * (a.w3.toNat * b.val) + 115792089237316195423570985008687907853269984665640564039457584007913129639936 * (a.w4.toNat * b.val) + 2135987035920910082395021706169552114602704522356652769947041607822219725780640550022962086936576 * (a.w5.toNat * b.val) := by
    rw [Nat.mul_comm, val_mul]
    simp only [Nat.mul_comm b.val]
  rw [hb]
  have h0 := mr_nat zeroW a.w0 b
  rw [zero_val] at h0
  have h1 := mr_nat (mrG mul64 add64 zeroW a.w0 b).2 a.w1 b
  have h2 := mr_nat (mrG mul64 add64 (mrG mul64 add64 zeroW a.w0 b).2 a.w1 b).2 a.w2 b
  have h3 := mr_nat (mrG mul64 add64 (mrG mul64 add64 (mrG mul64 add64 zeroW a.w0 b).2 a.w1 b).2 a.w2 b).2 a.w3 b
  have h4 := mr_nat (mrG mul64 add64 (mrG mul64 add64 (mrG mul64 add64 (mrG mul64 add64 zeroW a.w0 b).2 a.w1 b).2 a.w2 b).2 a.w3 b).2 a.w4 b
  have h5 := mr_nat (mrG mul64 add64 (mrG mul64 add64 (mrG mul64 add64 (mrG mul64 add64 (mrG mul64 add64 zeroW a.w0 b).2 a.w1 b).2 a.w2 b).2 a.w3 b).2 a.w4 b).2 a.w5 b
  exact wm_sum h0 h1 h2 h3 h4 h5

/-- The lowest 190 bits. -/
def cutW (a : W6) : W6 := shDown (shUp a)
theorem down_lt (a : W6) : (shDown a).val < 1569275433846670190958947355801916604025588861116008628224 := by
  have h0 := (a.w4 <<< 62 ||| a.w3 >>> 2).isLt
  have h1 := (a.w5 <<< 62 ||| a.w4 >>> 2).isLt
  have h2 : (0#64 ||| a.w5 >>> 2).toNat < 4611686018427387904 := by
    rw [BitVec.zero_or, BitVec.toNat_ushiftRight, Nat.shiftRight_eq_div_pow]
    have := a.w5.isLt
    omega
  unfold shDown W6.val
  simp only
  generalize (a.w4 <<< 62 ||| a.w3 >>> 2).toNat = x at *
  generalize (a.w5 <<< 62 ||| a.w4 >>> 2).toNat = y at *
  generalize (0#64 ||| a.w5 >>> 2).toNat = z at *
  simp only [BitVec.toNat_ofNat, Nat.zero_mod]
  omega
theorem small_sum {m n : W6} (hm : m.val < 1569275433846670190958947355801916604025588861116008628224) (hn : n.val < 1569275433846670190958947355801916604025588861116008628224) : (wAddW m n).1.val = m.val + n.val := by
  have h := adds_nat m n
  have hb := b2n_le (adds m n).2
  show (adds m n).1.val = _
  generalize (adds m n).1.val = v at *
  generalize b2n (adds m n).2 = c at *
  omega
theorem small_mul {m n : W6} (hm : m.val < 1569275433846670190958947355801916604025588861116008628224) (hn : n.val < 1569275433846670190958947355801916604025588861116008628224) : (wmW m n).1.val = m.val * n.val := by
  have h := wm_nat m n
  have hp : m.val * n.val < 1569275433846670190958947355801916604025588861116008628224 * 1569275433846670190958947355801916604025588861116008628224 := Nat.mul_lt_mul'' hm hn
  generalize m.val * n.val = x at *
  omega
end Go.Rq

/- A modulus: what its functions read out of its block. -/
namespace Go.Rq
open Go Go.Proofs

abbrev Mo : Type := W6 × BitVec 64 × W6
def afunP (P : Program) (E : Env) (sym : List Tmp) (lf f : Nat) (t : TypeId) (x : Mo) (args : List AV) : Tree AV := (afun P E sym (fun _ => none) lf f (.ptr 0 0 :: args) (oneAH cFa t x) 1).bind fun q => .leaf q.1
theorem givesP {P : Program} {E : Env} {sym : List Tmp} {lf f : Nat} {t : TypeId} {x : Mo} {args : List AV} {u : Tree AV} {v : Value} (e : (afunP P E sym lf f t x args).strict = u) (hu : u.holds (fun q => flat q = some v)) :
    GivesH (afun P E sym (fun _ => none) lf f (.ptr 0 0 :: args) (oneAH cFa t x) 1) v := ⟨Tree.holds_bind (Tree.holds_strict (by rw [show ((afun P E sym (fun _ => none) lf f (.ptr 0 0 :: args) (oneAH cFa t x) 1).bind fun q => Tree.leaf q.1).strict = u from e]; exact hu))⟩

/-! Is it none? -/
def moNone (m : Mo) : Bool := m.2.1 == 0#64
noncomputable def mnE : Env := envH eqsT [] []
theorem mnE_ok : EnvOk PR mnE := envH_ok eqsT_ok TabPOk.nil TabHOk.nil
theorem mn_run (m : Mo) : (afunP PR mnE [] 10 124 148 m []).strict = .leaf (kBool.enc (moNone m)) := by kernel_rfl
theorem mn_ent : Enters PR 124 := enters_of (fn := Tryz.f124) (by kernel_rfl) (by kernel_rfl) (by kernel_rfl)
theorem mn_ok : HeapOk PR 124 (rdp 148 cFa mc0 kBool (fun m _ => moNone m)) :=
  rdp_ok (E := mnE) (sym := []) (lf := 10) mnE_ok mixed (fn := Tryz.f124) (c := bodyOf PR 124) (by kernel_rfl) (by kernel_rfl) (by kernel_rfl) (fun m z => givesP (mn_run m) (holds_leaf (kBool.h1 _)))

/-! The modulus taken away, if it goes. -/
noncomputable def mlE0 (sb : W6 → W6 → W6 × Bool) : Env := envH eqsT [(172, fn2 c6.agg c6.agg kWB sb)] []
theorem ml_run (sb : W6 → W6 → W6 × Bool) (m : Mo) (x : W6) : (afunP PR (mlE0 sb) [17] 10 127 148 m [c6.agg.enc x]).strict =
    .br (!(sb x m.1).2) (.leaf (c6.agg.enc (sb x m.1).1)) (.leaf (c6.agg.enc x)) := by kernel_rfl
def moLess (sb : W6 → W6 → W6 × Bool) (m : Mo) (x : W6) : W6 := bif !(sb x m.1).2 then (sb x m.1).1 else x

/-! The product, by 2^-384. -/
def mcG (M : BitVec 64 → BitVec 64 → BitVec 64 × BitVec 64) (S : BitVec 64 → BitVec 64 → Bool → BitVec 64 × Bool) (a y u c : BitVec 64) : BitVec 64 × BitVec 64 :=
  let p := M a y; let s := S p.2 u false; let h := p.1 + bitW s.2; let r := S s.1 c false; (r.1, h + bitW r.2)
def moRound (M : BitVec 64 → BitVec 64 → BitVec 64 × BitVec 64) (S : BitVec 64 → BitVec 64 → Bool → BitVec 64 × Bool) (m : Mo) (b : W6) (x : BitVec 64) (t : W8) : W8 :=
  let r0 := mcG M S x b.w0 t.1.w0 (bitW false)
  let r1 := mcG M S x b.w1 t.1.w1 r0.2
  let r2 := mcG M S x b.w2 t.1.w2 r1.2
  let r3 := mcG M S x b.w3 t.1.w3 r2.2
  let r4 := mcG M S x b.w4 t.1.w4 r3.2
  let r5 := mcG M S x b.w5 t.1.w5 r4.2
  let u6 := S t.2.1 r5.2 false
  let q := r0.1 * m.2.1
  let mm := M q m.1.w0
  let s0 := S mm.2 r0.1 false
  let s1 := mcG M S q m.1.w1 r1.1 (mm.1 + bitW s0.2)
  let s2 := mcG M S q m.1.w2 r2.1 s1.2
  let s3 := mcG M S q m.1.w3 r3.1 s2.2
  let s4 := mcG M S q m.1.w4 r4.1 s3.2
  let s5 := mcG M S q m.1.w5 r5.1 s4.2
  let s6 := S u6.1 s5.2 false
  (⟨s1.1, s2.1, s3.1, s4.1, s5.1, s6.1⟩, bitW u6.2 + bitW s6.2, bitW u6.2)
def moRaw (M : BitVec 64 → BitVec 64 → BitVec 64 × BitVec 64) (S : BitVec 64 → BitVec 64 → Bool → BitVec 64 × Bool) (m : Mo) (a b : W6) : W8 :=
  moRound M S m b a.w5 (moRound M S m b a.w4 (moRound M S m b a.w3 (moRound M S m b a.w2 (moRound M S m b a.w1 (moRound M S m b a.w0 zero8)))))
noncomputable def mmE0 (M : BitVec 64 → BitVec 64 → BitVec 64 × BitVec 64) (S : BitVec 64 → BitVec 64 → Bool → BitVec 64 × Bool) (L : Mo → W6 → W6) : Env := envH eqsT (rowT M S) [(127, rdp 148 cFa (mc1 c6.agg) c6.agg L)]
set_option maxRecDepth 1000000 in
theorem mm_run (M : BitVec 64 → BitVec 64 → BitVec 64 × BitVec 64) (S : BitVec 64 → BitVec 64 → Bool → BitVec 64 × Bool) (L : Mo → W6 → W6) (m : Mo) (a b : W6) : (afunP PR (mmE0 M S L) [] 20 125 148 m [c6.agg.enc a, c6.agg.enc b]).strict =
    .leaf (c6.agg.enc (L m (moRaw M S m a b).1)) := by kernel_rfl

/-! What is left. -/
noncomputable def mrE0 (N : Mo → Bool) (cm : W6 → W6 → Int) (O : BitVec 64 → W6) (T : Mo → W6 → W6 → W6) : Env := envH eqsT [(49, fn2 c6.agg c6.agg (kInt .i64) cm), (31, fn1 kU c6.agg O)]
  [(124, rdp 148 cFa mc0 kBool (fun m _ => N m)), (125, rdp 148 cFa (mc2 c6.agg c6.agg) c6.agg (fun m x => T m x.1 x.2))]
theorem mred_run (N : Mo → Bool) (cm : W6 → W6 → Int) (O : BitVec 64 → W6) (T : Mo → W6 → W6 → W6) (m : Mo) (a : W6) : (afunP PR (mrE0 N cm O T) [6, 14] 10 77 148 m [c6.agg.enc a]).strict =
    .br (N m) (.leaf (c6.agg.enc zeroW)) (.br (decide (cm a m.1 < 0)) (.leaf (c6.agg.enc a)) (.leaf (c6.agg.enc (T m (T m a m.2.2) (O (bitW true)))))) := by kernel_rfl
end Go.Rq

/- A modulus: contracts of what reads it. -/
namespace Go.Rq
open Go Go.Proofs

/-! The difference of two numbers. -/
def wSubW (a b : W6) : W6 × Bool := ((subs a b).1, (subs a b).2 == true)
def wSubT : PureTab := [(175, fn3 kU kU kBit kUB sub64)]
theorem wSubT_ok : TabPOk PR wSubT := TabPOk.cons sub64_ok TabPOk.nil
theorem wsub_ctx : Ctx PR (envOf eqsT wSubT) [] (fun _ => none) 40 172 :=
  ctx_of (envOf_ok eqsT_ok wSubT_ok) mixed (fn := Tryz.f172) (by kernel_rfl) (by kernel_rfl) (by kernel_rfl) (tabOk_none _)
set_option maxRecDepth 100000 in
theorem wsub_run (a b : W6) : (afunR PR (envOf eqsT wSubT) [] (fun _ => none) 40 172 [c6.agg.enc a, c6.agg.enc b]).strict = .leaf (kWB.enc (wSubW a b)) := by kernel_rfl
theorem wsub_ok : CallOk PR 172 (fn2 c6.agg c6.agg kWB wSubW) :=
  .inl ⟨enters_of (fn := Tryz.f172) (by kernel_rfl) (by kernel_rfl) (by kernel_rfl), pure2 wsub_ctx (fun a b => leafVal (B := kWB) (y := wSubW a b) (wsub_run a b))⟩

def moLessW : Mo → W6 → W6 := moLess wSubW
theorem ml_gives (sb : W6 → W6 → W6 × Bool) (m : Mo) (x : W6) : GivesH (afun PR (mlE0 sb) [17] (fun _ => none) 10 127 (.ptr 0 0 :: [c6.agg.enc x]) (oneAH cFa 148 m) 1) (c6.agg.val (moLess sb m x)) :=
  givesP (ml_run sb m x) (holds_br (B := c6.agg) (holds_leaf (c6.agg.h1 _)) (holds_leaf (c6.agg.h1 _)))
theorem mlE0_ok : EnvOk PR (mlE0 wSubW) := envH_ok eqsT_ok (TabPOk.cons wsub_ok TabPOk.nil) TabHOk.nil
theorem ml_ent : Enters PR 127 := enters_of (fn := Tryz.f127) (by kernel_rfl) (by kernel_rfl) (by kernel_rfl)
theorem ml_ok : HeapOk PR 127 (rdp 148 cFa (mc1 c6.agg) c6.agg moLessW) :=
  rdp_ok (E := mlE0 wSubW) (sym := [17]) (lf := 10) mlE0_ok mixed (fn := Tryz.f127) (c := bodyOf PR 127) (by kernel_rfl) (by kernel_rfl) (by kernel_rfl) (fun m z => ml_gives wSubW m z)

def moMontW (m : Mo) (a b : W6) : W6 := moLessW m (moRaw mul64 add64 m a b).1
theorem mmE0_ok : EnvOk PR (mmE0 mul64 add64 moLessW) := envH_ok eqsT_ok (TabPOk.cons mul64_ok (TabPOk.cons add64_ok TabPOk.nil)) (TabHOk.cons ml_ent ml_ok TabHOk.nil)
theorem mm_ent : Enters PR 125 := enters_of (fn := Tryz.f125) (by kernel_rfl) (by kernel_rfl) (by kernel_rfl)
theorem mm_ok : HeapOk PR 125 (rdp 148 cFa (mc2 c6.agg c6.agg) c6.agg (fun m x => moMontW m x.1 x.2)) :=
  rdp_ok (E := mmE0 mul64 add64 moLessW) (sym := []) (lf := 20) mmE0_ok mixed (fn := Tryz.f125) (c := bodyOf PR 125) (by kernel_rfl) (by kernel_rfl) (by kernel_rfl) (fun m z => givesP (mm_run mul64 add64 moLessW m z.1 z.2) (holds_leaf (c6.agg.h1 _)))

def moRedG (N : Mo → Bool) (cm : W6 → W6 → Int) (O : BitVec 64 → W6) (T : Mo → W6 → W6 → W6) (m : Mo) (a : W6) : W6 := bif N m then zeroW else bif decide (cm a m.1 < 0) then a else T m (T m a m.2.2) (O (bitW true))
def moRedW : Mo → W6 → W6 := moRedG moNone cmW ofW moMontW
theorem mred_gives (N : Mo → Bool) (cm : W6 → W6 → Int) (O : BitVec 64 → W6) (T : Mo → W6 → W6 → W6) (m : Mo) (a : W6) : GivesH (afun PR (mrE0 N cm O T) [6, 14] (fun _ => none) 10 77 (.ptr 0 0 :: [c6.agg.enc a]) (oneAH cFa 148 m) 1) (c6.agg.val (moRedG N cm O T m a)) :=
  givesP (mred_run N cm O T m a) (holds_br (B := c6.agg) (holds_leaf (c6.agg.h1 _)) (holds_br (B := c6.agg) (holds_leaf (c6.agg.h1 _)) (holds_leaf (c6.agg.h1 _))))
theorem mrE0_ok : EnvOk PR (mrE0 moNone cmW ofW moMontW) := envH_ok eqsT_ok (TabPOk.cons cmp_ok (TabPOk.cons of_ok TabPOk.nil)) (TabHOk.cons mn_ent mn_ok (TabHOk.cons mm_ent mm_ok TabHOk.nil))
theorem mred_ent : Enters PR 77 := enters_of (fn := Tryz.f77) (by kernel_rfl) (by kernel_rfl) (by kernel_rfl)
theorem mred_ok : HeapOk PR 77 (rdp 148 cFa (mc1 c6.agg) c6.agg moRedW) :=
  rdp_ok (E := mrE0 moNone cmW ofW moMontW) (sym := [6, 14]) (lf := 10) mrE0_ok mixed (fn := Tryz.f77) (c := bodyOf PR 77) (by kernel_rfl) (by kernel_rfl) (by kernel_rfl) (fun m z => mred_gives moNone cmW ofW moMontW m z)
end Go.Rq

/- Arithmetic by the groups' order, as numbers. -/
namespace Go.Rq
open Go Go.Proofs

/-- The order's modulus. -/
def modO : Mo := (orderW, 18446744069414584319#64, ⟨0xc62c1807439b73af#64, 0x1b3e0d188cf06990#64, 0x73d13c71c7b5f418#64, 0x6e2a5bb9c8db33e9#64, 0#64, 0#64⟩)
theorem order_val : orderW.val = rN := by decide +kernel
theorem mo_sum {p0 t0 r0 c0 p1 t1 r1 c1 p2 t2 r2 c2 p3 t3 r3 c3 p4 t4 r4 c4 p5 t5 r5 c5 q k0 k6 s6 s1 k1 s2 k2 s3 k3 s4 k4 s5 k5 : Nat} (e0 : r0 + 18446744073709551616 * c0 = p0 + t0) (e1 : r1 + 18446744073709551616 * c1 = p1 + t1 + c0) (e2 : r2 + 18446744073709551616 * c2 = p2 + t2 + c1) (e3 : r3 + 18446744073709551616 * c3 = p3 + t3 + c2) (e4 : r4 + 18446744073709551616 * c4 = p4 + t4 + c3) (e5 : r5 + 18446744073709551616 * c5 = p5 + t5 + c4) (f0 : 18446744073709551616 * k0 = q * 18446744069414584321 + r0) (f1 : s1 + 18446744073709551616 * k1 = q * 6034159408538082302 + r1 + k0) (f2 : s2 + 18446744073709551616 * k2 = q * 3691218898639771653 + r2 + k1) (f3 : s3 + 18446744073709551616 * k3 = q * 8353516859464449352 + r3 + k2) (f4 : s4 + 18446744073709551616 * k4 = q * 0 + r4 + k3) (f5 : s5 + 18446744073709551616 * k5 = q * 0 + r5 + k4) (f6 : s6 + 18446744073709551616 * k6 = c5 + k5) :
    18446744073709551616 * (s1 + 18446744073709551616 * s2 + 340282366920938463463374607431768211456 * s3 + 6277101735386680763835789423207666416102355444464034512896 * s4 + 115792089237316195423570985008687907853269984665640564039457584007913129639936 * s5 + 2135987035920910082395021706169552114602704522356652769947041607822219725780640550022962086936576 * s6) + 726838724295606890549323807888004534353641360687318060281490199180639288113397923326191050713763565560762521606266177933534601628614656 * k6 = (p0 + 18446744073709551616 * p1 + 340282366920938463463374607431768211456 * p2 + 6277101735386680763835789423207666416102355444464034512896 * p3 + 115792089237316195423570985008687907853269984665640564039457584007913129639936 * p4 + 2135987035920910082395021706169552114602704522356652769947041607822219725780640550022962086936576 * p5) + (t0 + 18446744073709551616 * t1 + 340282366920938463463374607431768211456 * t2 + 6277101735386680763835789423207666416102355444464034512896 * t3 + 115792089237316195423570985008687907853269984665640564039457584007913129639936 * t4 + 2135987035920910082395021706169552114602704522356652769947041607822219725780640550022962086936576 * t5) + q * 52435875175126190479447740508185965837690552500527637822603658699938581184513 := by
  omega

theorem mo_inv (r : BitVec 64) : (r * 18446744069414584319#64 * orderW.w0).toNat = (r.toNat * 18446744073709551615) % 18446744073709551616 := by
  rw [BitVec.mul_assoc, BitVec.toNat_mul]
  rfl

theorem mo_low (r : BitVec 64) : (mul64 (r * 18446744069414584319#64) orderW.w0).2 + r + bitW false = 0#64 := by
  apply BitVec.eq_of_toNat_eq
  show (r * 18446744069414584319#64 * orderW.w0 + r + bitW false).toNat = 0
  have hr := r.isLt
  rw [BitVec.toNat_add, BitVec.toNat_add, mo_inv, bitW_nat]
  show ((r.toNat * 18446744073709551615 % 18446744073709551616 + r.toNat) % 18446744073709551616 + 0) % 18446744073709551616 = 0
  omega

theorem o_words : orderW.w0.toNat = 18446744069414584321 ∧ orderW.w1.toNat = 6034159408538082302 ∧ orderW.w2.toNat = 3691218898639771653 ∧ orderW.w3.toNat = 8353516859464449352 ∧ orderW.w4.toNat = 0 ∧ orderW.w5.toNat = 0 := by decide +kernel

theorem mo_end {xA A T q v k : Nat} (ha : A < 52435875175126190479447740508185965837690552500527637822603658699938581184513) (ht : T < A + 52435875175126190479447740508185965837690552500527637822603658699938581184513) (hx : xA ≤ 18446744073709551615 * A) (hq : q < 18446744073709551616) (hs : 18446744073709551616 * v + 726838724295606890549323807888004534353641360687318060281490199180639288113397923326191050713763565560762521606266177933534601628614656 * k = xA + T + q * 52435875175126190479447740508185965837690552500527637822603658699938581184513) : k = 0 ∧ v < A + 52435875175126190479447740508185965837690552500527637822603658699938581184513 ∧ 18446744073709551616 * v = xA + T + q * 52435875175126190479447740508185965837690552500527637822603658699938581184513 := by
  have hk : k = 0 := by omega
  subst hk
  omega

theorem mo_carry {q r m1 m2 : Nat} {c : Nat} (hc : c ≤ 1) (hq : q < 18446744073709551616) (hm : m2 + 18446744073709551616 * m1 = q * 18446744069414584321) (hs : 18446744073709551616 * c = m2 + r) : m1 + c < 18446744073709551616 ∧ 18446744073709551616 * (m1 + c) = q * 18446744069414584321 + r := by
  omega

theorem moRound_eq {a : W6} {x : BitVec 64} {t : W8} {r0 r1 r2 r3 r4 r5 s1 s2 s3 s4 s5 m : BitVec 64 × BitVec 64} {s0 s6 u6 : BitVec 64 × Bool} {q k0 : BitVec 64}
    (hr0 : mac x a.w0 t.1.w0 (bitW false) = r0) (hr1 : mac x a.w1 t.1.w1 r0.2 = r1) (hr2 : mac x a.w2 t.1.w2 r1.2 = r2) (hr3 : mac x a.w3 t.1.w3 r2.2 = r3) (hr4 : mac x a.w4 t.1.w4 r3.2 = r4) (hr5 : mac x a.w5 t.1.w5 r4.2 = r5)
    (hu : add64 t.2.1 r5.2 false = u6) (hq : r0.1 * 18446744069414584319#64 = q) (hm : mul64 q orderW.w0 = m) (hs0 : add64 m.2 r0.1 false = s0) (hk : m.1 + bitW s0.2 = k0)
    (hs1 : mac q orderW.w1 r1.1 k0 = s1) (hs2 : mac q orderW.w2 r2.1 s1.2 = s2) (hs3 : mac q orderW.w3 r3.1 s2.2 = s3) (hs4 : mac q orderW.w4 r4.1 s3.2 = s4) (hs5 : mac q orderW.w5 r5.1 s4.2 = s5) (hs6 : add64 u6.1 s5.2 false = s6) :
    moRound mul64 add64 modO a x t = (⟨s1.1, s2.1, s3.1, s4.1, s5.1, s6.1⟩, bitW u6.2 + bitW s6.2, bitW u6.2) := by
  subst hr0 hr1 hr2 hr3 hr4 hr5 hu hq hm hs0 hk hs1 hs2 hs3 hs4 hs5 hs6
  rfl
theorem add_zero64 (r : BitVec 64) : add64 0#64 r false = (r, false) := by
  have h : add64 0#64 r false = (0#64 + r + bitW false, decide (18446744073709551616 ≤ (0#64).toNat + r.toNat + b2n false)) := rfl
  rw [h]
  have h1 : 0#64 + r + bitW false = r := by rw [BitVec.zero_add, show bitW false = 0#64 from rfl, BitVec.add_zero]
  have h2 : decide (18446744073709551616 ≤ (0#64).toNat + r.toNat + b2n false) = false := by
    apply decide_eq_false
    have := r.isLt
    rw [show (0#64).toNat = 0 from rfl, show b2n false = 0 from rfl]
    omega
  rw [h1, h2]

theorem mo_round (a : W6) (x : BitVec 64) (t : W8) (hw : t.2.1 = 0#64) (ha : a.val < rN) (ht : t.1.val < a.val + rN) :
    ∃ q : Nat, (moRound mul64 add64 modO a x t).2.1 = 0#64 ∧ (moRound mul64 add64 modO a x t).1.val < a.val + rN ∧ 18446744073709551616 * (moRound mul64 add64 modO a x t).1.val = x.toNat * a.val + t.1.val + q * rN := by
  obtain ⟨g0, g1, g2, g3, g4, g5⟩ := o_words
  obtain ⟨r0, hr0⟩ : ∃ r, mac x a.w0 t.1.w0 (bitW false) = r := ⟨_, rfl⟩
  obtain ⟨r1, hr1⟩ : ∃ r, mac x a.w1 t.1.w1 r0.2 = r := ⟨_, rfl⟩
  obtain ⟨r2, hr2⟩ : ∃ r, mac x a.w2 t.1.w2 r1.2 = r := ⟨_, rfl⟩
  obtain ⟨r3, hr3⟩ : ∃ r, mac x a.w3 t.1.w3 r2.2 = r := ⟨_, rfl⟩
  obtain ⟨r4, hr4⟩ : ∃ r, mac x a.w4 t.1.w4 r3.2 = r := ⟨_, rfl⟩
  obtain ⟨r5, hr5⟩ : ∃ r, mac x a.w5 t.1.w5 r4.2 = r := ⟨_, rfl⟩
  obtain ⟨q, hq⟩ : ∃ q, r0.1 * 18446744069414584319#64 = q := ⟨_, rfl⟩
  obtain ⟨m, hm⟩ : ∃ m, mul64 q orderW.w0 = m := ⟨_, rfl⟩
  obtain ⟨s0, hs0⟩ : ∃ s, add64 m.2 r0.1 false = s := ⟨_, rfl⟩
  obtain ⟨k0, hk⟩ : ∃ k, m.1 + bitW s0.2 = k := ⟨_, rfl⟩
  obtain ⟨s1, hs1⟩ : ∃ s, mac q orderW.w1 r1.1 k0 = s := ⟨_, rfl⟩
  obtain ⟨s2, hs2⟩ : ∃ s, mac q orderW.w2 r2.1 s1.2 = s := ⟨_, rfl⟩
  obtain ⟨s3, hs3⟩ : ∃ s, mac q orderW.w3 r3.1 s2.2 = s := ⟨_, rfl⟩
  obtain ⟨s4, hs4⟩ : ∃ s, mac q orderW.w4 r4.1 s3.2 = s := ⟨_, rfl⟩
  obtain ⟨s5, hs5⟩ : ∃ s, mac q orderW.w5 r5.1 s4.2 = s := ⟨_, rfl⟩
  have hu : add64 t.2.1 r5.2 false = (r5.2, false) := by rw [hw]; exact add_zero64 _
  obtain ⟨s6, hs6⟩ : ∃ s, add64 r5.2 s5.2 false = s := ⟨_, rfl⟩
  have hres := moRound_eq hr0 hr1 hr2 hr3 hr4 hr5 hu hq hm hs0 hk hs1 hs2 hs3 hs4 hs5 hs6
  have e0 := mac_nat x a.w0 t.1.w0 (bitW false)
  rw [hr0, show (bitW false).toNat = 0 from rfl, Nat.add_zero] at e0
  have e1 := mac_nat x a.w1 t.1.w1 r0.2
  rw [hr1] at e1
  have e2 := mac_nat x a.w2 t.1.w2 r1.2
  rw [hr2] at e2
  have e3 := mac_nat x a.w3 t.1.w3 r2.2
  rw [hr3] at e3
  have e4 := mac_nat x a.w4 t.1.w4 r3.2
  rw [hr4] at e4
  have e5 := mac_nat x a.w5 t.1.w5 r4.2
  rw [hr5] at e5
  have lz := mo_low r0.1
  rw [hq, hm] at lz
  have m0 := mul64_nat q orderW.w0
  rw [hm, g0] at m0
  have z0 := add64_nat m.2 r0.1 false
  rw [show (add64 m.2 r0.1 false).1 = 0#64 from lz, hs0, show b2n false = 0 from rfl, show (0#64).toNat = 0 from rfl, Nat.add_zero, Nat.zero_add] at z0
  obtain ⟨c1, c2⟩ := mo_carry (b2n_le s0.2) q.isLt m0 z0
  have hk0 : k0.toNat = m.1.toNat + b2n s0.2 := by
    rw [← hk, BitVec.toNat_add, bitW_nat]
    exact Nat.mod_eq_of_lt c1
  rw [← hk0] at c2
  have f1 := mac_nat q orderW.w1 r1.1 k0
  rw [hs1, g1] at f1
  have f2 := mac_nat q orderW.w2 r2.1 s1.2
  rw [hs2, g2] at f2
  have f3 := mac_nat q orderW.w3 r3.1 s2.2
  rw [hs3, g3] at f3
  have f4 := mac_nat q orderW.w4 r4.1 s3.2
  rw [hs4, g4] at f4
  have f5 := mac_nat q orderW.w5 r5.1 s4.2
  rw [hs5, g5] at f5
  have f6 := add64_nat r5.2 s5.2 false
  rw [hs6, show b2n false = 0 from rfl, Nat.add_zero] at f6
  have sum := mo_sum e0 e1 e2 e3 e4 e5 c2 f1 f2 f3 f4 f5 f6
  have xA : x.toNat * a.val ≤ 18446744073709551615 * a.val := Nat.mul_le_mul_right _ (Nat.le_of_lt_succ x.isLt)
  rw [← val_mul x.toNat a] at sum
  obtain ⟨n1, n2, n3⟩ := mo_end (v := (W6.mk s1.1 s2.1 s3.1 s4.1 s5.1 s6.1).val) (T := t.1.val) ha ht xA q.isLt sum
  refine ⟨q.toNat, ?_, ?_, ?_⟩
  · rw [hres]
    show bitW false + bitW s6.2 = 0#64
    cases hh : s6.2 with
    | false => rfl
    | true => rw [hh] at n1; cases n1
  · rw [hres]; exact n2
  · rw [hres]; exact n3


theorem mo_raw_sum {x1 q1 v1 x2 q2 v2 x3 q3 v3 x4 q4 v4 x5 q5 v5 x6 q6 v6 : Nat} (h1 : 18446744073709551616 * v1 = x1 + q1 * 52435875175126190479447740508185965837690552500527637822603658699938581184513) (h2 : 18446744073709551616 * v2 = x2 + v1 + q2 * 52435875175126190479447740508185965837690552500527637822603658699938581184513) (h3 : 18446744073709551616 * v3 = x3 + v2 + q3 * 52435875175126190479447740508185965837690552500527637822603658699938581184513) (h4 : 18446744073709551616 * v4 = x4 + v3 + q4 * 52435875175126190479447740508185965837690552500527637822603658699938581184513) (h5 : 18446744073709551616 * v5 = x5 + v4 + q5 * 52435875175126190479447740508185965837690552500527637822603658699938581184513) (h6 : 18446744073709551616 * v6 = x6 + v5 + q6 * 52435875175126190479447740508185965837690552500527637822603658699938581184513) :
    39402006196394479212279040100143613805079739270465446667948293404245721771497210611414266254884915640806627990306816 * v6 = (x1 + 18446744073709551616 * x2 + 340282366920938463463374607431768211456 * x3 + 6277101735386680763835789423207666416102355444464034512896 * x4 + 115792089237316195423570985008687907853269984665640564039457584007913129639936 * x5 + 2135987035920910082395021706169552114602704522356652769947041607822219725780640550022962086936576 * x6) + (q1 + 18446744073709551616 * q2 + 340282366920938463463374607431768211456 * q3 + 6277101735386680763835789423207666416102355444464034512896 * q4 + 115792089237316195423570985008687907853269984665640564039457584007913129639936 * q5 + 2135987035920910082395021706169552114602704522356652769947041607822219725780640550022962086936576 * q6) * 52435875175126190479447740508185965837690552500527637822603658699938581184513 := by
  omega

def rinvR : Nat := 3355780196830291892987310667864784896352702591869607001429614921875678373541
theorem rinvR_ok : 39402006196394479212279040100143613805079739270465446667948293404245721771497210611414266254884915640806627990306816 * rinvR % rN = 1 := by decide +kernel

theorem moRaw_nat (a b : W6) (hb : b.val < rN) : (moRaw mul64 add64 modO a b).1.val < b.val + rN ∧ ∃ Q, 39402006196394479212279040100143613805079739270465446667948293404245721771497210611414266254884915640806627990306816 * (moRaw mul64 add64 modO a b).1.val = a.val * b.val + Q * rN := by
  have zv : zero8.1.val = 0 := rfl
  have hp : rN = 52435875175126190479447740508185965837690552500527637822603658699938581184513 := rfl
  unfold moRaw
  obtain ⟨q1, w1, l1, h1⟩ := mo_round b a.w0 zero8 rfl hb (by rw [zv]; exact Nat.lt_of_lt_of_le (by decide +kernel : 0 < rN) (Nat.le_add_left _ _))
  generalize moRound mul64 add64 modO b a.w0 zero8 = t1 at w1 l1 h1 ⊢
  obtain ⟨q2, w2, l2, h2⟩ := mo_round b a.w1 t1 w1 hb l1
  generalize moRound mul64 add64 modO b a.w1 t1 = t2 at w2 l2 h2 ⊢
  obtain ⟨q3, w3, l3, h3⟩ := mo_round b a.w2 t2 w2 hb l2
  generalize moRound mul64 add64 modO b a.w2 t2 = t3 at w3 l3 h3 ⊢
  obtain ⟨q4, w4, l4, h4⟩ := mo_round b a.w3 t3 w3 hb l3
  generalize moRound mul64 add64 modO b a.w3 t3 = t4 at w4 l4 h4 ⊢
  obtain ⟨q5, w5, l5, h5⟩ := mo_round b a.w4 t4 w4 hb l4
  generalize moRound mul64 add64 modO b a.w4 t4 = t5 at w5 l5 h5 ⊢
  obtain ⟨q6, w6, l6, h6⟩ := mo_round b a.w5 t5 w5 hb l5
  generalize moRound mul64 add64 modO b a.w5 t5 = t6 at w6 l6 h6 ⊢
  refine ⟨l6, q1 + 18446744073709551616 * q2 + 340282366920938463463374607431768211456 * q3 + 6277101735386680763835789423207666416102355444464034512896 * q4 + 115792089237316195423570985008687907853269984665640564039457584007913129639936 * q5 + 2135987035920910082395021706169552114602704522356652769947041607822219725780640550022962086936576 * q6, ?_⟩
  rw [zv, Nat.add_zero] at h1
  rw [hp] at h1 h2 h3 h4 h5 h6 ⊢
  have hb : a.val * b.val = (a.w0.toNat * b.val) + 18446744073709551616 * (a.w1.toNat * b.val) + 340282366920938463463374607431768211456 * (a.w2.toNat * b.val) + 6277101735386680763835789423207666416102355444464034512896 * (a.w3.toNat * b.val) + 115792089237316195423570985008687907853269984665640564039457584007913129639936 * (a.w4.toNat * b.val) + 2135987035920910082395021706169552114602704522356652769947041607822219725780640550022962086936576 * (a.w5.toNat * b.val) := by
    rw [Nat.mul_comm, val_mul]
    simp only [Nat.mul_comm b.val]
  rw [hb]
  exact mo_raw_sum h1 h2 h3 h4 h5 h6

/-- The order taken away, if it goes. -/
theorem moLess_nat (x : W6) (h : x.val < 2 * rN) : (moLessW modO x).val = x.val % rN := by
  have h1 := subs_nat x orderW
  rw [order_val] at h1
  have hl := (subs x orderW).1.val_lt
  have e : moLessW modO x = bif !((subs x orderW).2 == true) then (subs x orderW).1 else x := rfl
  rw [e]
  have hp : rN = 52435875175126190479447740508185965837690552500527637822603658699938581184513 := rfl
  rw [hp] at h h1 ⊢
  cases hb : (subs x orderW).2 with
  | true =>
    rw [hb, show b2n true = 1 from rfl] at h1
    show x.val = _
    rw [Nat.mod_eq_of_lt (by omega)]
  | false =>
    rw [hb, show b2n false = 0 from rfl] at h1
    show (subs x orderW).1.val = _
    rw [Nat.mod_eq_sub_mod (by omega), Nat.mod_eq_of_lt (by omega)]
    omega

theorem moMont_nat (a b : W6) (hb : b.val < rN) : (moMontW modO a b).val = a.val * b.val * rinvR % rN := by
  obtain ⟨h1, Q, h2⟩ := moRaw_nat a b hb
  have e : moMontW modO a b = moLessW modO (moRaw mul64 add64 modO a b).1 := rfl
  rw [e, moLess_nat _ (Nat.lt_of_lt_of_le h1 (by rw [Nat.two_mul]; exact Nat.add_le_add_right (Nat.le_of_lt hb) _))]
  exact wide_mul rinvR_ok h2

def wideR : Nat := 49829253988540319354550742249276084460127446355315915089527227471280320770991
theorem wideR_val : modO.2.2.val = wideR := by decide +kernel
theorem wideR_twice : wideR * rinvR * rinvR % rN = 1 := by decide +kernel
theorem mul_wide {a r w p : Nat} (h : w * r * r % p = 1) : (a * w * r % p) * 1 * r % p = a % p := by
  rw [Nat.mul_one, Nat.mod_mul_mod, show a * w * r * r = a * (w * r * r) by simp only [Nat.mul_assoc], Nat.mul_mod, h, Nat.mul_one, Nat.mod_mod]

/-- What is left of a number. -/
theorem moRed_nat (a : W6) : (moRedW modO a).val = a.val % rN := by
  have e : moRedW modO a = bif moNone modO then zeroW else bif decide (cmW a orderW < 0) then a else moMontW modO (moMontW modO a modO.2.2) (ofW (bitW true)) := rfl
  rw [e, show moNone modO = false by decide +kernel, cond_false]
  have hc := cmW_nat a orderW
  rw [order_val] at hc
  by_cases h : a.val < rN
  · rw [decide_eq_true (hc.2 h), cond_true, Nat.mod_eq_of_lt h]
  · rw [decide_eq_false (fun h' => h (hc.1 h')), cond_false]
    have h1 : (ofW (bitW true)).val = 1 := by decide +kernel
    rw [moMont_nat _ _ (by rw [h1]; decide +kernel), moMont_nat a modO.2.2 (by rw [wideR_val]; decide +kernel), h1, wideR_val]
    exact mul_wide wideR_twice
end Go.Rq
