import Derived.Test.YtbamkkbefjgeoaaGreatRq18
import Derived.Test.YtbamkkbefjgeoaaGreatRq17
import Derived.Test.YtbamkkbefjgeoaaGreatRq06
import Derived.Test.YtbamkkbefjgeoaaGreatRq15
import Derived.Test.YtbamkkbefjgeoaaGreatRq05
import Derived.Test.YtbamkkbefjgeoaaGreatRq14
import Derived.Test.YtbamkkbefjgeoaaGreatRq07
import Derived.Test.YtbamkkbefjgeoaaGreatRq08
namespace Go.Rq
open Go Go.Proofs
section
variable {K : Type} [Rg K] {iv : K -> K} {e : K -> K -> Bool} {R : K -> W6 -> Prop} {t : RO}
structure RRel (R : K -> W6 -> Prop) (iv : K -> K) (e : K -> K -> Bool) (t : RO) : Prop where
 mu : ∀ {x y : K} {a b : W6}, R x a -> R y b -> R (x * y) (t.mu t.fp a b)
 ad : ∀ {x y : K} {a b : W6}, R x a -> R y b -> R (x + y) (t.ad t.fp a b)
 sb : ∀ {x y : K} {a b : W6}, R x a -> R y b -> R (x - y) (t.sb t.fp a b)
 ne : ∀ {x : K} {a : W6}, R x a -> R (-x) (t.ne t.fp a)
 iv : ∀ {x : K} {a : W6}, R x a -> R (iv x) (t.iv t.fp a)
 zero : R 0 zeroW
 one : R 1 numOne
 eq : ∀ {x y : K} {a b : W6}, R x a -> R y b -> e x y = eqW a b
 inj : ∀ {x : K} {a b : W6}, R x a -> R x b -> a = b
structure S1 (R : K -> W6 -> Prop) (x : K) (d : D6) : Prop where
 a : R x d.a
 b : d.b = zeroW
theorem RRel.cast {J : Type} {R : J -> W6 -> Prop} {x y : J} {a : W6} (h : R x a) (e : x = y) : R y a := e ▸ h
theorem s1_add (h : RRel R iv e t) {x y : K} {a b : D6} (p : S1 R x a) (q : S1 R y b) : S1 R (x + y) (radd2G t a b) :=
 ⟨h.ad p.a q.a, by
  show t.ad t.fp a.b b.b = zeroW
  rw [p.b, q.b]
  exact h.inj (RRel.cast (h.ad h.zero h.zero) (Rg.add_zero 0)) h.zero⟩
theorem s1_neg (h : RRel R iv e t) {x : K} {a : D6} (p : S1 R x a) : S1 R (-x) (rneg2G t a) :=
 ⟨h.ne p.a, by
  show t.ne t.fp a.b = zeroW
  rw [p.b]
  exact h.inj (RRel.cast (h.ne h.zero) rg_neg_zero) h.zero⟩
theorem s1_sub (h : RRel R iv e t) {x y : K} {a b : D6} (p : S1 R x a) (q : S1 R y b) : S1 R (x - y) (rsub2G t a b) := by
 have := s1_add h p (s1_neg h q)
 rw [<- Rg.sub_eq x y] at this
 exact this
theorem s1_tm (h : RRel R iv e t) {x : K} {a : D6} (p : S1 R x a) : ∀ k : Nat, S1 R (tmK x k) (timesA (radd2G t) a k)
 | 0 => ⟨h.zero, rfl⟩
 | k + 1 => s1_add h (s1_tm h p k) p
def thG (t : RO) : TH := ⟨thmG t (rmul2G t), fun a s => timesA (radd2G t) a s.n, rsub2G t⟩
theorem trel1 (h : RRel R iv e t) : TRel (S1 R) true e (thG t) where
 mu := fun {p x y a b} ho ha hb => by
  show S1 R (x * y) (bif p.one then ⟨t.mu t.fp a.a b.a, zeroW⟩ else rmul2G t a b)
  rw [ho]
  exact ⟨h.mu ha.a hb.a, rfl⟩
 tm s ha := s1_tm h ha s.n
 sb ha hb := s1_sub h ha hb
 zero := ⟨h.zero, rfl⟩
 eq := fun {x y a b} ha hb => by
  rw [eqW_D, ha.b, hb.b, h.eq ha.a hb.a, (eqW_iff zeroW zeroW).2 rfl]
  cases eqW a.a b.a <;> rfl
theorem lowK_zero {p : Jp K} (h : (lowK iv e p).zero = true) : lowK iv e p = ⟨0, 0, true⟩ := by
 unfold lowK at h ⊢
 cases hz : e p.z 0 with
 | true => rfl
 | false => rw [hz] at h; cases h
def multOf (t : RO) (p : Th) (w : W6) (len : Nat) : Th := multG ⟨dblG (thG t), addG (thG t) (dblG (thG t))⟩ p w (64 * len) (noneT p.one)
def manyOf (t : RO) : Ap W6 -> W6 -> Nat -> Ap W6 := manyG (twG t (rinv2G t) (thmG t (rmul2G t))) (multOf t)
theorem many_rel (h : RRel R iv e t) {P : Ap K} {p : Ap W6} (hp : RA R P p) (n : W6) (len : Nat) : RA R (bif P.zero then P else lowK iv e (multK e n.bit ⟨P.x, P.y, 1⟩ (64 * len) noneJ)) (manyOf t p n len) := by
 have hT := trel1 h
 unfold manyOf manyG
 rw [hp.z]
 cases hz : p.zero with
 | true => exact hp
 | false =>
  rw [cond_false, cond_false]
  have hb : TJ (S1 R) true ⟨P.x, P.y, 1⟩ (thOf p) := ⟨⟨hp.x, rfl⟩, ⟨hp.y, rfl⟩, ⟨h.one, rfl⟩, rfl⟩
  have hm := mult_rel hT hb n (64 * len) (noneT_rel hT (b := true) rfl)
  have hi : ∀ {x : K} {a : D6}, S1 R x a -> S1 R (iv x) (bif true then ⟨t.iv t.fp a.a, zeroW⟩ else rinv2G t a) := fun hx => ⟨h.iv hx.a, rfl⟩
  obtain ⟨h1, h2, h3⟩ := two_rel hT (r := t) hi hm
  have h1' : (twG t (rinv2G t) (thmG t (rmul2G t)) (multOf t (thOf p) n len)).2.2 = !(lowK iv e (multK e n.bit ⟨P.x, P.y, 1⟩ (64 * len) noneJ)).zero := h1
  rw [h1', Bool.not_not]
  cases hl : (lowK iv e (multK e n.bit ⟨P.x, P.y, 1⟩ (64 * len) noneJ)).zero with
  | true =>
   rw [lowK_zero hl]
   exact ⟨h.zero, h.zero, rfl⟩
  | false => exact ⟨h2.a, h3.a, hl⟩
theorem rcheck_rel (h : RRel R iv e t) {f : Fl K} (hf : R f.b (ofW 4#64)) {P : Ap K} {p : Ap W6} (hp : RA R P p) {bl : W6 -> Bool} (h1 : bl p.x = true) (h2 : bl p.y = true) :
 rcheckG t bl (rsideG t) p = onE (foK iv) e f P := by
 have hs : eqW (t.mu t.fp p.y p.y) (rsideG t p.x) = e (P.y * P.y) (P.x * P.x * P.x + f.b) := (h.eq (h.mu hp.y hp.y) (h.ad (h.mu (h.mu hp.x hp.x) hp.x) hf)).symm
 unfold rcheckG onE
 rw [hp.z, h1, h2, foK_zero, <- h.eq hp.x h.zero, <- h.eq hp.y h.zero, hs]
 rfl
theorem eqP13_iff (a b : Ap W6) : eqP13 a b = true ↔ a = b := by
 obtain ⟨⟨a0, a1, a2, a3, a4, a5⟩, ⟨a6, a7, a8, a9, a10, a11⟩, az⟩ := a
 obtain ⟨⟨b0, b1, b2, b3, b4, b5⟩, ⟨b6, b7, b8, b9, b10, b11⟩, bz⟩ := b
 simp [eqP13, and_assoc]
theorem ra_eq (h : RRel R iv e t) {A B : Ap K} {a b : Ap W6} (ha : RA R A a) (hb : RA R B b) : eqP13 a b = eqA e A B := by
 rw [Bool.eq_iff_iff, eqP13_iff]
 unfold eqA
 rw [h.eq ha.x hb.x, h.eq ha.y hb.y, ha.z, hb.z]
 simp only [Bool.and_eq_true, eqW_iff, beq_iff_eq]
 obtain ⟨ax, ay, az⟩ := a
 obtain ⟨bx, bY, bz⟩ := b
 simp
theorem rneg_rel (h : RRel R iv e t) {A : Ap K} {a : Ap W6} (ha : RA R A a) : RA R (negK A) (rneg1G t a) := ⟨ha.x, h.ne ha.y, ha.z⟩
theorem rchord_rel (h : RRel R iv e t) {A B : Ap K} {a b : Ap W6} (ha : RA R A a) (hb : RA R B b) {m : K} {w : W6} (hm : R m w) : RA R (chordK A B m) (rchord t a b w) := by
 have x := h.sb (h.sb (h.mu hm hm) ha.x) hb.x
 exact ⟨x, h.sb (h.mu hm (h.sb ha.x x)) ha.y, rfl⟩
theorem radd_rel (h : RRel R iv e t) {A B : Ap K} {a b : Ap W6} (ha : RA R A a) (hb : RA R B b) : RA R (sumA iv e A B) (radd1G t (rneg1G t) a b) := by
 unfold sumA radd1G
 rw [ha.z, hb.z, ra_eq h ha (rneg_rel h hb), ra_eq h ha hb]
 cases a.zero
 . cases b.zero
   . cases eqA e A (negK B)
     . cases eqA e A B
       . exact rchord_rel h ha hb (h.mu (h.sb hb.y ha.y) (h.iv (h.sb hb.x ha.x)))
       . have s := h.mu ha.x ha.x
         exact rchord_rel h ha hb (h.mu (h.ad (h.ad s s) s) (h.iv (h.ad ha.y ha.y)))
     . exact ⟨h.zero, h.zero, rfl⟩
   . exact ha
 . exact hb
theorem ra_inj (h : RRel R iv e t) {A : Ap K} {a b : Ap W6} (ha : RA R A a) (hb : RA R A b) : a = b := by
 obtain ⟨ax, ay, az⟩ := a
 obtain ⟨bx, bY, bz⟩ := b
 have h1 := h.inj ha.x hb.x
 have h2 := h.inj ha.y hb.y
 have h3 := ha.z.symm.trans hb.z
 simp at h1 h2 h3
 rw [h1, h2, h3]
end
theorem on_none {K : Type} [Rg K] {iv : K -> K} {e : K -> K -> Bool} (F : Fd K iv e) {f : Fl K} {p : Ap K} (h : onE (foK iv) e f p = true) (hz : p.zero = true) : p = ⟨0, 0, true⟩ := by
 unfold onE at h
 rw [hz, cond_true, foK_zero] at h
 obtain ⟨x, y, z⟩ := p
 simp only at h hz
 cases h1 : e x 0 with
 | false => rw [h1] at h; cases h
 | true =>
  rw [h1, cond_true] at h
  rw [F.eq.1 h1, F.eq.1 h, hz]
structure Lk {K : Type} [Rg K] (iv : K -> K) (e : K -> K -> Bool) (M P : K -> W6 -> Prop) (f : Fl K) : Prop where
 F : Fd K iv e
 rel : FRel M (foK iv) fW e eqW
 m1 : M 1 oneW
 m0 : M 0 zeroW
 to : ∀ {x : K} {w : W6}, P x w -> M x (toW w)
 fr : ∀ {x : K} {w : W6}, M x w -> P x (fromW w)
 of : ∀ {w : W6}, w.val < pN -> ∃ x, P x w
 ref : RRel P iv e roO
 f1 : f.one = 1
 fb : P f.b (ofW 4#64)
section
variable {K : Type} [Rg K] {iv : K -> K} {e : K -> K -> Bool} {M P : K -> W6 -> Prop} {f : Fl K}
theorem fl_of {J : Type} {Q M : J -> W6 -> Prop} {t : W6 -> W6} (ht : ∀ {x : J} {w : W6}, Q x w -> M x (t w)) {f : Fl J} {o w : W6} (h1 : M f.one o) (hb : Q f.b w) : RFl M f ⟨o, t w⟩ := ⟨h1, ht hb⟩
theorem ra_of {J : Type} {Q M : J -> W6 -> Prop} {t : W6 -> W6} (ht : ∀ {x : J} {w : W6}, Q x w -> M x (t w)) {A : Ap J} {p : Ap W6} (h : RA Q A p) : RA M A ⟨t p.x, t p.y, p.zero⟩ := ⟨ht h.x, ht h.y, h.z⟩
theorem Lk.fl (L : Lk iv e M P f) : RFl M f fld1 := by
 unfold fld1
 exact fl_of (Q := P) (M := M) (t := toW) L.to (by rw [L.f1]; exact L.m1) L.fb
theorem Lk.inn (L : Lk iv e M P f) {A : Ap K} {p : Ap W6} (h : RA P A p) : RA M A (inP1 p) := by
 unfold inP1
 exact ra_of (Q := P) (M := M) (t := toW) L.to h
theorem Lk.out (L : Lk iv e M P f) {A : Ap K} {p : Ap W6} (h : RA M A p) : RA P A (outP1 p) := by
 unfold outP1
 exact ra_of (Q := M) (M := P) (t := fromW) L.fr h
theorem Lk.times (L : Lk iv e M P f) {f : Fl K} {g : Fl W6} {p : Jp K} {q : Jp W6} (hf : RFl M f g) (hp : RJ M p q) (n : W6) : RJ M (timesF iv e f p n) (timesW g q n) := by
 unfold timesF timesW
 exact times_rel L.rel hf hp n _ ⟨hf.one, hf.one, L.m0⟩
theorem Lk.ga (L : Lk iv e M P f) : GRel M (gaF iv e) gaOW := g_rel L.rel L.times
theorem Lk.below (L : Lk iv e M P f) {p : Ap W6} (h : belowP1 p = true) : ∃ A : Ap K, RA P A p := by
 unfold belowP1 at h
 cases hx : belowI p.x with
 | false => rw [hx] at h; cases h
 | true =>
  rw [hx, cond_true] at h
  rw [belowI_nat] at hx h
  obtain ⟨x, h1⟩ := L.of (of_decide_eq_true hx)
  obtain ⟨y, h2⟩ := L.of (of_decide_eq_true h)
  exact ⟨⟨x, y, p.zero⟩, h1, h2, rfl⟩
theorem zero_below : belowI zeroW = true := by rw [belowI_nat]; decide +kernel
theorem Lk.check (L : Lk iv e M P f) (p : Ap W6) : checkP1 p = rcheck1 p := by
 unfold checkP1
 cases hb : belowP1 p with
 | true =>
  obtain ⟨A, hP⟩ := L.below hb
  unfold belowP1 at hb
  have hx : belowI p.x = true := by
   cases hx : belowI p.x with
   | false => rw [hx] at hb; cases hb
   | true => rfl
  rw [hx, cond_true] at hb
  rw [cond_true, <- on_rel L.rel L.fl (L.inn hP)]
  exact (rcheck_rel L.ref L.fb hP hx hb).symm
 | false =>
  rw [cond_false]
  unfold rcheck1 rcheckG
  unfold belowP1 at hb
  cases hz : p.zero with
  | true =>
   rw [cond_true]
   cases hx : eqW p.x zeroW with
   | false => rfl
   | true =>
    cases hy : eqW p.y zeroW with
    | false => rfl
    | true =>
     rw [(eqW_iff _ _).1 hx, (eqW_iff _ _).1 hy, zero_below] at hb
     cases hb
  | false =>
   rw [cond_false]
   cases hx : belowI p.x with
   | false => rfl
   | true =>
    rw [hx, cond_true] at hb
    rw [hb]; rfl
theorem Lk.point (L : Lk iv e M P f) {p : Ap W6} (h : rcheck1 p = true) : belowP1 p = true /\ ∃ A : Ap K, RA P A p /\ onE (foK iv) e f A = true := by
 rw [<- L.check] at h
 unfold checkP1 at h
 cases hb : belowP1 p with
 | false => rw [hb] at h; cases h
 | true =>
  obtain ⟨A, hP⟩ := L.below hb
  rw [hb, cond_true, <- on_rel L.rel L.fl (L.inn hP)] at h
  exact ⟨rfl, A, hP, h⟩
theorem Lk.on (L : Lk iv e M P f) {p : Ap W6} (h : rcheck1 p = true) : onE fW eqW fld1 (inP1 p) = true := by
 obtain ⟨-, A, hP, hon⟩ := L.point h
 rw [<- on_rel L.rel L.fl (L.inn hP)]
 exact hon
theorem Lk.off (L : Lk iv e M P f) {p : Ap W6} (h : rcheck1 p = false) (hb : belowP1 p = true) : onE fW eqW fld1 (inP1 p) = false := by
 rw [<- L.check] at h
 unfold checkP1 at h
 rw [hb, cond_true] at h
 exact h
theorem Lk.rmul (L : Lk iv e M P f) {A : Ap K} {p : Ap W6} (hp : RA P A p) (n : W6) : RA P (bif A.zero then A else lowK iv e (multK e n.bit ⟨A.x, A.y, 1⟩ (64 * wdL rlenI n) noneJ)) (rmul1 p n) := many_rel L.ref hp n (wdL rlenI n)
theorem Lk.n0 (L : Lk iv e M P f) : fromW zeroW = zeroW := L.ref.inj (L.fr L.m0) L.ref.zero
theorem Lk.nn (L : Lk iv e M P f) : ((outP1 ⟨zeroW, zeroW, false⟩, 5) : Ap W6 × Int) = (noneP, 5) := by
 unfold outP1
 rw [L.n0]
 rfl
theorem sum1_def (p : Ap W6) (n : W6) : sumP1W p n = bif belowP1 p then (outP1 (ga1 gaOW zeroW fld1 (inP1 p) n).1, (ga1 gaOW zeroW fld1 (inP1 p) n).2) else (noneP, 5) := by unfold sumP1W sm1 suOW gath1W; rfl
theorem ga1_def (p : Ap W6) (n : W6) (h : onE fW eqW fld1 p = false) : ga1 gaOW zeroW fld1 p n = (⟨zeroW, zeroW, false⟩, 5) := by
 have hg : ga1 gaOW zeroW fld1 p n = bif onE fW eqW fld1 p then (gaOW.lo fld1 (gaOW.su fld1 ⟨fld1.one, fld1.one, zeroW⟩ (gaOW.ti fld1 (gaOW.ra fld1 p) n)), 0) else (⟨zeroW, zeroW, false⟩, 5) := rfl
 rw [hg, h]; rfl
def unitN : W6 × W6 := (ofW (bitW true), ofW (bitW true))
theorem add1_def (p q : Ap W6) : addP1 p q = bif belowP1 p then (bif belowP1 q then (outP1 (ga2 gaOW zeroW fld1 (inP1 p, inP1 q) unitN).1, (ga2 gaOW zeroW fld1 (inP1 p, inP1 q) unitN).2) else (noneP, 5)) else (noneP, 5) := by
 unfold addP1 sumP2W sm2 suOW gath2W; rfl
theorem ga2_defA (p q : Ap W6) (n : W6 × W6) (h : onE fW eqW fld1 p = false) : ga2 gaOW zeroW fld1 (p, q) n = (⟨zeroW, zeroW, false⟩, 5) := by
 have hg : ga2 gaOW zeroW fld1 (p, q) n = bif onE fW eqW fld1 p then (bif onE fW eqW fld1 q then
  (gaOW.lo fld1 (gaOW.su fld1 (gaOW.su fld1 ⟨fld1.one, fld1.one, zeroW⟩ (gaOW.ti fld1 (gaOW.ra fld1 p) n.1)) (gaOW.ti fld1 (gaOW.ra fld1 q) n.2)), 0) else (⟨zeroW, zeroW, false⟩, 5)) else (⟨zeroW, zeroW, false⟩, 5) := rfl
 rw [hg, h]; rfl
theorem ga2_defB (p q : Ap W6) (n : W6 × W6) (h : onE fW eqW fld1 q = false) : ga2 gaOW zeroW fld1 (p, q) n = (⟨zeroW, zeroW, false⟩, 5) := by
 have hg : ga2 gaOW zeroW fld1 (p, q) n = bif onE fW eqW fld1 p then (bif onE fW eqW fld1 q then
  (gaOW.lo fld1 (gaOW.su fld1 (gaOW.su fld1 ⟨fld1.one, fld1.one, zeroW⟩ (gaOW.ti fld1 (gaOW.ra fld1 p) n.1)) (gaOW.ti fld1 (gaOW.ra fld1 q) n.2)), 0) else (⟨zeroW, zeroW, false⟩, 5)) else (⟨zeroW, zeroW, false⟩, 5) := rfl
 rw [hg, h]
 cases onE fW eqW fld1 p <;> rfl
theorem Lk.mul (L : Lk iv e M P f) (p : Ap W6) (n : W6) : sumP1W p n = bif rcheck1 p then (rmul1 p n, 0) else (noneP, 5) := by
 rw [sum1_def]
 cases hc : rcheck1 p with
 | true =>
  obtain ⟨hb, A, hP, hon⟩ := L.point hc
  obtain ⟨h1, h2⟩ := ga1_rel L.ga L.m0 L.fl (L.inn hP) n
  have h3 := ga1_low L.F L.f1 (on_none L.F hon) hon n (wdL_le n).2
  rw [h3] at h1 h2
  rw [hb, cond_true, cond_true, <- h2, ra_inj L.ref (L.out h1) (L.rmul hP n)]
 | false =>
  rw [cond_false]
  cases hb : belowP1 p with
  | false => rfl
  | true =>
   rw [cond_true, ga1_def _ n (L.off hc hb)]
   exact L.nn
theorem Lk.add (L : Lk iv e M P f) (p q : Ap W6) : addP1 p q = bif rcheck1 p then (bif rcheck1 q then (radd1 p q, 0) else (Go.Rq.noneP, 5)) else (Go.Rq.noneP, 5) := by
 rw [add1_def]
 cases hc : rcheck1 p with
 | false =>
  rw [cond_false]
  cases hb : belowP1 p with
  | false => rfl
  | true =>
   cases hb2 : belowP1 q with
   | false => rfl
   | true =>
    rw [cond_true, cond_true, ga2_defA _ _ _ (L.off hc hb)]
    exact L.nn
 | true =>
  rw [cond_true, (L.point hc).1, cond_true]
  cases hd : rcheck1 q with
  | false =>
   rw [cond_false]
   cases hb2 : belowP1 q with
   | false => rfl
   | true =>
    rw [cond_true, ga2_defB _ _ _ (L.off hd hb2)]
    exact L.nn
  | true =>
   rw [cond_true, (L.point hd).1, cond_true]
   obtain ⟨-, A, hP, hon⟩ := L.point hc
   obtain ⟨-, B, hQ, hoq⟩ := L.point hd
   obtain ⟨h1, h2⟩ := ga2_rel L.ga L.m0 L.fl (x := (A, B)) (y := (inP1 p, inP1 q)) (L.inn hP) (L.inn hQ) unitN
   have h3 : ga2 (gaF iv e) 0 f (A, B) unitN = (sumA iv e A B, 0) := ga2_low L.F L.f1 (on_none L.F hon) (on_none L.F hoq) hon hoq
   rw [h3] at h1 h2
   have h4 : RA P (sumA iv e A B) (radd1 p q) := radd_rel L.ref hP hQ
   rw [<- h2, ra_inj L.ref (L.out h1) h4]
theorem Lk.neg (L : Lk iv e M P f) (p : Ap W6) : negP1 p = bif rcheck1 p then (rneg1G roO p, 0) else (Go.Rq.noneP, 5) := by
 unfold negP1
 rw [L.check]
 cases hc : rcheck1 p with
 | false => rw [Bool.not_false, cond_true, cond_false]; rfl
 | true =>
  obtain ⟨-, A, hP, -⟩ := L.point hc
  have h1 := L.out (neg_rel L.rel (L.inn hP))
  have h2 : negE (foK iv) A = negK A := by
   unfold negE negK
   rw [foK_zero, foK_sub]
   congr 1
   rw [Rg.sub_eq]
   exact rg_zero_add _
  rw [h2] at h1
  rw [ra_inj L.ref h1 (rneg_rel L.ref hP), Bool.not_true, cond_false, cond_true]
theorem rin1_def (p : Ap W6) : rin1 p = bif rcheck1 p then (rmul1 p orderW).zero else false := by unfold rin1 rin1G; rfl
theorem inGroup_def (p : Ap W6) : inGroup1 p = bif belowP1 p then (bif onE fW eqW fld1 (inP1 p) then (lowerE fW eqW (timesW fld1 (raiseJ fW fld1 (inP1 p)) orderW)).zero else false) else false := by
 unfold inGroup1 inEW inGW lowFW; rfl
theorem Lk.ing (L : Lk iv e M P f) (p : Ap W6) : inGroup1 p = bif rcheck1 p then rin1 p else false := by
 rw [inGroup_def, rin1_def]
 cases hc : rcheck1 p with
 | true =>
  obtain ⟨hb, A, hP, hon⟩ := L.point hc
  have h1 := lower_rel L.rel (L.times L.fl (raise_rel L.rel L.fl (L.inn hP)) orderW)
  rw [times_low L.F L.f1 (on_none L.F hon) orderW (wdL_le orderW).2] at h1
  rw [hb, cond_true, L.on hc, cond_true, cond_true, cond_true, <- h1.z, (L.rmul hP orderW).z]
 | false =>
  rw [cond_false]
  cases hb : belowP1 p with
  | false => rfl
  | true =>
   rw [L.off hc hb]; rfl
end
theorem pow_rel {K : Type} [Rg K] {R : K -> W6 -> Prop} {t : PO} {f : Fa} {a e : W6} (hm : ∀ {x y : K} {v w : W6}, R x v -> R y w -> R (x * y) (t.mu f v w)) {x : K} (h : R x a) :
 ∀ (k : Nat) {y : K} {o : Option W6}, R y (ovP o) -> R (pwB (fun i => t.bt e (i : Int) == 1) x k y) (ovP (powR t f a e k o))
 | 0, y, o, hy => hy
 | k + 1, y, o, hy => by
  simp only [pwB, powR]
  apply pow_rel hm h k
  cases t.bt e (k : Int) == 1
  . exact hm hy hy
  . exact hm (hm hy hy) h
theorem rp_mul {x y : F1} {a b : W6} (h : RP x a) (k : RP y b) : RP (x * y) (rmulW fastP a b) := rp_of_mul h k (rmulW_nat a b (rp_lt k))
theorem exp_eq : (rsubW primeW numTwo).1 = expInv := by decide +kernel
theorem exp_len : (rlenI expInv).toNat = 381 := by decide +kernel
theorem exp_bitsI : bitsV (fun i => bitI expInv (i : Int) == 1) 381 = pN - 2 := by decide +kernel
theorem rpoO_mu : rpoO.mu = rmulW := by simp only [rpoO]
theorem rpoO_bt : rpoO.bt = bitI := by simp only [rpoO]
theorem roO_fp : roO.fp = fastP := by simp only [roO]
theorem roO_mu : roO.mu = rmulW := by simp only [roO]
theorem roO_ad : roO.ad = rfadd := by simp only [roO]
theorem roO_sb : roO.sb = rfsub := by simp only [roO]
theorem roO_ne : roO.ne = rfneg := by simp only [roO]
theorem roO_iv : roO.iv = rinvW := by simp only [roO]
theorem rinvW_pow (a : W6) : rinvW fastP a = ovP (powR rpoO fastP a expInv 381 none) := by
 unfold rinvW rpowW rpowO
 rw [show fastP.1 = primeW from rfl, exp_eq, exp_len]
theorem rp_inv {x : F1} {a : W6} (h : RP x a) : RP (iv1 x) (rinvW fastP a) := by
 have h1 := pow_rel (K := F1) (R := RP) (t := rpoO) (f := fastP) (e := expInv) (fun h k => by rw [rpoO_mu]; exact rp_mul h k) h 381 (y := 1) (o := none) (rp_of_one (by decide +kernel))
 rw [rpoO_bt, pwB_one exp_bitsI] at h1
 rw [rinvW_pow, iv1_pow]
 exact h1
theorem rrel1 : RRel RP iv1 eq1 roO where
 mu := fun h k => by rw [roO_mu, roO_fp]; exact rp_mul h k
 ad := fun {x y a b} h k => by
  have hv := rfadd_nat (rp_lt h) (rp_lt k)
  rw [roO_ad, roO_fp]
  generalize rfadd fastP a b = w at hv ⊢
  exact rp_of_add h k hv
 sb := fun {x y a b} h k => by
  have hv := rfsub_nat (rp_lt h) (rp_lt k)
  rw [roO_sb, roO_fp]
  generalize rfsub fastP a b = w at hv ⊢
  exact rp_of_sub h k hv
 ne := fun {x a} h => by
  have hv := rfneg_nat (rp_lt h)
  rw [roO_ne, roO_fp]
  generalize rfneg fastP a = w at hv ⊢
  exact rp_of_neg h hv
 iv := fun h => by rw [roO_iv, roO_fp]; exact rp_inv h
 zero := rp_zero
 one := rp_of_one (by decide +kernel)
 eq := fun h k => rp_eq h k
 inj := fun h k => rp_inj h k
theorem four_lt : (ofW 4#64).val < pN := by decide +kernel
theorem link1 : ∃ b : F1, Lk iv1 eq1 RM RP ⟨1, b⟩ := by
 obtain ⟨b, hb⟩ := rp_of four_lt
 exact ⟨b, fd1, relM, rm_one, rm_zero, rm_to, rp_from, rp_of, rrel1, rfl, hb⟩
theorem order_val : orderW.val = rN := by decide +kernel
theorem add_zero64 (r : BitVec 64) : add64 0#64 r false = (r, false) := by
 have h : add64 0#64 r false = (0#64 + r + bitW false, decide (18446744073709551616 <= (0#64).toNat + r.toNat + b2n false)) := rfl
 rw [h]
 have h1 : 0#64 + r + bitW false = r := by rw [BitVec.zero_add, show bitW false = 0#64 from rfl, BitVec.add_zero]
 have h2 : decide (18446744073709551616 <= (0#64).toNat + r.toNat + b2n false) = false := by
  apply decide_eq_false
  have := r.isLt
  rw [show (0#64).toNat = 0 from rfl, show b2n false = 0 from rfl]
  omega
 rw [h1, h2]
theorem mul_wide {a r w p : Nat} (h : w * r * r % p = 1) : (a * w * r % p) * 1 * r % p = a % p := by
 rw [Nat.mul_one, Nat.mod_mul_mod, show a * w * r * r = a * (w * r * r) by simp only [Nat.mul_assoc], Nat.mul_mod, h, Nat.mul_one, Nat.mod_mod]
end Go.Rq

namespace Go.Rq.Cl
open Go Go.Proofs Go.Rq Go.Rq.Sm
structure Mg (m : Mo) (ri : Nat) : Prop where
 low : ∀ r : BitVec 64, (mul64 (r * m.2.1) m.1.w0).2 + r + bitW false = 0#64
 none : moNone m = false
 small : 2 * m.1.val <= 39402006196394479212279040100143613805079739270465446667948293404245721771497210611414266254884915640806627990306816
 pos : 1 < m.1.val
 inv : 39402006196394479212279040100143613805079739270465446667948293404245721771497210611414266254884915640806627990306816 * ri % m.1.val = 1
 wlt : m.2.2.val < m.1.val
 wide : m.2.2.val * ri * ri % m.1.val = 1
theorem mg_sum {p0 t0 r0 c0 p1 t1 r1 c1 p2 t2 r2 c2 p3 t3 r3 c3 p4 t4 r4 c4 p5 t5 r5 c5 y0 y1 y2 y3 y4 y5 k0 k6 s6 s1 k1 s2 k2 s3 k3 s4 k4 s5 k5 : Nat} (e0 : r0 + 18446744073709551616 * c0 = p0 + t0) (e1 : r1 + 18446744073709551616 * c1 = p1 + t1 + c0) (e2 : r2 + 18446744073709551616 * c2 = p2 + t2 + c1) (e3 : r3 + 18446744073709551616 * c3 = p3 + t3 + c2) (e4 : r4 + 18446744073709551616 * c4 = p4 + t4 + c3) (e5 : r5 + 18446744073709551616 * c5 = p5 + t5 + c4) (f0 : 18446744073709551616 * k0 = y0 + r0) (f1 : s1 + 18446744073709551616 * k1 = y1 + r1 + k0) (f2 : s2 + 18446744073709551616 * k2 = y2 + r2 + k1) (f3 : s3 + 18446744073709551616 * k3 = y3 + r3 + k2) (f4 : s4 + 18446744073709551616 * k4 = y4 + r4 + k3) (f5 : s5 + 18446744073709551616 * k5 = y5 + r5 + k4) (f6 : s6 + 18446744073709551616 * k6 = c5 + k5) :
 18446744073709551616 * (s1 + 18446744073709551616 * s2 + 340282366920938463463374607431768211456 * s3 + 6277101735386680763835789423207666416102355444464034512896 * s4 + 115792089237316195423570985008687907853269984665640564039457584007913129639936 * s5 + 2135987035920910082395021706169552114602704522356652769947041607822219725780640550022962086936576 * s6) + 726838724295606890549323807888004534353641360687318060281490199180639288113397923326191050713763565560762521606266177933534601628614656 * k6 = (p0 + 18446744073709551616 * p1 + 340282366920938463463374607431768211456 * p2 + 6277101735386680763835789423207666416102355444464034512896 * p3 + 115792089237316195423570985008687907853269984665640564039457584007913129639936 * p4 + 2135987035920910082395021706169552114602704522356652769947041607822219725780640550022962086936576 * p5) + (t0 + 18446744073709551616 * t1 + 340282366920938463463374607431768211456 * t2 + 6277101735386680763835789423207666416102355444464034512896 * t3 + 115792089237316195423570985008687907853269984665640564039457584007913129639936 * t4 + 2135987035920910082395021706169552114602704522356652769947041607822219725780640550022962086936576 * t5) + (y0 + 18446744073709551616 * y1 + 340282366920938463463374607431768211456 * y2 + 6277101735386680763835789423207666416102355444464034512896 * y3 + 115792089237316195423570985008687907853269984665640564039457584007913129639936 * y4 + 2135987035920910082395021706169552114602704522356652769947041607822219725780640550022962086936576 * y5) := by
 omega
theorem mg_end {xA A T Y v k N : Nat} (hn : 2 * N <= 39402006196394479212279040100143613805079739270465446667948293404245721771497210611414266254884915640806627990306816) (ha : A < N) (ht : T < A + N) (hx : xA <= 18446744073709551615 * A) (hy : Y <= 18446744073709551615 * N) (hs : 18446744073709551616 * v + 726838724295606890549323807888004534353641360687318060281490199180639288113397923326191050713763565560762521606266177933534601628614656 * k = xA + T + Y) : k = 0 /\ v < A + N /\ 18446744073709551616 * v = xA + T + Y := by
 have hk : k = 0 := by omega
 subst hk
 omega
theorem mg_carry {y0 r m1 m2 : Nat} {c : Nat} (hc : c <= 1) (hy : y0 <= 18446744073709551615 * 18446744073709551615) (hm : m2 + 18446744073709551616 * m1 = y0) (hs : 18446744073709551616 * c = m2 + r) : m1 + c < 18446744073709551616 /\ 18446744073709551616 * (m1 + c) = y0 + r := by
 omega
theorem mul_le64 (a b : BitVec 64) : a.toNat * b.toNat <= 18446744073709551615 * 18446744073709551615 :=
 Nat.mul_le_mul (Nat.le_of_lt_succ a.isLt) (Nat.le_of_lt_succ b.isLt)
theorem mgRound_eq {m : Mo} {a : W6} {x : BitVec 64} {t : W8} {r0 r1 r2 r3 r4 r5 s1 s2 s3 s4 s5 mm : BitVec 64 × BitVec 64} {s0 s6 u6 : BitVec 64 × Bool} {q k0 : BitVec 64}
 (hr0 : mac x a.w0 t.1.w0 (bitW false) = r0) (hr1 : mac x a.w1 t.1.w1 r0.2 = r1) (hr2 : mac x a.w2 t.1.w2 r1.2 = r2) (hr3 : mac x a.w3 t.1.w3 r2.2 = r3) (hr4 : mac x a.w4 t.1.w4 r3.2 = r4) (hr5 : mac x a.w5 t.1.w5 r4.2 = r5)
 (hu : add64 t.2.1 r5.2 false = u6) (hq : r0.1 * m.2.1 = q) (hm : mul64 q m.1.w0 = mm) (hs0 : add64 mm.2 r0.1 false = s0) (hk : mm.1 + bitW s0.2 = k0)
 (hs1 : mac q m.1.w1 r1.1 k0 = s1) (hs2 : mac q m.1.w2 r2.1 s1.2 = s2) (hs3 : mac q m.1.w3 r3.1 s2.2 = s3) (hs4 : mac q m.1.w4 r4.1 s3.2 = s4) (hs5 : mac q m.1.w5 r5.1 s4.2 = s5) (hs6 : add64 u6.1 s5.2 false = s6) :
 moRound mul64 add64 m a x t = (⟨s1.1, s2.1, s3.1, s4.1, s5.1, s6.1⟩, bitW u6.2 + bitW s6.2, bitW u6.2) := by
 subst hr0 hr1 hr2 hr3 hr4 hr5 hu hq hm hs0 hk hs1 hs2 hs3 hs4 hs5 hs6
 rfl
theorem mg_round {m : Mo} {ri : Nat} (M : Mg m ri) (a : W6) (x : BitVec 64) (t : W8) (hw : t.2.1 = 0#64) (ha : a.val < m.1.val) (ht : t.1.val < a.val + m.1.val) :
 ∃ q : Nat, (moRound mul64 add64 m a x t).2.1 = 0#64 /\ (moRound mul64 add64 m a x t).1.val < a.val + m.1.val /\ 18446744073709551616 * (moRound mul64 add64 m a x t).1.val = x.toNat * a.val + t.1.val + q * m.1.val := by
 obtain ⟨r0, hr0⟩ : ∃ r, mac x a.w0 t.1.w0 (bitW false) = r := ⟨_, rfl⟩
 obtain ⟨r1, hr1⟩ : ∃ r, mac x a.w1 t.1.w1 r0.2 = r := ⟨_, rfl⟩
 obtain ⟨r2, hr2⟩ : ∃ r, mac x a.w2 t.1.w2 r1.2 = r := ⟨_, rfl⟩
 obtain ⟨r3, hr3⟩ : ∃ r, mac x a.w3 t.1.w3 r2.2 = r := ⟨_, rfl⟩
 obtain ⟨r4, hr4⟩ : ∃ r, mac x a.w4 t.1.w4 r3.2 = r := ⟨_, rfl⟩
 obtain ⟨r5, hr5⟩ : ∃ r, mac x a.w5 t.1.w5 r4.2 = r := ⟨_, rfl⟩
 obtain ⟨q, hq⟩ : ∃ q, r0.1 * m.2.1 = q := ⟨_, rfl⟩
 obtain ⟨mm, hm⟩ : ∃ mm, mul64 q m.1.w0 = mm := ⟨_, rfl⟩
 obtain ⟨s0, hs0⟩ : ∃ s, add64 mm.2 r0.1 false = s := ⟨_, rfl⟩
 obtain ⟨k0, hk⟩ : ∃ k, mm.1 + bitW s0.2 = k := ⟨_, rfl⟩
 obtain ⟨s1, hs1⟩ : ∃ s, mac q m.1.w1 r1.1 k0 = s := ⟨_, rfl⟩
 obtain ⟨s2, hs2⟩ : ∃ s, mac q m.1.w2 r2.1 s1.2 = s := ⟨_, rfl⟩
 obtain ⟨s3, hs3⟩ : ∃ s, mac q m.1.w3 r3.1 s2.2 = s := ⟨_, rfl⟩
 obtain ⟨s4, hs4⟩ : ∃ s, mac q m.1.w4 r4.1 s3.2 = s := ⟨_, rfl⟩
 obtain ⟨s5, hs5⟩ : ∃ s, mac q m.1.w5 r5.1 s4.2 = s := ⟨_, rfl⟩
 have hu : add64 t.2.1 r5.2 false = (r5.2, false) := by rw [hw]; exact add_zero64 _
 obtain ⟨s6, hs6⟩ : ∃ s, add64 r5.2 s5.2 false = s := ⟨_, rfl⟩
 have hres := mgRound_eq hr0 hr1 hr2 hr3 hr4 hr5 hu hq hm hs0 hk hs1 hs2 hs3 hs4 hs5 hs6
 have e0 := mac_nat x a.w0 t.1.w0 (bitW false)
 rw [hr0, show (bitW false).toNat = 0 from rfl, Nat.add_zero] at e0
 have e1 := mac_nat x a.w1 t.1.w1 r0.2
 rw [hr1] at e1
 have e2 := mac_nat x a.w2 t.1.w2 r1.2
 rw [hr2] at e2
 have e3 := mac_nat x a.w3 t.1.w3 r2.2
 rw [hr3] at e3
 have e4 := mac_nat x a.w4 t.1.w4 r3.2
 rw [hr4] at e4
 have e5 := mac_nat x a.w5 t.1.w5 r4.2
 rw [hr5] at e5
 have lz := M.low r0.1
 rw [hq, hm] at lz
 have m0 := mul64_nat q m.1.w0
 rw [hm] at m0
 have z0 := add64_nat mm.2 r0.1 false
 rw [show (add64 mm.2 r0.1 false).1 = 0#64 from lz, hs0, show b2n false = 0 from rfl, show (0#64).toNat = 0 from rfl, Nat.add_zero, Nat.zero_add] at z0
 obtain ⟨c1, c2⟩ := mg_carry (b2n_le s0.2) (mul_le64 q m.1.w0) m0 z0
 have hk0 : k0.toNat = mm.1.toNat + b2n s0.2 := by
  rw [<- hk, BitVec.toNat_add, bitW_nat]
  exact Nat.mod_eq_of_lt c1
 rw [<- hk0] at c2
 have f1 := mac_nat q m.1.w1 r1.1 k0
 rw [hs1] at f1
 have f2 := mac_nat q m.1.w2 r2.1 s1.2
 rw [hs2] at f2
 have f3 := mac_nat q m.1.w3 r3.1 s2.2
 rw [hs3] at f3
 have f4 := mac_nat q m.1.w4 r4.1 s3.2
 rw [hs4] at f4
 have f5 := mac_nat q m.1.w5 r5.1 s4.2
 rw [hs5] at f5
 have f6 := add64_nat r5.2 s5.2 false
 rw [hs6, show b2n false = 0 from rfl, Nat.add_zero] at f6
 have sum := mg_sum e0 e1 e2 e3 e4 e5 c2 f1 f2 f3 f4 f5 f6
 have xA : x.toNat * a.val <= 18446744073709551615 * a.val := Nat.mul_le_mul_right _ (Nat.le_of_lt_succ x.isLt)
 have qY : q.toNat * m.1.val <= 18446744073709551615 * m.1.val := Nat.mul_le_mul_right _ (Nat.le_of_lt_succ q.isLt)
 rw [<- val_mul x.toNat a, <- val_mul q.toNat m.1] at sum
 obtain ⟨n1, n2, n3⟩ := mg_end (v := (W6.mk s1.1 s2.1 s3.1 s4.1 s5.1 s6.1).val) (T := t.1.val) M.small ha ht xA qY sum
 refine ⟨q.toNat, ?_, ?_, ?_⟩
 . rw [hres]
   show bitW false + bitW s6.2 = 0#64
   cases hh : s6.2 with
   | false => rfl
   | true => rw [hh] at n1; cases n1
 . rw [hres]; exact n2
 . rw [hres]; exact n3
theorem mg_raw_sum {x1 q1 v1 x2 q2 v2 x3 q3 v3 x4 q4 v4 x5 q5 v5 x6 q6 v6 : Nat} (h1 : 18446744073709551616 * v1 = x1 + q1) (h2 : 18446744073709551616 * v2 = x2 + v1 + q2) (h3 : 18446744073709551616 * v3 = x3 + v2 + q3) (h4 : 18446744073709551616 * v4 = x4 + v3 + q4) (h5 : 18446744073709551616 * v5 = x5 + v4 + q5) (h6 : 18446744073709551616 * v6 = x6 + v5 + q6) :
 39402006196394479212279040100143613805079739270465446667948293404245721771497210611414266254884915640806627990306816 * v6 = (x1 + 18446744073709551616 * x2 + 340282366920938463463374607431768211456 * x3 + 6277101735386680763835789423207666416102355444464034512896 * x4 + 115792089237316195423570985008687907853269984665640564039457584007913129639936 * x5 + 2135987035920910082395021706169552114602704522356652769947041607822219725780640550022962086936576 * x6) + (q1 + 18446744073709551616 * q2 + 340282366920938463463374607431768211456 * q3 + 6277101735386680763835789423207666416102355444464034512896 * q4 + 115792089237316195423570985008687907853269984665640564039457584007913129639936 * q5 + 2135987035920910082395021706169552114602704522356652769947041607822219725780640550022962086936576 * q6) := by
 omega
theorem mul_sum6 (q1 q2 q3 q4 q5 q6 N : Nat) : (q1 * N + 18446744073709551616 * (q2 * N) + 340282366920938463463374607431768211456 * (q3 * N) + 6277101735386680763835789423207666416102355444464034512896 * (q4 * N) + 115792089237316195423570985008687907853269984665640564039457584007913129639936 * (q5 * N) + 2135987035920910082395021706169552114602704522356652769947041607822219725780640550022962086936576 * (q6 * N)) = (q1 + 18446744073709551616 * q2 + 340282366920938463463374607431768211456 * q3 + 6277101735386680763835789423207666416102355444464034512896 * q4 + 115792089237316195423570985008687907853269984665640564039457584007913129639936 * q5 + 2135987035920910082395021706169552114602704522356652769947041607822219725780640550022962086936576 * q6) * N := by
 simp only [Nat.add_mul, Nat.mul_assoc]
theorem mg_raw {m : Mo} {ri : Nat} (M : Mg m ri) (a b : W6) (hb : b.val < m.1.val) : (moRaw mul64 add64 m a b).1.val < b.val + m.1.val /\ ∃ Q, 39402006196394479212279040100143613805079739270465446667948293404245721771497210611414266254884915640806627990306816 * (moRaw mul64 add64 m a b).1.val = a.val * b.val + Q * m.1.val := by
 have zv : zero8.1.val = 0 := rfl
 have hp := M.pos
 unfold moRaw
 obtain ⟨q1, w1, l1, h1⟩ := mg_round M b a.w0 zero8 rfl hb (by rw [zv]; omega)
 generalize moRound mul64 add64 m b a.w0 zero8 = t1 at w1 l1 h1 ⊢
 obtain ⟨q2, w2, l2, h2⟩ := mg_round M b a.w1 t1 w1 hb l1
 generalize moRound mul64 add64 m b a.w1 t1 = t2 at w2 l2 h2 ⊢
 obtain ⟨q3, w3, l3, h3⟩ := mg_round M b a.w2 t2 w2 hb l2
 generalize moRound mul64 add64 m b a.w2 t2 = t3 at w3 l3 h3 ⊢
 obtain ⟨q4, w4, l4, h4⟩ := mg_round M b a.w3 t3 w3 hb l3
 generalize moRound mul64 add64 m b a.w3 t3 = t4 at w4 l4 h4 ⊢
 obtain ⟨q5, w5, l5, h5⟩ := mg_round M b a.w4 t4 w4 hb l4
 generalize moRound mul64 add64 m b a.w4 t4 = t5 at w5 l5 h5 ⊢
 obtain ⟨q6, w6, l6, h6⟩ := mg_round M b a.w5 t5 w5 hb l5
 generalize moRound mul64 add64 m b a.w5 t5 = t6 at w6 l6 h6 ⊢
 refine ⟨l6, q1 + 18446744073709551616 * q2 + 340282366920938463463374607431768211456 * q3 + 6277101735386680763835789423207666416102355444464034512896 * q4 + 115792089237316195423570985008687907853269984665640564039457584007913129639936 * q5 + 2135987035920910082395021706169552114602704522356652769947041607822219725780640550022962086936576 * q6, ?_⟩
 rw [zv, Nat.add_zero] at h1
 rw [<- mul_sum6]
 have hb : a.val * b.val = (a.w0.toNat * b.val) + 18446744073709551616 * (a.w1.toNat * b.val) + 340282366920938463463374607431768211456 * (a.w2.toNat * b.val) + 6277101735386680763835789423207666416102355444464034512896 * (a.w3.toNat * b.val) + 115792089237316195423570985008687907853269984665640564039457584007913129639936 * (a.w4.toNat * b.val) + 2135987035920910082395021706169552114602704522356652769947041607822219725780640550022962086936576 * (a.w5.toNat * b.val) := by
  rw [Nat.mul_comm, val_mul]
  simp only [Nat.mul_comm b.val]
 rw [hb]
 exact mg_raw_sum h1 h2 h3 h4 h5 h6
theorem mg_less (m : Mo) {x : W6} (h : x.val < 2 * m.1.val) : (moLessW m x).val = x.val % m.1.val := by
 have h1 := subs_nat x m.1
 have hl := (subs x m.1).1.val_lt
 have e : moLessW m x = bif !((subs x m.1).2 == true) then (subs x m.1).1 else x := rfl
 rw [e]
 generalize m.1.val = N at h h1 ⊢
 cases hb : (subs x m.1).2 with
 | true =>
  rw [hb, show b2n true = 1 from rfl] at h1
  show x.val = _
  rw [Nat.mod_eq_of_lt (by omega)]
 | false =>
  rw [hb, show b2n false = 0 from rfl] at h1
  show (subs x m.1).1.val = _
  rw [Nat.mod_eq_sub_mod (by omega), Nat.mod_eq_of_lt (by omega)]
  omega
theorem mg_mont {m : Mo} {ri : Nat} (M : Mg m ri) (a b : W6) (hb : b.val < m.1.val) : (moMontW m a b).val = a.val * b.val * ri % m.1.val := by
 obtain ⟨h1, Q, h2⟩ := mg_raw M a b hb
 have e : moMontW m a b = moLessW m (moRaw mul64 add64 m a b).1 := rfl
 rw [e, mg_less m (by omega)]
 exact wide_mul M.inv h2
theorem cmq_nat (a b : W6) : cmW a b < 0 ↔ a.val < b.val := Go.Rq.cmW_nat a b
theorem mg_red {m : Mo} {ri : Nat} (M : Mg m ri) (a : W6) : (moRedW m a).val = a.val % m.1.val := by
 have e : moRedW m a = bif moNone m then zeroW else bif decide (cmW a m.1 < 0) then a else moMontW m (moMontW m a m.2.2) (ofW (bitW true)) := rfl
 rw [e, M.none, cond_false]
 have hc := cmq_nat a m.1
 by_cases h : a.val < m.1.val
 . rw [decide_eq_true (hc.2 h), cond_true, Nat.mod_eq_of_lt h]
 . rw [decide_eq_false (fun h' => h (hc.1 h')), cond_false]
   have h1 : (ofW (bitW true)).val = 1 := by decide +kernel
   rw [mg_mont M _ _ (by rw [h1]; exact M.pos), mg_mont M a m.2.2 M.wlt, h1]
   exact mul_wide M.wide
theorem mqO_no : mqO.no = moNone := by simp only [mqO]
theorem mqO_mm : mqO.mm = moMontW := by simp only [mqO]
theorem mqO_rd : mqO.rd = moRedW := by simp only [mqO]
theorem mqO_ad : mqO.ad = wAddW := by simp only [mqO]
theorem mqO_sb : mqO.sb = wSubW := by simp only [mqO]
theorem mg_wide {a b w r p : Nat} (h : w * r * r % p = 1) : (a * w * r % p) * b * r % p = a * b % p := by
 rw [Nat.mul_assoc, Nat.mod_mul_mod, show a * w * r * (b * r) = a * b * (w * r * r) by
  simp only [Nat.mul_comm, Nat.mul_left_comm], Nat.mul_mod, h, Nat.mul_one, Nat.mod_mod]
theorem mg_mul {m : Mo} {ri : Nat} (M : Mg m ri) (a b : W6) (hb : b.val < m.1.val) : (qmulW m a b).val = a.val * b.val % m.1.val := by
 have e : qmulW m a b = bif mqO.no m then zeroW else mqO.mm m (mqO.mm m a m.2.2) b := rfl
 rw [e, mqO_no, mqO_mm, M.none, cond_false, mg_mont M _ _ hb, mg_mont M a m.2.2 M.wlt]
 exact mg_wide M.wide
theorem wAdd_val (a b : W6) (h : a.val + b.val < 39402006196394479212279040100143613805079739270465446667948293404245721771497210611414266254884915640806627990306816) : (wAddW a b).1.val = a.val + b.val := by
 have h1 := adds_nat a b
 have e : (wAddW a b).1 = (adds a b).1 := rfl
 rw [e]
 cases hb : (adds a b).2 with
 | true => rw [hb, show b2n true = 1 from rfl] at h1; omega
 | false => rw [hb, show b2n false = 0 from rfl] at h1; omega
theorem wSub_val (a b : W6) : (b.val <= a.val -> (wSubW a b).2 = false /\ (wSubW a b).1.val = a.val - b.val) /\ (a.val < b.val -> (wSubW a b).2 = true /\ (wSubW a b).1.val + b.val = a.val + 39402006196394479212279040100143613805079739270465446667948293404245721771497210611414266254884915640806627990306816) := by
 have h1 := subs_nat a b
 have hl := (subs a b).1.val_lt
 have hb := b.val_lt
 have e1 : (wSubW a b).1 = (subs a b).1 := rfl
 have e2 : (wSubW a b).2 = ((subs a b).2 == true) := rfl
 rw [e1, e2]
 cases hs : (subs a b).2 with
 | true =>
  rw [hs, show b2n true = 1 from rfl] at h1
  exact ⟨fun h => by omega, fun h => ⟨rfl, by omega⟩⟩
 | false =>
  rw [hs, show b2n false = 0 from rfl] at h1
  exact ⟨fun h => ⟨rfl, by omega⟩, fun h => by omega⟩
theorem sub_case {x y n k s : Nat} (hy : y < n) (hlt : x < y) (h : s + y = x + k) : s + n = x + (n - y) + k /\ x + (n - y) < n := by omega
theorem mg_sub {m : Mo} {ri : Nat} (M : Mg m ri) (a b : W6) : (qsubW m a b).val = (a.val % m.1.val + (m.1.val - b.val % m.1.val)) % m.1.val := by
 have e : qsubW m a b = bif mqO.no m then zeroW else bif (mqO.sb (mqO.rd m a) (mqO.rd m b)).2 then (mqO.ad (mqO.sb (mqO.rd m a) (mqO.rd m b)).1 m.1).1 else (mqO.sb (mqO.rd m a) (mqO.rd m b)).1 := rfl
 have hp := M.pos
 have hs := M.small
 have e1 := mg_red M a
 have e2 := mg_red M b
 have h1 : a.val % m.1.val < m.1.val := Nat.mod_lt _ (by omega)
 have h2 : b.val % m.1.val < m.1.val := Nat.mod_lt _ (by omega)
 obtain ⟨k1, k2⟩ := wSub_val (moRedW m a) (moRedW m b)
 rw [e1, e2] at k1 k2
 rw [e, mqO_no, mqO_sb, mqO_ad, mqO_rd, M.none, cond_false]
 by_cases hle : b.val % m.1.val <= a.val % m.1.val
 . obtain ⟨c1, c2⟩ := k1 hle
   rw [c1, cond_false, c2]
   generalize a.val % m.1.val = x at *
   generalize b.val % m.1.val = y at *
   rw [show x + (m.1.val - y) = (x - y) + m.1.val by omega, Nat.add_mod_right, Nat.mod_eq_of_lt (by omega)]
 . have hlt : a.val % m.1.val < b.val % m.1.val := by omega
   obtain ⟨c1, c2⟩ := k2 hlt
   rw [c1, cond_true]
   obtain ⟨d1, d2⟩ := sub_case h2 hlt c2
   have h4 := adds_nat (wSubW (moRedW m a) (moRedW m b)).1 m.1
   have hl := (adds (wSubW (moRedW m a) (moRedW m b)).1 m.1).1.val_lt
   rw [d1] at h4
   rw [Nat.mod_eq_of_lt d2]
   show (adds (wSubW (moRedW m a) (moRedW m b)).1 m.1).1.val = _
   generalize (adds (wSubW (moRedW m a) (moRedW m b)).1 m.1).1.val = z at h4 hl ⊢
   cases hb : (adds (wSubW (moRedW m a) (moRedW m b)).1 m.1).2 with
   | true => rw [hb, show b2n true = 1 from rfl] at h4; omega
   | false => rw [hb, show b2n false = 0 from rfl] at h4; omega
def mdRi : Md -> Nat
 | .pl => 236029
 | .pm => 89654010150814296
 | .rl => 18736
 | .rm => 28583854955383276
 | .ro => 3355780196830291892987310667864784896352702591869607001429614921875678373541
 | .pb => 3231460744492646417066832100176244795738767926513225105051837195607029917124509527734802654356338138714468589979680
theorem md_low (m : Md) : mdLow m * (mdB m).w0 = 18446744073709551615#64 := by cases m <;> decide +kernel
theorem low_of {l n : BitVec 64} (h : l * n = 18446744073709551615#64) (r : BitVec 64) : (mul64 (r * l) n).2 + r + bitW false = 0#64 := by
 apply BitVec.eq_of_toNat_eq
 show (r * l * n + r + bitW false).toNat = 0
 have hr := r.isLt
 rw [BitVec.mul_assoc, h, BitVec.toNat_add, BitVec.toNat_add, BitVec.toNat_mul, bitW_nat]
 show ((r.toNat * 18446744073709551615 % 18446744073709551616 + r.toNat) % 18446744073709551616 + 0) % 18446744073709551616 = 0
 omega
theorem mg_md (m : Md) : Mg (modS m) (mdRi m) where
 low r := low_of (md_low m) r
 none := by cases m <;> decide +kernel
 small := by cases m <;> decide +kernel
 pos := by cases m <;> decide +kernel
 inv := by cases m <;> decide +kernel
 wlt := by cases m <;> decide +kernel
 wide := by cases m <;> decide +kernel
theorem modS_val (m : Md) : (modS m).1.val = mdN m := mdB_nat m
end Go.Rq.Cl

namespace Go.Rq.Sm
open Go Go.Proofs Go.Rq
def rmT (D : Su -> BitVec 64 -> BitVec 64 -> BitVec 64 × BitVec 64) : PureTab := [(217, fnDv D)]
theorem rmT_ok : TabPOk PR (rmT dvF) := TabPOk.cons dv_ok TabPOk.nil
theorem rm_run (D : Su -> BitVec 64 -> BitVec 64 -> BitVec 64 × BitVec 64) (s : Su) (hi lo : BitVec 64) : Tree.but [1] 0 (afunR PR (envOf eqsT (rmT D)) [] (fun _ => none) 10 173 [kU.enc hi, kU.enc lo, kPr.enc s]) =
 .need (Nat.blt (hi % suB s).toNat (suP s) && true) (.leaf (kU.enc (D s (hi % suB s) lo).2)) := by cases s <;> kernel_rfl
def rmF (s : Su) (hi lo : BitVec 64) : BitVec 64 := BitVec.ofNat 64 (Nat.mod (dvN hi lo) (suP s))
theorem rm_eq (s : Su) (hi lo : BitVec 64) : (dvF s (hi % suB s) lo).2 = rmF s hi lo := by
 unfold dvF rmF
 have h : dvN (hi % suB s) lo % suP s = dvN hi lo % suP s := by
  show (((hi % suB s).toNat * 18446744073709551616) + lo.toNat) % suP s = ((hi.toNat * 18446744073709551616) + lo.toNat) % suP s
  rw [BitVec.toNat_umod, suB_nat, Nat.add_mod, Nat.mod_mul_mod, <- Nat.add_mod]
 exact congrArg (BitVec.ofNat 64) h
theorem rm_ctx : Ctx PR (envOf eqsT (rmT dvF)) [] (fun _ => none) 10 173 :=
 ctxB (envOf_ok eqsT_ok rmT_ok) mixed (by kernel_rfl)
theorem rm_ok : CallOk PR 173 (fn3 kU kU kPr kU fun x y s => rmF s x y) := by
 refine .inl ⟨entersB (by kernel_rfl), pure3 rm_ctx fun hi lo s => ⟨Tree.holds_but (l := [1]) (i := 0) ?_⟩⟩
 rw [rm_run]
 refine ⟨?_, ?_⟩
 . have : (hi % suB s).toNat < suP s := by
    rw [BitVec.toNat_umod, suB_nat]; exact Nat.mod_lt _ (suP_pos s)
   rw [show Nat.blt (hi % suB s).toNat (suP s) = true from Nat.ble_eq_true_of_le this]; rfl
 . rw [rm_eq]; exact kU.h1 _
abbrev Cv6 : Type := BitVec 64 × BitVec 64 × BitVec 64 × BitVec 64 × BitVec 64 × Bool
def cCv : CC Cv6 := CC.prod cU (CC.prod cU (CC.prod cU (CC.prod cU (CC.prod cU cBool))))
def suV (s : Su) : Cv6 := (suB s, suR s, suC s, suX s, suY s, false)
def beqU (a b : BitVec 64) : Bool := a == b
theorem beqU_ok (a b : BitVec 64) (h : beqU a b = true) : a = b := eq_of_beq h
def beqB (a b : Bool) : Bool := a == b
theorem beqB_ok (a b : Bool) (h : beqB a b = true) : a = b := eq_of_beq h
def eqCv : Cv6 -> Cv6 -> Bool := pairB beqU (pairB beqU (pairB beqU (pairB beqU (pairB beqU beqB))))
theorem eqCv_ok (a b : Cv6) (h : eqCv a b = true) : a = b := pairB_eq beqU_ok (pairB_eq beqU_ok (pairB_eq beqU_ok (pairB_eq beqU_ok (pairB_eq beqU_ok beqB_ok)))) a b h
def suOfV (x : Cv6) : Option Su := bif eqCv (suV .lit) x then some .lit else bif eqCv (suV .mid) x then some .mid else none
theorem suOfV_ok (x : Cv6) (s : Su) (h : suOfV x = some s) : suV s = x := by
 unfold suOfV at h
 cases h1 : eqCv (suV .lit) x with
 | true => rw [h1, cond_true] at h; cases h; exact eqCv_ok _ _ h1
 | false =>
  rw [h1, cond_false] at h
  cases h2 : eqCv (suV .mid) x with
  | true => rw [h2, cond_true] at h; cases h; exact eqCv_ok _ _ h2
  | false => rw [h2, cond_false] at h; cases h
def kCv : Cod Su := kEmb cCv.agg suV suOfV suOfV_ok
def cLp : CC Lp := CC.prod cU (CC.prod cU cBool)
def lmT (M : BitVec 64 -> BitVec 64 -> BitVec 64 × BitVec 64) (R : Op2) : PureTab := [(172, fn2 kU kU kUU M), (173, fn3 kU kU kPr kU fun x y s => R s x y)]
theorem lmT_ok : TabPOk PR (lmT mul64 rmF) := TabPOk.cons mul64_ok (TabPOk.cons rm_ok TabPOk.nil)
theorem lm_run (M : BitVec 64 -> BitVec 64 -> BitVec 64 × BitVec 64) (R : Op2) (s : Su) (a b : BitVec 64) : (afunR PR (envOf eqsT (lmT M R)) [] (fun _ => none) 10 167 [kCv.enc s, kU.enc a, kU.enc b]).strict = .leaf (kU.enc (R s (M a b).1 (M a b).2)) := by cases s <;> kernel_rfl
theorem lm_eq (s : Su) (a b : BitVec 64) : rmF s (mul64 a b).1 (mul64 a b).2 = lMul s a b := by
 unfold rmF lMul
 have h := mul64_nat a b
 have e : dvN (mul64 a b).1 (mul64 a b).2 = a.toNat * b.toNat := by
  show (mul64 a b).1.toNat * 18446744073709551616 + (mul64 a b).2.toNat = _
  rw [<- h, Nat.add_comm, Nat.mul_comm]
 rw [e]; rfl
theorem lm_ctx : Ctx PR (envOf eqsT (lmT mul64 rmF)) [] (fun _ => none) 10 167 :=
 ctxB (envOf_ok eqsT_ok lmT_ok) mixed (by kernel_rfl)
theorem lm_ok : CallOk PR 167 (fn3 kCv kU kU kU lMul) :=
 .inl ⟨entersB (by kernel_rfl), pure3 lm_ctx fun s a b => leafVal (B := kU) (y := lMul s a b) (by rw [lm_run, lm_eq])⟩
theorem la_run (s : Su) (a b : BitVec 64) : (afunR PR (envOf eqsT []) [] (fun _ => none) 10 215 [kCv.enc s, kU.enc a, kU.enc b]).strict = .leaf (kU.enc (lAdd s a b)) := by cases s <;> kernel_rfl
theorem ls_run (s : Su) (a b : BitVec 64) : (afunR PR (envOf eqsT []) [] (fun _ => none) 10 135 [kCv.enc s, kU.enc a, kU.enc b]).strict = .leaf (kU.enc (lSub s a b)) := by cases s <;> kernel_rfl
theorem la_ctx : Ctx PR (envOf eqsT []) [] (fun _ => none) 10 215 :=
 ctxB (envOf_ok eqsT_ok TabPOk.nil) mixed (by kernel_rfl)
theorem ls_ctx : Ctx PR (envOf eqsT []) [] (fun _ => none) 10 135 :=
 ctxB (envOf_ok eqsT_ok TabPOk.nil) mixed (by kernel_rfl)
theorem la_ok : CallOk PR 215 (fn3 kCv kU kU kU lAdd) :=
 .inl ⟨entersB (by kernel_rfl), pure3 la_ctx fun s a b => leafVal (B := kU) (y := lAdd s a b) (la_run s a b)⟩
theorem ls_ok : CallOk PR 135 (fn3 kCv kU kU kU lSub) :=
 .inl ⟨entersB (by kernel_rfl), pure3 ls_ctx fun s a b => leafVal (B := kU) (y := lSub s a b) (ls_run s a b)⟩
structure LQ where
 mul : Op2
 add : Op2
 sub : Op2
 right : Op1
 inv : Op1
 slope : Su -> Lp -> Lp -> BitVec 64 × Bool
 sum : Su -> Lp -> Lp -> Lp
def kUb : Cod (BitVec 64 × Bool) := kTup kU kBool (fun _ => rfl) (fun _ => rfl)
def tMulL (t : LQ) : FuncId × (List AV -> Option (Bool × AV)) := (167, fn3 kCv kU kU kU t.mul)
def tAddL (t : LQ) : FuncId × (List AV -> Option (Bool × AV)) := (215, fn3 kCv kU kU kU t.add)
def tSubL (t : LQ) : FuncId × (List AV -> Option (Bool × AV)) := (135, fn3 kCv kU kU kU t.sub)
def tRightL (t : LQ) : FuncId × (List AV -> Option (Bool × AV)) := (213, fn2 kCv kU kU t.right)
def tInvL (t : LQ) : FuncId × (List AV -> Option (Bool × AV)) := (214, fn2 kCv kU kU t.inv)
def tSlopeL (t : LQ) : FuncId × (List AV -> Option (Bool × AV)) := (166, fn3 kCv cLp.agg cLp.agg kUb t.slope)
def lrT (t : LQ) : PureTab := [tMulL t, tAddL t]
theorem lr_run (t : LQ) (s : Su) (x : BitVec 64) : (afunR PR (envOf eqsT (lrT t)) [] (fun _ => none) 10 213 [kCv.enc s, kU.enc x]).strict = .leaf (kU.enc (t.add s (t.mul s (t.mul s x x) x) x)) := by cases s <;> kernel_rfl
def onG (t : LQ) (s : Su) (p : Lp) : Bool := bif p.2.2 then (bif p.1 == 0#64 then p.2.1 == 0#64 else false) else
 bif BitVec.ult p.1 (suB s) then (bif BitVec.ult p.2.1 (suB s) then t.mul s p.2.1 p.2.1 == t.right s p.1 else false) else false
def loT (t : LQ) : PureTab := [tMulL t, tRightL t]
theorem lo_run (t : LQ) (s : Su) (p : Lp) : (afunR PR (envOf eqsT (loT t)) [6, 10, 20, 27] (fun _ => none) 10 165 [kCv.enc s, cLp.agg.enc p]).strict =
 .br p.2.2 (.br (p.1 == bitW false) (.leaf (.v (.bool (p.2.1 == bitW false)))) (.leaf (.lit false)))
  (.br (BitVec.ult p.1 (suB s)) (.br (BitVec.ult p.2.1 (suB s)) (.leaf (.v (.bool (t.mul s p.2.1 p.2.1 == t.right s p.1)))) (.leaf (.lit false))) (.leaf (.lit false))) := by cases s <;> kernel_rfl
theorem lo_gives (t : LQ) (s : Su) (p : Lp) : Gives (afunR PR (envOf eqsT (loT t)) [6, 10, 20, 27] (fun _ => none) 10 165 [kCv.enc s, cLp.agg.enc p]) (kBool.val (onG t s p)) :=
 givesOf (lo_run t s p) (holds_br (B := kBool) (holds_br (B := kBool) (holds_leaf rfl) (holds_leaf rfl)) (holds_br (B := kBool) (holds_br (B := kBool) (holds_leaf rfl) (holds_leaf rfl)) (holds_leaf rfl)))
theorem lr_ctx : Ctx PR (envOf eqsT (lrT ⟨lMul, lAdd, lSub, lrF, lrF, fun _ _ _ => (0#64, false), fun _ p _ => p⟩)) [] (fun _ => none) 10 213 :=
 ctxB (envOf_ok eqsT_ok (TabPOk.cons lm_ok (TabPOk.cons la_ok TabPOk.nil))) mixed (by kernel_rfl)
theorem lr_ok : CallOk PR 213 (fn2 kCv kU kU lrF) :=
 .inl ⟨entersB (by kernel_rfl), pure2 lr_ctx fun s x => leafVal (B := kU) (y := lrF s x) (lr_run _ s x)⟩
theorem lo_ctx : Ctx PR (envOf eqsT (loT ⟨lMul, lAdd, lSub, lrF, lrF, fun _ _ _ => (0#64, false), fun _ p _ => p⟩)) [6, 10, 20, 27] (fun _ => none) 10 165 :=
 ctxB (envOf_ok eqsT_ok (TabPOk.cons lm_ok (TabPOk.cons lr_ok TabPOk.nil))) mixed (by kernel_rfl)
theorem lo_ok : CallOk PR 165 (fn2 kCv cLp.agg kBool onF) :=
 .inl ⟨entersB (by kernel_rfl), pure2 lo_ctx fun s p => lo_gives _ s p⟩
def lvT (P : Op2) : PureTab := [(247, fn3 kCv kU kU kU P)]
theorem lv_run (P : Op2) (s : Su) (x : BitVec 64) : (afunR PR (envOf eqsT (lvT P)) [] (fun _ => none) 10 214 [kCv.enc s, kU.enc x]).strict = .leaf (kU.enc (P s x (suB s - 2#64))) := by cases s <;> kernel_rfl
def slopeG (t : LQ) (s : Su) (p q : Lp) : BitVec 64 × Bool := bif p.1 != q.1 then (t.mul s (t.sub s q.2.1 p.2.1) (t.inv s (t.sub s q.1 p.1)), true) else
 bif p.2.1 != q.2.1 then (0#64, false) else bif p.2.1 == 0#64 then (0#64, false) else
 (t.mul s (t.add s (t.add s (t.add s (t.mul s p.1 p.1) (t.mul s p.1 p.1)) (t.mul s p.1 p.1)) 1#64) (t.inv s (t.add s p.2.1 p.2.1)), true)
def lsT (t : LQ) : PureTab := [tMulL t, tAddL t, tSubL t, tInvL t]
def slL0 : AV := .tup [.bit false, .lit false]
theorem slL0_flat : flat slL0 = some (kUb.val (0#64, false)) := rfl
def slL (x : BitVec 64) (b : Bool) : AV := .tup [.u x, .lit b]
theorem slL_flat (x : BitVec 64) (b : Bool) : flat (slL x b) = some (kUb.val (x, b)) := rfl
theorem lsl_run (t : LQ) (s : Su) (p q : Lp) : (afunR PR (envOf eqsT (lsT t)) [13, 35, 39] (fun _ => none) 10 166 [kCv.enc s, cLp.agg.enc p, cLp.agg.enc q]).strict =
 .br (p.1 != q.1) (.leaf (slL (t.mul s (t.sub s q.2.1 p.2.1) (t.inv s (t.sub s q.1 p.1))) true))
  (.br (p.2.1 != q.2.1) (.leaf slL0) (.br (p.2.1 == 0#64) (.leaf slL0)
   (.leaf (slL (t.mul s (t.add s (t.add s (t.add s (t.mul s p.1 p.1) (t.mul s p.1 p.1)) (t.mul s p.1 p.1)) 1#64) (t.inv s (t.add s p.2.1 p.2.1))) true)))) := by cases s <;> kernel_rfl
theorem lsl_gives (t : LQ) (s : Su) (p q : Lp) : Gives (afunR PR (envOf eqsT (lsT t)) [13, 35, 39] (fun _ => none) 10 166 [kCv.enc s, cLp.agg.enc p, cLp.agg.enc q]) (kUb.val (slopeG t s p q)) :=
 givesOf (lsl_run t s p q) (holds_br (B := kUb) (holds_leaf (slL_flat _ _)) (holds_br (B := kUb) (holds_leaf slL0_flat) (holds_br (B := kUb) (holds_leaf slL0_flat) (holds_leaf (slL_flat _ _)))))
def sumG (t : LQ) (s : Su) (p q : Lp) : Lp := bif p.2.2 then q else bif q.2.2 then p else bif !(t.slope s p q).2 then (0#64, 0#64, true) else
 (t.sub s (t.sub s (t.mul s (t.slope s p q).1 (t.slope s p q).1) p.1) q.1,
  t.sub s (t.mul s (t.slope s p q).1 (t.sub s p.1 (t.sub s (t.sub s (t.mul s (t.slope s p q).1 (t.slope s p q).1) p.1) q.1))) p.2.1, false)
def lsmT (t : LQ) : PureTab := [tMulL t, tSubL t, tSlopeL t]
def lpL (x y : BitVec 64) (b : Bool) : AV := .agg [.u x, .u y, .lit b]
theorem lpL_flat (x y : BitVec 64) (b : Bool) : flat (lpL x y b) = some (cLp.agg.val (x, y, b)) := rfl
theorem lsm_run (t : LQ) (s : Su) (p q : Lp) : (afunR PR (envOf eqsT (lsmT t)) [10, 14, 26] (fun _ => none) 10 113 [kCv.enc s, cLp.agg.enc p, cLp.agg.enc q]).strict =
 .br p.2.2 (.leaf (cLp.agg.enc q)) (.br q.2.2 (.leaf (cLp.agg.enc p)) (.br (!(t.slope s p q).2) (.leaf (lpL 0#64 0#64 true))
  (.leaf (lpL (t.sub s (t.sub s (t.mul s (t.slope s p q).1 (t.slope s p q).1) p.1) q.1)
   (t.sub s (t.mul s (t.slope s p q).1 (t.sub s p.1 (t.sub s (t.sub s (t.mul s (t.slope s p q).1 (t.slope s p q).1) p.1) q.1))) p.2.1) false)))) := by cases s <;> kernel_rfl
theorem lsm_gives (t : LQ) (s : Su) (p q : Lp) : Gives (afunR PR (envOf eqsT (lsmT t)) [10, 14, 26] (fun _ => none) 10 113 [kCv.enc s, cLp.agg.enc p, cLp.agg.enc q]) (cLp.agg.val (sumG t s p q)) :=
 givesOf (lsm_run t s p q) (holds_br (B := cLp.agg) (holds_leaf (cLp.agg.h1 _)) (holds_br (B := cLp.agg) (holds_leaf (cLp.agg.h1 _)) (holds_br (B := cLp.agg) (holds_leaf (lpL_flat _ _ _)) (holds_leaf (lpL_flat _ _ _)))))
def lpwT (M : Op2) (L : BitVec 64 -> Int) : PureTab := [(167, fn3 kCv kU kU kU M), (142, fn1 kU (kInt .i64) L)]
def blI (x : BitVec 64) : Int := ((bl x.toNat : Nat) : Int)
theorem lpwT_ok : TabPOk PR (lpwT lMul blI) := TabPOk.cons lm_ok (TabPOk.cons len64_ok TabPOk.nil)
def pwK : Keep := ⟨[1, 2, 3, 7, 8], [0], 6⟩
@[irreducible] noncomputable def pwX (M : Op2) (L : BitVec 64 -> Int) (s : Su) (a n : BitVec 64) : XS := entryOf PR (envOf eqsT (lpwT M L)) [13, 24] (fun _ => none) 10 247 [kCv.enc s, kU.enc a, kU.enc n] [] 0 0 pwK
@[irreducible] noncomputable def pwI (M : Op2) (L : BitVec 64 -> Int) (s : Su) (a n : BitVec 64) (d : Int × BitVec 64) : XS := ((pwX M L s a n).setT 8 (.v (.int .i64 d.1))).setT 7 (.u d.2)
@[irreducible] noncomputable def pwC : Code := roundOf PR 247 0
set_option maxRecDepth 1000000 in
theorem pw_round (M : Op2) (L : BitVec 64 -> Int) (s : Su) (a n : BitVec 64) (z : Int) (out : BitVec 64) : Tree.but [2] 0 (roundT PR (envOf eqsT (lpwT M L)) [13, 24] (fun _ => none) 10 pwK pwK pwK pwC (pwI M L s a n (z, out))) =
 .br (decide (z >= 0))
  (.br (bitU n z)
   (.need (notNeg z) (.leaf (.normal, pwI M L s a n (IntKind.i64.wrap (z - 1), M s (M s out out) a))))
   (.need (notNeg z) (.leaf (.normal, pwI M L s a n (IntKind.i64.wrap (z - 1), M s out out)))))
  (.leaf (.exit 0, pwI M L s a n (z, out))) := by cases s <;> kernel_rfl
set_option maxRecDepth 1000000 in
theorem pw_head (M : Op2) (L : BitVec 64 -> Int) (s : Su) (a n : BitVec 64) : (pwX M L s a n).setT 7 (.u (bitW true)) = pwI M L s a n (IntKind.i64.wrap (L n - 1), bitW true) := by cases s <;> kernel_rfl
set_option maxRecDepth 1000000 in
theorem pw_bit (M : Op2) (L : BitVec 64 -> Int) (s : Su) (a n : BitVec 64) : (pwX M L s a n).s.tm[7]? = some (.bit true) := by cases s <;> kernel_rfl
theorem pw_blk : blkAll 0 (bodyOf PR 247) = [.loop pwC] := by kernel_rfl
@[irreducible] noncomputable def pwB (M : Op2) (L : BitVec 64 -> Int) (s : Su) (a n r : BitVec 64) : BEnt := ⟨pwK.tm, pwK.ids, pwK.n, pwX M L s a n, .leaf (.normal, pwI M L s a n (-1, r))⟩
theorem pwB_n (M : Op2) (L : BitVec 64 -> Int) (s : Su) (a n r : BitVec 64) : (pwB M L s a n r).n = 6 /\ (pwB M L s a n r).pre = pwX M L s a n /\ (pwB M L s a n r).post = .leaf (.normal, pwI M L s a n (-1, r)) := by
 unfold pwB
 exact ⟨rfl, rfl, rfl⟩
set_option maxRecDepth 1000000 in
theorem pw_run (M : Op2) (L : BitVec 64 -> Int) (s : Su) (a n r : BitVec 64) : (afunR PR (envOf eqsT (lpwT M L)) [13, 24] (tabOf [(0, pwB M L s a n r)]) 10 247 [kCv.enc s, kU.enc a, kU.enc n]).strict =
 .same (pwX M L s a n) (pwX M L s a n) (.leaf (kU.enc r)) := by cases s <;> kernel_rfl
theorem pw_codeOk : codeOk (envOf eqsT (lpwT lMul blI)) pwC = true := by kernel_rfl
theorem blI_le (n : BitVec 64) : 0 <= blI n /\ blI n <= 64 := by
 have : bl n.toNat <= 64 := bl_spec.2 n.isLt
 unfold blI
 omega
def pwR (s : Su) (a n : BitVec 64) : BitVec 64 := sqB (fun u => lMul s u u) (fun u => lMul s u a) (bitU n) (bl n.toNat) (bitW true)
theorem pw_start (s : Su) (a n : BitVec 64) : ∀ d : Int × BitVec 64, d = (IntKind.i64.wrap (blI n - 1), bitW true) -> -1 <= d.1 /\ d.1 <= 63 /\ sqB (fun u => lMul s u u) (fun u => lMul s u a) (bitU n) (d.1 + 1).toNat d.2 = pwR s a n := by
 rintro d rfl
 have hl := blI_le n
 have hw : IntKind.i64.wrap (blI n - 1) = blI n - 1 := wrap_id (n := blI n - 1) (by omega) (by omega)
 rw [hw]
 refine ⟨?_, ?_, ?_⟩
 . show -1 <= blI n - 1
   omega
 . show blI n - 1 <= 63
   omega
 . show sqB _ _ _ (blI n - 1 + 1).toNat _ = _
   rw [show (blI n - 1 + 1).toNat = bl n.toNat by unfold blI; omega]
   rfl
theorem pw_loop (s : Su) (a n : BitVec 64) {Fr0 : Fr} {ds : List Deferred} {Q : AExit -> XS -> Prop} (hK : Q .normal (pwI lMul blI s a n (-1, pwR s a n))) :
 Tri PR Fr0 ds 0 (.block 0 (.loop pwC)) (pwX lMul blI s a n) Q :=
 Tri.asU (pw_bit lMul blI s a n) <| Eq.subst (motive := fun y => Tri PR Fr0 ds 0 (.block 0 (.loop pwC)) y Q) (pw_head lMul blI s a n).symm <|
  blockLoop (m := 0) (envOf_ok eqsT_ok lpwT_ok) mixed (sym := [13, 24]) (tab := fun _ => none) (lf := 10) (k := pwK) (kx := pwK) (kr := pwK) (by decide) (by decide) (by decide) pw_codeOk (tabOk_none _)
  (pwI lMul blI s a n) (fun d => -1 <= d.1 /\ d.1 <= 63 /\ sqB (fun u => lMul s u u) (fun u => lMul s u a) (bitU n) (d.1 + 1).toNat d.2 = pwR s a n) (fun d => (d.1 + 1).toNat) _ (pw_start s a n _ rfl)
  (sqB_law (by decide) (fun u => lMul s u u) (fun u => lMul s u a) (bitU n) notNeg notNeg_ok _ (pwI lMul blI s a n) (pw_round lMul blI s a n) hK)
theorem pw_tab (s : Su) (a n : BitVec 64) : TabOk PR 0 (tabOf [(0, pwB lMul blI s a n (pwR s a n))]) (bodyOf PR 247) :=
 tabOk_one (by rw [(pwB_n lMul blI s a n (pwR s a n)).1]; decide) pw_blk fun Fr0 ds Q h => by
  obtain ⟨-, h2, h3⟩ := pwB_n lMul blI s a n (pwR s a n)
  rw [h3] at h
  rw [h2]
  exact pw_loop s a n h
theorem pw_ctx (s : Su) (a n : BitVec 64) : Ctx PR (envOf eqsT (lpwT lMul blI)) [13, 24] (tabOf [(0, pwB lMul blI s a n (pwR s a n))]) 10 247 :=
 ctx_of (envOf_ok eqsT_ok lpwT_ok) mixed (fn := Tryz.f247) (by kernel_rfl) (by kernel_rfl) (by kernel_rfl) (pw_tab s a n)
theorem pwR_eq (s : Su) (a n : BitVec 64) : pwR s a n = lPow s a n := (sqF_eq (frc := frcU) (fun x f => frcU_eq x f) _ _ _ _ _).symm
theorem pw_ok : CallOk PR 247 (fn3 kCv kU kU kU lPow) :=
 .inl ⟨entersB (by kernel_rfl), pure3X fun s a n => .of (pw_ctx s a n) (sameVal (B := kU) (by rw [<- pwR_eq]; exact pw_run lMul blI s a n (pwR s a n)))⟩
theorem lv_ctx : Ctx PR (envOf eqsT (lvT lPow)) [] (fun _ => none) 10 214 :=
 ctxB (envOf_ok eqsT_ok (TabPOk.cons pw_ok TabPOk.nil)) mixed (by kernel_rfl)
theorem lv_ok : CallOk PR 214 (fn2 kCv kU kU lInv) :=
 .inl ⟨entersB (by kernel_rfl), pure2 lv_ctx fun s x => leafVal (B := kU) (y := lInv s x) (lv_run lPow s x)⟩
noncomputable def lq0 : LQ := ⟨lMul, lAdd, lSub, lrF, lInv, fun _ _ _ => (0#64, false), fun _ p _ => p⟩
theorem lsl_ctx : Ctx PR (envOf eqsT (lsT lq0)) [13, 35, 39] (fun _ => none) 10 166 :=
 ctxB (envOf_ok eqsT_ok (TabPOk.cons lm_ok (TabPOk.cons la_ok (TabPOk.cons ls_ok (TabPOk.cons lv_ok TabPOk.nil))))) mixed (by kernel_rfl)
theorem lsl_ok : CallOk PR 166 (fn3 kCv cLp.agg cLp.agg kUb lSlope) :=
 .inl ⟨entersB (by kernel_rfl), pure3 lsl_ctx fun s p q => lsl_gives lq0 s p q⟩
noncomputable def lq1 : LQ := ⟨lMul, lAdd, lSub, lrF, lInv, lSlope, fun _ p _ => p⟩
theorem lSum_eq (s : Su) (p q : Lp) : sumG lq1 s p q = lSum s p q := by
 unfold lSum sumG
 rw [frcB_eq, frcU_eq, frcU_eq]
 rfl
theorem lsm_ctx : Ctx PR (envOf eqsT (lsmT lq1)) [10, 14, 26] (fun _ => none) 10 113 :=
 ctxB (envOf_ok eqsT_ok (TabPOk.cons lm_ok (TabPOk.cons ls_ok (TabPOk.cons lsl_ok TabPOk.nil)))) mixed (by kernel_rfl)
theorem lsm_ok : CallOk PR 113 (fn3 kCv cLp.agg cLp.agg cLp.agg lSum) :=
 .inl ⟨entersB (by kernel_rfl), pure3 lsm_ctx fun s p q => by rw [<- lSum_eq]; exact lsm_gives lq1 s p q⟩
def ltmT (S : Su -> Lp -> Lp -> Lp) (L : BitVec 64 -> Int) : PureTab := [(113, fn3 kCv cLp.agg cLp.agg cLp.agg S), (142, fn1 kU (kInt .i64) L)]
theorem ltmT_ok : TabPOk PR (ltmT lSum blI) := TabPOk.cons lsm_ok (TabPOk.cons len64_ok TabPOk.nil)
def tmK : Keep := ⟨[2, 3, 4, 6, 7, 8], [0, 1, 2, 4], 9⟩
@[irreducible] noncomputable def tmX (S : Su -> Lp -> Lp -> Lp) (L : BitVec 64 -> Int) (s : Su) (p : Lp) (n : BitVec 64) : XS := entryOf PR (envOf eqsT (ltmT S L)) [14, 25] (fun _ => none) 10 186 [kCv.enc s, cLp.agg.enc p, kU.enc n] [] 0 0 tmK
@[irreducible] noncomputable def tmI (S : Su -> Lp -> Lp -> Lp) (L : BitVec 64 -> Int) (s : Su) (p : Lp) (n : BitVec 64) (d : Int × Lp) : XS := ((tmX S L s p n).setT 8 (.v (.int .i64 d.1))).setB 4 (cLp.enc d.2)
@[irreducible] noncomputable def tmC : Code := roundOf PR 186 0
set_option maxRecDepth 1000000 in
theorem tm_round (S : Su -> Lp -> Lp -> Lp) (L : BitVec 64 -> Int) (s : Su) (p : Lp) (n : BitVec 64) (z : Int) (out : Lp) : Tree.but [2] 0 (roundT PR (envOf eqsT (ltmT S L)) [14, 25] (fun _ => none) 10 tmK tmK tmK tmC (tmI S L s p n (z, out))) =
 .br (decide (z >= 0))
  (.br (bitU n z)
   (.need (notNeg z) (.leaf (.normal, tmI S L s p n (IntKind.i64.wrap (z - 1), S s (S s out out) p))))
   (.need (notNeg z) (.leaf (.normal, tmI S L s p n (IntKind.i64.wrap (z - 1), S s out out)))))
  (.leaf (.exit 0, tmI S L s p n (z, out))) := by cases s <;> kernel_rfl
set_option maxRecDepth 1000000 in
theorem tm_head (S : Su -> Lp -> Lp -> Lp) (L : BitVec 64 -> Int) (s : Su) (p : Lp) (n : BitVec 64) : (tmX S L s p n).setB 4 (cLp.enc lp0) = tmI S L s p n (IntKind.i64.wrap (L n - 1), lp0) := by cases s <;> kernel_rfl
set_option maxRecDepth 1000000 in
theorem tm_cell (S : Su -> Lp -> Lp -> Lp) (L : BitVec 64 -> Int) (s : Su) (p : Lp) (n : BitVec 64) : (tmX S L s p n).s.h.get 4 = some ⟨true, 40, [.u 0#64, .u 0#64, .lit true]⟩ := by cases s <;> kernel_rfl
theorem tm_blk : blkAll 0 (bodyOf PR 186) = [.loop tmC] := by kernel_rfl
@[irreducible] noncomputable def tmB (S : Su -> Lp -> Lp -> Lp) (L : BitVec 64 -> Int) (s : Su) (p : Lp) (n : BitVec 64) (r : Lp) : BEnt := ⟨tmK.tm, tmK.ids, tmK.n, tmX S L s p n, .leaf (.normal, tmI S L s p n (-1, r))⟩
theorem tmB_n (S : Su -> Lp -> Lp -> Lp) (L : BitVec 64 -> Int) (s : Su) (p : Lp) (n : BitVec 64) (r : Lp) : (tmB S L s p n r).n = 9 /\ (tmB S L s p n r).pre = tmX S L s p n /\ (tmB S L s p n r).post = .leaf (.normal, tmI S L s p n (-1, r)) := by
 unfold tmB
 exact ⟨rfl, rfl, rfl⟩
set_option maxRecDepth 1000000 in
theorem tm_run (S : Su -> Lp -> Lp -> Lp) (L : BitVec 64 -> Int) (s : Su) (p : Lp) (n : BitVec 64) (r : Lp) : (afunR PR (envOf eqsT (ltmT S L)) [14, 25] (tabOf [(0, tmB S L s p n r)]) 10 186 [kCv.enc s, cLp.agg.enc p, kU.enc n]).strict =
 .same (tmX S L s p n) (tmX S L s p n) (.leaf (cLp.agg.enc r)) := by cases s <;> kernel_rfl
theorem tm_codeOk : codeOk (envOf eqsT (ltmT lSum blI)) tmC = true := by kernel_rfl
noncomputable def tmR (s : Su) (p : Lp) (n : BitVec 64) : Lp := sqB (fun u => lSum s u u) (fun u => lSum s u p) (bitU n) (bl n.toNat) lp0
theorem tm_start (s : Su) (p : Lp) (n : BitVec 64) : ∀ d : Int × Lp, d = (IntKind.i64.wrap (blI n - 1), lp0) -> -1 <= d.1 /\ d.1 <= 63 /\ sqB (fun u => lSum s u u) (fun u => lSum s u p) (bitU n) (d.1 + 1).toNat d.2 = tmR s p n := by
 rintro d rfl
 have hl := blI_le n
 have hw : IntKind.i64.wrap (blI n - 1) = blI n - 1 := wrap_id (n := blI n - 1) (by omega) (by omega)
 rw [hw]
 refine ⟨?_, ?_, ?_⟩
 . show -1 <= blI n - 1
   omega
 . show blI n - 1 <= 63
   omega
 . show sqB _ _ _ (blI n - 1 + 1).toNat _ = _
   rw [show (blI n - 1 + 1).toNat = bl n.toNat by unfold blI; omega]
   rfl
theorem cells3 {ρ : Ren} {i : Nat} {a c : AV} {x : Value} (ha : ([.u 0#64, .u 0#64, .lit true] : List AV)[i]? = some a) (hc : (cLp.enc lp0)[i]? = some c) (h : Rv ρ a x) : Rv ρ c x := by
 have e : cLp.enc lp0 = [.u 0#64, .u 0#64, .v (.bool true)] := rfl
 rw [e] at hc
 match i with
 | 0 => simp at ha hc; subst ha; subst hc; exact h
 | 1 => simp at ha hc; subst ha; subst hc; exact h
 | 2 => simp at ha hc; subst ha; subst hc; exact h.other rfl rfl
 | n + 3 => simp at ha
theorem tm_loop (s : Su) (p : Lp) (n : BitVec 64) {Fr0 : Fr} {ds : List Deferred} {Q : AExit -> XS -> Prop} (hK : Q .normal (tmI lSum blI s p n (-1, tmR s p n))) :
 Tri PR Fr0 ds 0 (.block 0 (.loop tmC)) (tmX lSum blI s p n) Q :=
 Tri.asC (cs := cLp.enc lp0) (tm_cell lSum blI s p n) rfl (fun ρ i a c x ha hc h => cells3 ha hc h) <| Eq.subst (motive := fun y => Tri PR Fr0 ds 0 (.block 0 (.loop tmC)) y Q) (tm_head lSum blI s p n).symm <|
  blockLoop (m := 0) (envOf_ok eqsT_ok ltmT_ok) mixed (sym := [14, 25]) (tab := fun _ => none) (lf := 10) (k := tmK) (kx := tmK) (kr := tmK) (by decide) (by decide) (by decide) tm_codeOk (tabOk_none _)
  (tmI lSum blI s p n) (fun d => -1 <= d.1 /\ d.1 <= 63 /\ sqB (fun u => lSum s u u) (fun u => lSum s u p) (bitU n) (d.1 + 1).toNat d.2 = tmR s p n) (fun d => (d.1 + 1).toNat) _ (tm_start s p n _ rfl)
  (sqB_law (by decide) (fun u => lSum s u u) (fun u => lSum s u p) (bitU n) notNeg notNeg_ok _ (tmI lSum blI s p n) (tm_round lSum blI s p n) hK)
theorem tm_tab (s : Su) (p : Lp) (n : BitVec 64) : TabOk PR 0 (tabOf [(0, tmB lSum blI s p n (tmR s p n))]) (bodyOf PR 186) :=
 tabOk_one (by rw [(tmB_n lSum blI s p n (tmR s p n)).1]; decide) tm_blk fun Fr0 ds Q h => by
  obtain ⟨-, h2, h3⟩ := tmB_n lSum blI s p n (tmR s p n)
  rw [h3] at h
  rw [h2]
  exact tm_loop s p n h
theorem tm_ctx (s : Su) (p : Lp) (n : BitVec 64) : Ctx PR (envOf eqsT (ltmT lSum blI)) [14, 25] (tabOf [(0, tmB lSum blI s p n (tmR s p n))]) 10 186 :=
 ctx_of (envOf_ok eqsT_ok ltmT_ok) mixed (fn := Tryz.f186) (by kernel_rfl) (by kernel_rfl) (by kernel_rfl) (tm_tab s p n)
theorem tmR_eq (s : Su) (p : Lp) (n : BitVec 64) : tmR s p n = lTimes s p n := (sqF_eq (frc := frcLp) (fun x f => frcLp_eq x f) _ _ _ _ _).symm
theorem tm_ok : CallOk PR 186 (fn3 kCv cLp.agg kU cLp.agg lTimes) :=
 .inl ⟨entersB (by kernel_rfl), pure3X fun s p n => .of (tm_ctx s p n) (sameVal (B := cLp.agg) (by rw [<- tmR_eq]; exact tm_run lSum blI s p n (tmR s p n)))⟩
def linT (O : Su -> Lp -> Bool) (T : Su -> Lp -> BitVec 64 -> Lp) : PureTab := [(165, fn2 kCv cLp.agg kBool O), (186, fn3 kCv cLp.agg kU cLp.agg T)]
theorem lin_run (O : Su -> Lp -> Bool) (T : Su -> Lp -> BitVec 64 -> Lp) (s : Su) (p : Lp) : (afunR PR (envOf eqsT (linT O T)) [8] (fun _ => none) 10 163 [kCv.enc s, cLp.agg.enc p]).strict =
 .br (O s p) (.leaf (.v (.bool (T s p (suR s)).2.2))) (.leaf (.lit false)) := by cases s <;> kernel_rfl
theorem lin_ctx : Ctx PR (envOf eqsT (linT onF lTimes)) [8] (fun _ => none) 10 163 :=
 ctxB (envOf_ok eqsT_ok (TabPOk.cons lo_ok (TabPOk.cons tm_ok TabPOk.nil))) mixed (by kernel_rfl)
theorem lin_ok : CallOk PR 163 (fn2 kCv cLp.agg kBool inF) :=
 .inl ⟨entersB (by kernel_rfl), pure2 lin_ctx fun s p => givesOf (lin_run onF lTimes s p) (holds_br (B := kBool) (holds_leaf rfl) (holds_leaf rfl))⟩
noncomputable def lofG : List AV -> Option (Bool × AV) := inlineG PR (envOf eqsT []) [] 10 162
theorem lof_ctx : Ctx PR (envOf eqsT []) [] (fun _ => none) 10 162 :=
 ctxB (envOf_ok eqsT_ok TabPOk.nil) mixed (by kernel_rfl)
theorem lof_ok : CallOk PR 162 lofG := .inl ⟨entersB (by kernel_rfl), inline_ok lof_ctx⟩
noncomputable def liE (O : Su -> Lp -> Bool) : Env := envOf eqsT [(162, lofG), (163, fn2 kCv cLp.agg kBool O)]
def liF (O : Su -> Lp -> Bool) : Sx -> Lp -> Bool
 | .li, p => O .lit p
 | .mi, p => O .mid p
 | _, _ => false
theorem li_run (O : Su -> Lp -> Bool) (s : Sx) (p : Lp) : valS (afunR PR (liE O) [] (fun _ => none) 10 109 [kSx.enc s, cLp.agg.enc p]) = some (kBool.val (liF O s p)) := by cases s <;> kernel_rfl
theorem li_ctx : Ctx PR (liE inF) [] (fun _ => none) 10 109 :=
 ctxB (envOf_ok eqsT_ok (TabPOk.cons lof_ok (TabPOk.cons lin_ok TabPOk.nil))) mixed (by kernel_rfl)
theorem li_ok : CallOk PR 109 (fn2 kSx cLp.agg kBool (liF inF)) :=
 .inl ⟨entersB (by kernel_rfl), pure2 li_ctx fun s p => givesV (li_run inF s p)⟩
noncomputable def lchE (O : Su -> Lp -> Bool) : Env := envA eqsT [(162, lofG), (165, fn2 kCv cLp.agg kBool O)] [] [] [] [] [] true []
noncomputable def lchV (O : Su -> Lp -> Bool) : List AV -> AH -> Option (Bool × AV × AH) := viewP [] PR (lchE O) [26] 20 112
theorem lch_ctx : Ctx PR (lchE onF) [26] (fun _ => none) 20 112 :=
 ctxB (envA_ok eqsT_ok (TabPOk.cons lof_ok (TabPOk.cons lo_ok TabPOk.nil)) TabHOk.nil TabLOk.nil TabAOk.nil) mixed (by kernel_rfl)
theorem lch_ent : Enters PR 112 := entersB (by kernel_rfl)
theorem lch_ok : HeapOk PR 112 (lchV onF) := viewP_ok lch_ctx
noncomputable def ladE (O : Su -> Lp -> Bool) (S : Su -> Lp -> Lp -> Lp) : Env := envA eqsT [(113, fn3 kCv cLp.agg cLp.agg cLp.agg S)] [(112, lchV O)] [] [] [] [] true [112]
def kLE : Cod (Lp × Int) := kTup cLp.agg (kInt .i64) (fun x => by simp only [CC.agg, flatA, cLp.h1]) (fun _ => rfl)
def okL (O : Su -> Lp -> Bool) : Sx -> Lp -> Bool
 | .li, p => O .lit p
 | .mi, p => O .mid p
 | _, _ => true
def raw1 (b : Bool) : Bool := bif ((bif b then true else false) && true) then true else false
def raw2 (b c : Bool) : Bool := bif ((bif b then (bif c then true else false) else false) && true) then true else false
def ladC (O : Su -> Lp -> Bool) : Sx -> Lp -> Lp -> Bool
 | .li, p, q => raw2 (O .lit p) (O .lit q)
 | .mi, p, q => raw2 (O .mid p) (O .mid q)
 | _, _, _ => true
theorem ladC_of {O : Su -> Lp -> Bool} {s : Sx} {p q : Lp} (h : (okL O s p && okL O s q) = true) : ladC O s p q = true := by
 obtain ⟨h1, h2⟩ := Bool.and_eq_true_iff.1 h
 cases s <;> simp only [okL] at h1 h2 <;> simp [ladC, raw2, h1, h2]
def lonC (O : Su -> Lp -> Bool) : Sx -> Lp -> Bool
 | .li, p => raw1 (O .lit p)
 | .mi, p => raw1 (O .mid p)
 | _, _ => true
theorem lonC_of {O : Su -> Lp -> Bool} {s : Sx} {p : Lp} (h : okL O s p = true) : lonC O s p = true := by
 cases s <;> simp only [okL] at h <;> simp [lonC, raw1, h]
def ladF (S : Su -> Lp -> Lp -> Lp) : Sx -> Lp -> Lp -> Lp × Int
 | .li, p, q => (S .lit p q, 0)
 | .mi, p, q => (S .mid p q, 0)
 | _, _, _ => (zLx, 2)
theorem lad_run (O : Su -> Lp -> Bool) (S : Su -> Lp -> Lp -> Lp) (s : Sx) (p q : Lp) : valP [] (afunR PR (ladE O S) [] (fun _ => none) 10 70 [kSx.enc s, cLp.agg.enc p, cLp.agg.enc q]) =
 some (ladC O s p q, some (kLE.val (ladF S s p q))) := by cases s <;> kernel_rfl
theorem lad_ctx : Ctx PR (ladE onF lSum) [] (fun _ => none) 10 70 :=
 ctxB (envA_ok eqsT_ok (TabPOk.cons lsm_ok TabPOk.nil) (TabHOk.cons lch_ent lch_ok TabHOk.nil) TabLOk.nil TabAOk.nil) mixed (by kernel_rfl)
theorem lad_ok : CallOk PR 70 (fnQ3 kSx cLp.agg cLp.agg kLE (fun s p q => okL onF s p && okL onF s q) (ladF lSum)) :=
 .inl ⟨entersB (by kernel_rfl), pureQ3 lad_ctx fun s p q h => givesP (lad_run onF lSum s p q) (ladC_of h)⟩
noncomputable def lneE (O : Su -> Lp -> Bool) (M : Op2) : Env := envA eqsT [(135, fn3 kCv kU kU kU M)] [(112, lchV O)] [] [] [] [] true [112]
def lneF (M : Op2) : Sx -> Lp -> Lp × Int
 | .li, p => ((p.1, M .lit 0#64 p.2.1, p.2.2), 0)
 | .mi, p => ((p.1, M .mid 0#64 p.2.1, p.2.2), 0)
 | _, _ => (zLx, 2)
theorem lne_run (O : Su -> Lp -> Bool) (M : Op2) (s : Sx) (p : Lp) : valP [] (afunR PR (lneE O M) [] (fun _ => none) 10 84 [kSx.enc s, cLp.agg.enc p]) =
 some (lonC O s p, some (kLE.val (lneF M s p))) := by cases s <;> kernel_rfl
theorem lne_ctx : Ctx PR (lneE onF lSub) [] (fun _ => none) 10 84 :=
 ctxB (envA_ok eqsT_ok (TabPOk.cons ls_ok TabPOk.nil) (TabHOk.cons lch_ent lch_ok TabHOk.nil) TabLOk.nil TabAOk.nil) mixed (by kernel_rfl)
theorem lne_ok : CallOk PR 84 (fnQ2 kSx cLp.agg kLE (okL onF) (lneF lSub)) :=
 .inl ⟨entersB (by kernel_rfl), pureQ2 lne_ctx fun s p h => givesP (lne_run onF lSub s p) (lonC_of h)⟩
noncomputable def lmuE (O : Su -> Lp -> Bool) (T : Su -> Lp -> BitVec 64 -> Lp) : Env := envA eqsT [(186, fn3 kCv cLp.agg kU cLp.agg T)] [(112, lchV O)] [] [] [] [] true [112]
def lmuF (T : Su -> Lp -> BitVec 64 -> Lp) : Sx -> Lp -> BitVec 64 -> Lp × Int
 | .li, p, n => (T .lit p n, 0)
 | .mi, p, n => (T .mid p n, 0)
 | _, _, _ => (zLx, 2)
theorem lmu_run (O : Su -> Lp -> Bool) (T : Su -> Lp -> BitVec 64 -> Lp) (s : Sx) (p : Lp) (n : BitVec 64) : valP [] (afunR PR (lmuE O T) [] (fun _ => none) 10 137 [kSx.enc s, cLp.agg.enc p, kU.enc n]) =
 some (lonC O s p, some (kLE.val (lmuF T s p n))) := by cases s <;> kernel_rfl
theorem lmu_ctx : Ctx PR (lmuE onF lTimes) [] (fun _ => none) 10 137 :=
 ctxB (envA_ok eqsT_ok (TabPOk.cons tm_ok TabPOk.nil) (TabHOk.cons lch_ent lch_ok TabHOk.nil) TabLOk.nil TabAOk.nil) mixed (by kernel_rfl)
theorem lmu_ok : CallOk PR 137 (fnQ3 kSx cLp.agg kU kLE (fun s p _ => okL onF s p) (lmuF lTimes)) :=
 .inl ⟨entersB (by kernel_rfl), pureQ3 lmu_ctx fun s p n h => givesP (lmu_run onF lTimes s p n) (lonC_of h)⟩
def rWx : W6 := ⟨0xffffffff00000001#64, 0x53bda402fffe5bfe#64, 0x3339d80809a1d805#64, 0x73eda753299d7d48#64, 0#64, 0#64⟩
theorem mor_run : (afunR PR (envOf eqsT []) [] (fun _ => none) 10 120 []).strict = .leaf (c6.agg.enc rWx) := by kernel_rfl
theorem mor_ctx : Ctx PR (envOf eqsT []) [] (fun _ => none) 10 120 :=
 ctxB (envOf_ok eqsT_ok TabPOk.nil) mixed (by kernel_rfl)
theorem mor_ok : CallOk PR 120 (fn0 c6.agg rWx) :=
 .inl ⟨entersB (by kernel_rfl), pure0 mor_ctx (leafVal (B := c6.agg) mor_run)⟩
def kUE : Cod (BitVec 64 × Int) := kTup kU (kInt .i64) (fun _ => rfl) (fun _ => rfl)
def lorF : Sx -> BitVec 64 × Int
 | .li => (65521#64, 0)
 | .mi => (72057594037927889#64, 0)
 | _ => (0#64, 2)
noncomputable def lorE : Env := envOf eqsT [(162, lofG)]
theorem lor_run (s : Sx) : valS (afunR PR lorE [] (fun _ => none) 10 121 [kSx.enc s]) = some (kUE.val (lorF s)) := by cases s <;> kernel_rfl
theorem lor_ctx : Ctx PR lorE [] (fun _ => none) 10 121 :=
 ctxB (envOf_ok eqsT_ok (TabPOk.cons lof_ok TabPOk.nil)) mixed (by kernel_rfl)
theorem lor_ok : CallOk PR 121 (fn1 kSx kUE lorF) :=
 .inl ⟨entersB (by kernel_rfl), pure1 lor_ctx fun s => givesV (lor_run s)⟩
def ordE (R : W6) (L : Sx -> BitVec 64 × Int) (O : BitVec 64 -> W6) : Env := envOf eqsT [(120, fn0 c6.agg R), (121, fn1 kSx kUE L), (111, fn1 kU c6.agg O)]
def ordF (R : W6) (L : Sx -> BitVec 64 × Int) (O : BitVec 64 -> W6) : Sx -> W6
 | .gr => R
 | s => O (L s).1
theorem ord_run (R : W6) (L : Sx -> BitVec 64 × Int) (O : BitVec 64 -> W6) (s : Sx) : valS (afunR PR (ordE R L O) [] (fun _ => none) 10 75 [kSx.enc s]) = some (c6.agg.val (ordF R L O s)) := by cases s <;> kernel_rfl
theorem ord_ctx : Ctx PR (ordE rWx lorF ofW) [] (fun _ => none) 10 75 :=
 ctxB (envOf_ok eqsT_ok (TabPOk.cons mor_ok (TabPOk.cons lor_ok (TabPOk.cons of_ok TabPOk.nil)))) mixed (by kernel_rfl)
theorem ord_ok : CallOk PR 75 (fn1 kSx c6.agg (ordF rWx lorF ofW)) :=
 .inl ⟨entersB (by kernel_rfl), pure1 ord_ctx fun s => givesV (ord_run rWx lorF ofW s)⟩
def eqLz (l : Lp) : Bool := l.1 == 0#64 && (l.2.1 == 0#64 && (l.2.2 == false && true))
def eqW6 (w : W6) (b : Bool) : Bool := w.w0 == 0#64 && (w.w1 == 0#64 && (w.w2 == 0#64 && (w.w3 == 0#64 && (w.w4 == 0#64 && (w.w5 == 0#64 && b)))))
def eqPx (p : Px) : Bool := eqW6 p.1 (eqW6 p.2.1 (p.2.2 == false && true))
def kchE (I : Px -> Bool) (L : Sx -> Lp -> Bool) : Env := envOf eqsT [(108, fn1 cPx.agg kBool I), (109, fn2 kSx cLp.agg kBool L)]
def kchF (I : Px -> Bool) (L : Sx -> Lp -> Bool) : Kx -> Bool
 | (.gr, p, l) => bif eqLz l then I p else false
 | (.li, p, l) => bif eqPx p then L .li l else false
 | (.mi, p, l) => bif eqPx p then L .mi l else false
 | _ => false
theorem kch_run (I : Px -> Bool) (L : Sx -> Lp -> Bool) (k : Kx) : valS (afunR PR (kchE I L) [10, 22] (fun _ => none) 10 67 [cKx.agg.enc k]) = some (kBool.val (kchF I L k)) := by
 obtain ⟨s, p, l⟩ := k
 cases s <;> kernel_rfl
theorem kch_ctx {I : Px -> Bool} {L : Sx -> Lp -> Bool} (hI : CallOk PR 108 (fn1 cPx.agg kBool I)) (hL : CallOk PR 109 (fn2 kSx cLp.agg kBool L)) : Ctx PR (kchE I L) [10, 22] (fun _ => none) 10 67 :=
 ctxB (envOf_ok eqsT_ok (TabPOk.cons hI (TabPOk.cons hL TabPOk.nil))) mixed (by kernel_rfl)
theorem kch_ok {I : Px -> Bool} {L : Sx -> Lp -> Bool} (hI : CallOk PR 108 (fn1 cPx.agg kBool I)) (hL : CallOk PR 109 (fn2 kSx cLp.agg kBool L)) : CallOk PR 67 (fn1 cKx.agg kBool (kchF I L)) :=
 .inl ⟨entersB (by kernel_rfl), pure1 (kch_ctx hI hL) fun k => givesV (kch_run I L k)⟩
noncomputable def kysE (K : Kx -> Bool) (R : Sx -> W6) (C : W6 -> W6 -> Int) : Env := envA eqsT [(67, fn1 cKx.agg kBool K), (75, fn1 kSx c6.agg R), (36, fn2 c6.agg c6.agg (kInt .i64) C)] [] [] [] [] [] true []
noncomputable def kysV (K : Kx -> Bool) (R : Sx -> W6) (C : W6 -> W6 -> Int) : List AV -> AH -> Option (Bool × AV × AH) := viewS PR (kysE K R C) [14, 28, 37] 20 68
theorem kys_ent : Enters PR 68 := entersB (by kernel_rfl)
def ky1 (K : Kx -> Bool) (R : Sx -> W6) (C : W6 -> W6 -> Int) (n : W6) (a : Kx) : Int := bif K a then (bif a.1.int != a.1.int then 2 else (bif decide (C n (R a.1) >= 0) then 2 else 0)) else 5
def ky2 (K : Kx -> Bool) (R : Sx -> W6) (C : W6 -> W6 -> Int) (n : W6) (a b : Kx) : Int := bif K a then (bif K b then (bif a.1.int != b.1.int then 2 else (bif decide (C n (R a.1) >= 0) then 2 else 0)) else 5) else 5
theorem kys_ctx {K : Kx -> Bool} {R : Sx -> W6} {C : W6 -> W6 -> Int} (hK : CallOk PR 67 (fn1 cKx.agg kBool K)) (hR : CallOk PR 75 (fn1 kSx c6.agg R)) (hC : CallOk PR 36 (fn2 c6.agg c6.agg (kInt .i64) C)) :
 Ctx PR (kysE K R C) [14, 28, 37] (fun _ => none) 20 68 :=
 ctxB (envA_ok eqsT_ok (TabPOk.cons hK (TabPOk.cons hR (TabPOk.cons hC TabPOk.nil))) TabHOk.nil TabLOk.nil TabAOk.nil) mixed (by kernel_rfl)
theorem kys_ok {K : Kx -> Bool} {R : Sx -> W6} {C : W6 -> W6 -> Int} (hK : CallOk PR 67 (fn1 cKx.agg kBool K)) (hR : CallOk PR 75 (fn1 kSx c6.agg R)) (hC : CallOk PR 36 (fn2 c6.agg c6.agg (kInt .i64) C)) :
 HeapOk PR 68 (kysV K R C) := viewS_ok (kys_ctx hK hR hC)
def kPE : Cod (Px × Int) := kTup cPx.agg (kInt .i64) (fun x => by simp only [CC.agg, flatA, cPx.h1]) (fun _ => rfl)
def kKE : Cod (Kx × Int) := kTup cKx.agg (kInt .i64) (fun x => by simp only [CC.agg, flatA, cKx.h1]) (fun _ => rfl)
def zW6 : W6 := ⟨0#64, 0#64, 0#64, 0#64, 0#64, 0#64⟩
abbrev KK : Type := Kx -> Bool
noncomputable def kadE (K : KK) (R : Sx -> W6) (C : W6 -> W6 -> Int) (A : Px -> Px -> Px × Int) (Q : Sx -> Lp -> Lp -> Bool) (D : Sx -> Lp -> Lp -> Lp × Int) : Env :=
 envA eqsT [(69, fn2 cPx.agg cPx.agg kPE A), (70, fnQ3 kSx cLp.agg cLp.agg kLE Q D)] [(68, kysV K R C)] [] [] [] [] true [68]
def kadF (A : Px -> Px -> Px × Int) (D : Sx -> Lp -> Lp -> Lp × Int) : Kx -> Kx -> Kx
 | (.gr, p, _), (_, q, _) => (.gr, (A p q).1, zLx)
 | (s, _, l), (_, _, m) => (s, zPx, (D s l m).1)
def kadC (Q : Sx -> Lp -> Lp -> Bool) (E : Int) : Kx -> Kx -> Bool
 | (.gr, _, _), _ => bif E != 0 then false else true
 | (s, _, l), (_, _, m) => bif E != 0 then false else (bif (Q s l m && true) then true else false)
set_option maxRecDepth 100000 in
theorem kad_err (K : KK) (R : Sx -> W6) (C : W6 -> W6 -> Int) (A : Px -> Px -> Px × Int) (Q : Sx -> Lp -> Lp -> Bool) (D : Sx -> Lp -> Lp -> Lp × Int) (a b : Kx) :
 valP [true] (afunR PR (kadE K R C A Q D) [14] (fun _ => none) 20 32 [cKx.agg.enc a, cKx.agg.enc b]) =
  some (bif ky2 K R C zW6 a b != 0 then true else false, some (kKE.val (zKx, ky2 K R C zW6 a b))) := by
 obtain ⟨s, p, l⟩ := a
 obtain ⟨t, q, m⟩ := b
 cases s <;> cases t <;> kernel_rfl
set_option maxRecDepth 100000 in
theorem kad_run (K : KK) (R : Sx -> W6) (C : W6 -> W6 -> Int) (A : Px -> Px -> Px × Int) (Q : Sx -> Lp -> Lp -> Bool) (D : Sx -> Lp -> Lp -> Lp × Int) (a b : Kx) :
 valP [false] (afunR PR (kadE K R C A Q D) [14] (fun _ => none) 20 32 [cKx.agg.enc a, cKx.agg.enc b]) =
  some (kadC Q (ky2 K R C zW6 a b) a b, some (kKE.val (kadF A D a b, 0))) := by
 obtain ⟨s, p, l⟩ := a
 obtain ⟨t, q, m⟩ := b
 cases s <;> cases t <;> kernel_rfl
theorem kadC_of {Q : Sx -> Lp -> Lp -> Bool} {E : Int} {a b : Kx} (hE : (E != 0) = false) (hQ : a.1 ≠ .gr -> Q a.1 a.2.2 b.2.2 = true) : kadC Q E a b = true := by
 obtain ⟨s, p, l⟩ := a
 obtain ⟨t, q, m⟩ := b
 cases s with
 | gr => simp [kadC, hE]
 | li => have h := hQ (by simp); simp only at h; simp [kadC, hE, h]
 | mi => have h := hQ (by simp); simp only at h; simp [kadC, hE, h]
 | up n => have h := hQ (by simp); simp only at h; simp [kadC, hE, h]
 | neg n => have h := hQ (by simp); simp only at h; simp [kadC, hE, h]
def kadG (K : KK) (R : Sx -> W6) (C : W6 -> W6 -> Int) (A : Px -> Px -> Px × Int) (D : Sx -> Lp -> Lp -> Lp × Int) (a b : Kx) : Kx × Int :=
 bif ky2 K R C zW6 a b != 0 then (zKx, ky2 K R C zW6 a b) else (kadF A D a b, 0)
theorem kad_gives (K : KK) (R : Sx -> W6) (C : W6 -> W6 -> Int) (A : Px -> Px -> Px × Int) (Q : Sx -> Lp -> Lp -> Bool) (D : Sx -> Lp -> Lp -> Lp × Int) (hQ : ∀ a b : Kx, (ky2 K R C zW6 a b != 0) = false -> a.1 ≠ .gr -> Q a.1 a.2.2 b.2.2 = true) (a b : Kx) :
 Gives (afunR PR (kadE K R C A Q D) [14] (fun _ => none) 20 32 [cKx.agg.enc a, cKx.agg.enc b]) (kKE.val (kadG K R C A D a b)) := by
 unfold kadG
 cases hE : ky2 K R C zW6 a b != 0 with
 | true =>
  rw [cond_true]
  exact givesP (kad_err K R C A Q D a b) (by rw [hE]; rfl)
 | false =>
  rw [cond_false]
  exact givesP (kad_run K R C A Q D a b) (kadC_of hE (hQ a b hE))
theorem kad_ctx {K : KK} {R : Sx -> W6} {C : W6 -> W6 -> Int} {A : Px -> Px -> Px × Int} {Q : Sx -> Lp -> Lp -> Bool} {D : Sx -> Lp -> Lp -> Lp × Int} (hY : HeapOk PR 68 (kysV K R C))
 (hA : CallOk PR 69 (fn2 cPx.agg cPx.agg kPE A)) (hD : CallOk PR 70 (fnQ3 kSx cLp.agg cLp.agg kLE Q D)) : Ctx PR (kadE K R C A Q D) [14] (fun _ => none) 20 32 :=
 ctxB (envA_ok eqsT_ok (TabPOk.cons hA (TabPOk.cons hD TabPOk.nil)) (TabHOk.cons kys_ent hY TabHOk.nil) TabLOk.nil TabAOk.nil) mixed (by kernel_rfl)
theorem kad_ok {K : KK} {R : Sx -> W6} {C : W6 -> W6 -> Int} {A : Px -> Px -> Px × Int} {Q : Sx -> Lp -> Lp -> Bool} {D : Sx -> Lp -> Lp -> Lp × Int} (hY : HeapOk PR 68 (kysV K R C))
 (hA : CallOk PR 69 (fn2 cPx.agg cPx.agg kPE A)) (hD : CallOk PR 70 (fnQ3 kSx cLp.agg cLp.agg kLE Q D))
 (hQ : ∀ a b : Kx, (ky2 K R C zW6 a b != 0) = false -> a.1 ≠ .gr -> Q a.1 a.2.2 b.2.2 = true) : CallOk PR 32 (fn2 cKx.agg cKx.agg kKE (kadG K R C A D)) :=
 .inl ⟨entersB (by kernel_rfl), pure2 (kad_ctx hY hA hD) fun a b => kad_gives K R C A Q D hQ a b⟩
noncomputable def kmuE (K : KK) (R : Sx -> W6) (C : W6 -> W6 -> Int) (A : Px -> W6 -> Px × Int) (Q : Sx -> Lp -> BitVec 64 -> Bool) (D : Sx -> Lp -> BitVec 64 -> Lp × Int) : Env :=
 envA eqsT [(136, fn2 cPx.agg c6.agg kPE A), (137, fnQ3 kSx cLp.agg kU kLE Q D)] [(68, kysV K R C)] [] [] [] [] true [68]
def kmuF (A : Px -> W6 -> Px × Int) (D : Sx -> Lp -> BitVec 64 -> Lp × Int) : Kx -> W6 -> Kx
 | (.gr, p, _), n => (.gr, (A p n).1, zLx)
 | (s, _, l), n => (s, zPx, (D s l n.w0).1)
def kmuC (Q : Sx -> Lp -> BitVec 64 -> Bool) (E : Int) : Kx -> W6 -> Bool
 | (.gr, _, _), _ => bif E != 0 then false else true
 | (s, _, l), n => bif E != 0 then false else (bif (Q s l n.w0 && true) then true else false)
set_option maxRecDepth 100000 in
theorem kmu_err (K : KK) (R : Sx -> W6) (C : W6 -> W6 -> Int) (A : Px -> W6 -> Px × Int) (Q : Sx -> Lp -> BitVec 64 -> Bool) (D : Sx -> Lp -> BitVec 64 -> Lp × Int) (a : Kx) (n : W6) :
 valP [true] (afunR PR (kmuE K R C A Q D) [13] (fun _ => none) 20 85 [cKx.agg.enc a, c6.agg.enc n]) =
  some (bif ky1 K R C n a != 0 then true else false, some (kKE.val (zKx, ky1 K R C n a))) := by
 obtain ⟨s, p, l⟩ := a
 cases s <;> kernel_rfl
set_option maxRecDepth 100000 in
theorem kmu_run (K : KK) (R : Sx -> W6) (C : W6 -> W6 -> Int) (A : Px -> W6 -> Px × Int) (Q : Sx -> Lp -> BitVec 64 -> Bool) (D : Sx -> Lp -> BitVec 64 -> Lp × Int) (a : Kx) (n : W6) :
 valP [false] (afunR PR (kmuE K R C A Q D) [13] (fun _ => none) 20 85 [cKx.agg.enc a, c6.agg.enc n]) =
  some (kmuC Q (ky1 K R C n a) a n, some (kKE.val (kmuF A D a n, 0))) := by
 obtain ⟨s, p, l⟩ := a
 cases s <;> kernel_rfl
theorem kmuC_of {Q : Sx -> Lp -> BitVec 64 -> Bool} {E : Int} {a : Kx} {n : W6} (hE : (E != 0) = false) (hQ : a.1 ≠ .gr -> Q a.1 a.2.2 n.w0 = true) : kmuC Q E a n = true := by
 obtain ⟨s, p, l⟩ := a
 cases s with
 | gr => simp [kmuC, hE]
 | li => have h := hQ (by simp); simp only at h; simp [kmuC, hE, h]
 | mi => have h := hQ (by simp); simp only at h; simp [kmuC, hE, h]
 | up n => have h := hQ (by simp); simp only at h; simp [kmuC, hE, h]
 | neg n => have h := hQ (by simp); simp only at h; simp [kmuC, hE, h]
def kmuG (K : KK) (R : Sx -> W6) (C : W6 -> W6 -> Int) (A : Px -> W6 -> Px × Int) (D : Sx -> Lp -> BitVec 64 -> Lp × Int) (a : Kx) (n : W6) : Kx × Int :=
 bif ky1 K R C n a != 0 then (zKx, ky1 K R C n a) else (kmuF A D a n, 0)
theorem kmu_gives (K : KK) (R : Sx -> W6) (C : W6 -> W6 -> Int) (A : Px -> W6 -> Px × Int) (Q : Sx -> Lp -> BitVec 64 -> Bool) (D : Sx -> Lp -> BitVec 64 -> Lp × Int) (hQ : ∀ (a : Kx) (n : W6), (ky1 K R C n a != 0) = false -> a.1 ≠ .gr -> Q a.1 a.2.2 n.w0 = true) (a : Kx) (n : W6) :
 Gives (afunR PR (kmuE K R C A Q D) [13] (fun _ => none) 20 85 [cKx.agg.enc a, c6.agg.enc n]) (kKE.val (kmuG K R C A D a n)) := by
 unfold kmuG
 cases hE : ky1 K R C n a != 0 with
 | true =>
  rw [cond_true]
  exact givesP (kmu_err K R C A Q D a n) (by rw [hE]; rfl)
 | false =>
  rw [cond_false]
  exact givesP (kmu_run K R C A Q D a n) (kmuC_of hE (hQ a n hE))
theorem kmu_ctx {K : KK} {R : Sx -> W6} {C : W6 -> W6 -> Int} {A : Px -> W6 -> Px × Int} {Q : Sx -> Lp -> BitVec 64 -> Bool} {D : Sx -> Lp -> BitVec 64 -> Lp × Int} (hY : HeapOk PR 68 (kysV K R C))
 (hA : CallOk PR 136 (fn2 cPx.agg c6.agg kPE A)) (hD : CallOk PR 137 (fnQ3 kSx cLp.agg kU kLE Q D)) : Ctx PR (kmuE K R C A Q D) [13] (fun _ => none) 20 85 :=
 ctxB (envA_ok eqsT_ok (TabPOk.cons hA (TabPOk.cons hD TabPOk.nil)) (TabHOk.cons kys_ent hY TabHOk.nil) TabLOk.nil TabAOk.nil) mixed (by kernel_rfl)
theorem kmu_ok {K : KK} {R : Sx -> W6} {C : W6 -> W6 -> Int} {A : Px -> W6 -> Px × Int} {Q : Sx -> Lp -> BitVec 64 -> Bool} {D : Sx -> Lp -> BitVec 64 -> Lp × Int} (hY : HeapOk PR 68 (kysV K R C))
 (hA : CallOk PR 136 (fn2 cPx.agg c6.agg kPE A)) (hD : CallOk PR 137 (fnQ3 kSx cLp.agg kU kLE Q D))
 (hQ : ∀ (a : Kx) (n : W6), (ky1 K R C n a != 0) = false -> a.1 ≠ .gr -> Q a.1 a.2.2 n.w0 = true) : CallOk PR 85 (fn2 cKx.agg c6.agg kKE (kmuG K R C A D)) :=
 .inl ⟨entersB (by kernel_rfl), pure2 (kmu_ctx hY hA hD) fun a n => kmu_gives K R C A Q D hQ a n⟩
def kWE : Cod (W6 × Int) := kTup c6.agg (kInt .i64) (fun x => by simp only [CC.agg, flatA, c6.h1]) (fun _ => rfl)
def kBE : Cod (Bool × Int) := kTup kBool (kInt .i64) (fun _ => rfl) (fun _ => rfl)
abbrev ZZ : Type := Kz -> Kz -> Kz × Int
abbrev ZM : Type := Kz -> W6 -> Kz × Int
def ptmE (M : ZM) : Env := envA eqsT [(85, fn2 cKz.agg c6.agg kKzE M)] [] [] [] [] [] true []
theorem ptm_run (M : ZM) (a : Kz) (n : W6) : valS (afunR PR (ptmE M) [] (fun _ => none) 10 42 [cKz.agg.enc a, c6.agg.enc n]) = some (cKz.agg.val (M a n).1) := by kernel_rfl
theorem ptm_ctx {M : ZM} (h : CallOk PR 85 (fn2 cKz.agg c6.agg kKzE M)) : Ctx PR (ptmE M) [] (fun _ => none) 10 42 :=
 ctxB (envA_ok eqsT_ok (TabPOk.cons h TabPOk.nil) TabHOk.nil TabLOk.nil TabAOk.nil) mixed (by kernel_rfl)
theorem ptm_ok {M : ZM} (h : CallOk PR 85 (fn2 cKz.agg c6.agg kKzE M)) : CallOk PR 42 (fn2 cKz.agg c6.agg cKz.agg (fun a n => (M a n).1)) :=
 .inl ⟨entersB (by kernel_rfl), pure2 (ptm_ctx h) fun a n => givesV (ptm_run M a n)⟩
def eqWk (v w : W6) (b : Bool) : Bool := v.w0 == w.w0 && (v.w1 == w.w1 && (v.w2 == w.w2 && (v.w3 == w.w3 && (v.w4 == w.w4 && (v.w5 == w.w5 && b)))))
def eqKz (a b : Kz) : Bool := a.1 == b.1 && eqWk a.2.1.1 b.2.1.1 (eqWk a.2.1.2.1 b.2.1.2.1 (a.2.1.2.2 == b.2.1.2.2 && (a.2.2.1 == b.2.2.1 && (a.2.2.2.1 == b.2.2.2.1 && (a.2.2.2.2 == b.2.2.2.2 && true)))))
def pftE (T : Kz -> W6 -> Kz) (A : ZZ) : Env := envA eqsT [(42, fn2 cKz.agg c6.agg cKz.agg T), (32, fn2 cKz.agg cKz.agg kKzE A)] [] [] [] [] [] true []
noncomputable def pftG (T : Kz -> W6 -> Kz) (A : ZZ) : List AV -> Option (Bool × AV) := inlineS PR (pftE T A) [] 10 43
end Go.Rq.Sm

namespace Go.Rq.Cl
open Go Go.Proofs Go.Rq Go.Rq.Sm
def shr1 (a : W6) : W6 := ⟨a.w1 <<< 63 ||| a.w0 >>> 1, a.w2 <<< 63 ||| a.w1 >>> 1, a.w3 <<< 63 ||| a.w2 >>> 1, a.w4 <<< 63 ||| a.w3 >>> 1, a.w5 <<< 63 ||| a.w4 >>> 1, 0#64 ||| a.w5 >>> 1⟩
set_option maxRecDepth 100000 in
theorem shr1_run (a : W6) : (afunR PR (envOf eqsT []) [] (fun _ => none) 40 127 [c6.agg.enc a, (kInt .i64).enc (-1)]).strict = .leaf (c6.agg.enc (shr1 a)) := by kernel_rfl
theorem shr1_ok : CallOk PR 127 (fn2 c6.agg (kAt .i64 (-1)) c6.agg (fun a _ => shr1 a)) :=
 .inl ⟨entersB (by kernel_rfl), pure2 (C := kAt .i64 (-1)) shift_ctx (fun a _ => leafVal (B := c6.agg) (y := shr1 a) (shr1_run a))⟩
noncomputable def hfE (sh : W6 -> W6) (ad : W6 -> W6 -> W6 × Bool) : Env := envA eqsT [(127, fn2 c6.agg (kAt .i64 (-1)) c6.agg (fun a _ => sh a)), (125, fn2 c6.agg c6.agg kWB ad)] [] [] [] [] [] true []
theorem hf_run (sh : W6 -> W6) (ad : W6 -> W6 -> W6 × Bool) (m : Mo) (x : W6) : (afunP PR (hfE sh ad) [8] 10 128 175 m [c6.agg.enc x]).strict =
 .br (x.w0 &&& 1#64 == 1#64) (.leaf (c6.agg.enc (sh (ad x m.1).1))) (.leaf (c6.agg.enc (sh x))) := by kernel_rfl
def hfG (sh : W6 -> W6) (ad : W6 -> W6 -> W6 × Bool) (m : Mo) (x : W6) : W6 := bif x.w0 &&& 1#64 == 1#64 then sh (ad x m.1).1 else sh x
def hfW : Mo -> W6 -> W6 := hfG shr1 wAddW
theorem hf_gives (sh : W6 -> W6) (ad : W6 -> W6 -> W6 × Bool) (m : Mo) (x : W6) : GivesH (afun PR (hfE sh ad) [8] (fun _ => none) 10 128 (.ptr 0 0 :: [c6.agg.enc x]) (oneAH cFa 175 m) 1) (c6.agg.val (hfG sh ad m x)) :=
 givesP (hf_run sh ad m x) (holds_br (B := c6.agg) (holds_leaf (c6.agg.h1 _)) (holds_leaf (c6.agg.h1 _)))
theorem hfE_ok : EnvOk PR (hfE shr1 wAddW) := envA_ok eqsT_ok (TabPOk.cons shr1_ok (TabPOk.cons wadd_ok TabPOk.nil)) TabHOk.nil TabLOk.nil TabAOk.nil
theorem hf_ent : Enters PR 128 := entersB (by kernel_rfl)
theorem hf_ok : HeapOk PR 128 (rdp 175 cFa (mc1 c6.agg) c6.agg hfW) :=
 rdp_ok (E := hfE shr1 wAddW) (sym := [8]) (lf := 10) hfE_ok mixed (fn := Tryz.f128) (c := bodyOf PR 128) (by kernel_rfl) (by kernel_rfl) (by kernel_rfl) (fun m z => hf_gives shr1 wAddW m z)
def ccEmb {α β : Type} (C : CC α) (v : β -> α) (d : α -> Option β) (hd : ∀ a b, d a = some b -> v b = a) : CC β where
 n := C.n
 enc y := C.enc (v y)
 dec l := match C.dec l with
  | some x => d x
  | none => none
 val y := C.val (v y)
 len y := C.len (v y)
 h1 y := C.h1 (v y)
 h2 ρ cs vs x h r := by
  split at h
  . rename_i z hz
    rw [C.h2 ρ _ _ _ hz r, hd z x h]
  . cases h
def eqMd (a b : Mo) : Bool := bif eqW a.1 b.1 then (bif a.2.1 == b.2.1 then eqW a.2.2 b.2.2 else false) else false
theorem eqMd_ok (a b : Mo) (h : eqMd a b = true) : a = b := by
 obtain ⟨a1, a2, a3⟩ := a
 obtain ⟨b1, b2, b3⟩ := b
 unfold eqMd at h
 dsimp only at h
 cases h1 : eqW a1 b1 with
 | false => rw [h1] at h; cases h
 | true =>
  cases h2 : (a2 == b2) with
  | false => rw [h1, h2] at h; cases h
  | true =>
   rw [h1, h2] at h
   have h2 : a2 = b2 := by simpa using h2
   rw [(eqW_iff _ _).1 h1, h2, (eqW_iff _ _).1 h]
def mdOfMo (m : Mo) : Option Md := match mdOf m.1 with
 | some k => bif eqMd (modS k) m then some k else none
 | none => none
theorem mdOfMo_ok (m : Mo) (k : Md) (h : mdOfMo m = some k) : modS k = m := by
 unfold mdOfMo at h
 split at h
 . rename_i j _
   cases hb : eqMd (modS j) m with
   | true => rw [hb, cond_true] at h; cases h; exact eqMd_ok _ _ hb
   | false => rw [hb, cond_false] at h; cases h
 . cases h
def cMd : CC Md := ccEmb cFa modS mdOfMo mdOfMo_ok
structure IQ where
 sh : W6 -> W6
 hf : Mo -> W6 -> W6
 cm : W6 -> W6 -> Int
 sb : W6 -> W6 -> W6 × Bool
 ms : Mo -> W6 -> W6 -> W6
 rd : Mo -> W6 -> W6
def iqT (t : IQ) : PureTab := [(111, fn1 kU c6.agg ofW), (127, fn2 c6.agg (kAt .i64 (-1)) c6.agg (fun a _ => t.sh a)), (36, fn2 c6.agg c6.agg (kInt .i64) t.cm), (123, fn2 c6.agg c6.agg kWB t.sb)]
noncomputable def iqH (t : IQ) : HeapTab := [(122, rdp 175 cFa mc0 kBool (fun m _ => moNone m)), (128, rdp 175 cFa (mc1 c6.agg) c6.agg t.hf),
 (78, rdp 175 cFa (mc2 c6.agg c6.agg) c6.agg (fun m x => t.ms m x.1 x.2)), (124, rdp 175 cFa (mc1 c6.agg) c6.agg t.rd)]
noncomputable def iqE (t : IQ) : Env := envA eqsT (iqT t) (iqH t) [] [] [] [] true [122, 128, 78, 124]
def iqK : Keep := ⟨[0, 4, 5, 6, 7, 8, 9], [0, 2, 13, 14, 19, 20], 23⟩
def iqS : List Tmp := [24, 39, 35, 49, 45, 59, 55, 72]
@[irreducible] noncomputable def iqX (t : IQ) (k : Md) (a : W6) : XS := entryOf PR (iqE t) iqS (fun _ => none) 10 80 [.ptr 0 0, c6.agg.enc a] (oneAH cMd 175 k) 1 0 iqK
@[irreducible] noncomputable def iqI (t : IQ) (k : Md) (a : W6) (d : IS) : XS := ((((iqX t k a).setB 13 (c6.enc d.1)).setB 14 (c6.enc d.2.1)).setB 19 (c6.enc d.2.2.1)).setB 20 (c6.enc d.2.2.2)
@[irreducible] noncomputable def iqC : Code := roundOf PR 80 0
def ze0 (u : W6) : Bool := u.w0 == 0#64 && (u.w1 == 0#64 && (u.w2 == 0#64 && (u.w3 == 0#64 && (u.w4 == 0#64 && (u.w5 == 0#64 && true)))))
def ev0 (u : W6) : Bool := u.w0 &&& 1#64 == 0#64
def eq0 (v w : W6) : Bool := v.w0 == w.w0 && (v.w1 == w.w1 && (v.w2 == w.w2 && (v.w3 == w.w3 && (v.w4 == w.w4 && (v.w5 == w.w5 && true)))))
def ivOf (t : IQ) (k : Md) : IV := ⟨ze0, ev0, t.sh, t.hf (modS k), fun u v => decide (t.cm u v >= 0), fun u v => (t.sb u v).1, t.ms (modS k)⟩
def iqR (V : IV) (I : IS -> XS) (d : IS) : Tree (AExit × XS) :=
 .br (!V.ze d.1)
  (.br (V.ev d.1) (.leaf (.normal, I (V.sh d.1, d.2.1, V.hf d.2.2.1, d.2.2.2)))
   (.br (V.ev d.2.1) (.leaf (.normal, I (d.1, V.sh d.2.1, d.2.2.1, V.hf d.2.2.2)))
    (.br (V.ge d.1 d.2.1) (.leaf (.normal, I (V.sb d.1 d.2.1, d.2.1, V.ms d.2.2.1 d.2.2.2, d.2.2.2)))
     (.leaf (.normal, I (d.1, V.sb d.2.1 d.1, d.2.2.1, V.ms d.2.2.2 d.2.2.1))))))
  (.leaf (.exit 0, I d))
set_option maxRecDepth 1000000 in
theorem iq_round (t : IQ) (k : Md) (a : W6) (u v x y : W6) : (roundT PR (iqE t) iqS (fun _ => none) 10 iqK iqK iqK iqC (iqI t k a (u, v, x, y))).strict = iqR (ivOf t k) (iqI t k a) (u, v, x, y) := by cases k <;> kernel_rfl
def iqSt (t : IQ) (k : Md) (a : W6) : IS := (t.rd (modS k) a, mdB k, ofW (bitW true), zeroW)
set_option maxRecDepth 1000000 in
theorem iq_head (t : IQ) (k : Md) (a : W6) : iqX t k a = iqI t k a (iqSt t k a) := by cases k <;> kernel_rfl
theorem iq_blk : blkAll 0 (bodyOf PR 80) = [.loop iqC] := by kernel_rfl
@[irreducible] noncomputable def iqB (t : IQ) (k : Md) (a : W6) (r : IS) : BEnt := ⟨iqK.tm, iqK.ids, iqK.n, iqX t k a, .leaf (.normal, iqI t k a r)⟩
theorem iqB_n (t : IQ) (k : Md) (a : W6) (r : IS) : (iqB t k a r).n = 23 /\ (iqB t k a r).pre = iqX t k a /\ (iqB t k a r).post = .leaf (.normal, iqI t k a r) := by
 unfold iqB
 exact ⟨rfl, rfl, rfl⟩
set_option maxRecDepth 1000000 in
theorem iq_run (t : IQ) (k : Md) (a u v x y : W6) : ((afun PR (iqE t) iqS (tabOf [(0, iqB t k a (u, v, x, y))]) 10 80 [.ptr 0 0, c6.agg.enc a] (oneAH cMd 175 k) 1).bind fun q => .leaf q.1).strict =
 .same (iqX t k a) (iqX t k a) (.br (!eq0 v (ofW (bitW true))) (.leaf (kWE.enc (zW6, 6))) (.leaf (kWE.enc (y, 0)))) := by cases k <;> kernel_rfl
theorem iq_law {V : IV} {n a0 : Nat} (T : IvOk V n) (rt : XS -> Tree (AExit × XS)) (I : IS -> XS) (hr : ∀ d, (rt (I d)).strict = iqR V I d) {R : IS} {Q : AExit -> XS -> Prop} (hK : Q .normal (I R)) :
 ∀ d : IS, (IvI n a0 d /\ ∃ j, isz d <= j /\ ivR V j d = R) -> (rt (I d)).holds (fun r => match r.1 with
  | .normal => ∃ e : IS, (IvI n a0 e /\ ∃ j, isz e <= j /\ ivR V j e = R) /\ isz e < isz d /\ r.2 = I e
  | .exit q => if q = 0 then Q .normal r.2 else Q (.exit q) r.2
  | .ret => Q .ret r.2) := by
 rintro d ⟨h1, j, h2, h3⟩
 apply Tree.holds_strict
 rw [hr]
 cases hz : V.ze d.1 with
 | true =>
  have e : R = d := by
   rw [<- h3]
   cases j with
   | zero => rfl
   | succ j => simp only [ivR, hz, cond_true]
  unfold iqR
  rw [hz]
  refine ⟨fun h => (by cases h), fun _ => ?_⟩
  show (if (0 : Nat) = 0 then Q .normal (I d) else Q (.exit 0) (I d))
  rw [if_pos rfl, <- e]
  exact hK
 | false =>
  have hu : 0 < d.1.val := by
   have : ¬ d.1.val = 0 := fun e => by rw [(T.ze _).2 e] at hz; cases hz
   omega
  obtain ⟨g1, g2⟩ := ivS_ok T h1 hu
  have go : ∃ e : IS, (IvI n a0 e /\ ∃ j, isz e <= j /\ ivR V j e = R) /\ isz e < isz d /\ I (ivS V d) = I e := by
   refine ⟨ivS V d, ⟨g1, ?_⟩, g2, rfl⟩
   cases j with
   | zero =>
    unfold isz at h2
    omega
   | succ j =>
    refine ⟨j, by omega, ?_⟩
    simp only [ivR, hz, cond_false] at h3
    exact h3
  unfold iqR
  rw [hz]
  refine ⟨fun _ => ?_, fun h => (by cases h)⟩
  unfold ivS at go
  refine ⟨fun c1 => ?_, fun c1 => ⟨fun c2 => ?_, fun c2 => ⟨fun c3 => ?_, fun c3 => ?_⟩⟩⟩
  . rw [c1, cond_true] at go; exact go
  . rw [c1, cond_false, c2, cond_true] at go; exact go
  . rw [c1, cond_false, c2, cond_false, c3, cond_true] at go; exact go
  . rw [c1, cond_false, c2, cond_false, c3, cond_false] at go; exact go
end Go.Rq.Cl
