/- The curves' formulas go alike over fields that go alike; the two fields as numbers. -/
import Derived.Test.YtdbcjiggimppdaaRqZb
import Derived.Test.YtdbcjiggimppdaaRqV
namespace Go.Rq
open Go

/-- Two fields' operations that go alike. -/
structure FRel {A B : Type} (R : A → B → Prop) (o : FO A) (o' : FO B) (e : A → A → Bool) (e' : B → B → Bool) : Prop where
  add : ∀ {a b c d}, R a b → R c d → R (o.add a c) (o'.add b d)
  sub : ∀ {a b c d}, R a b → R c d → R (o.sub a c) (o'.sub b d)
  mul : ∀ {a b c d}, R a b → R c d → R (o.mul a c) (o'.mul b d)
  neg : ∀ {a b}, R a b → R (o.neg a) (o'.neg b)
  inv : ∀ {a b}, R a b → R (o.inv a) (o'.inv b)
  zero : R o.zero o'.zero
  eq : ∀ {a b c d}, R a b → R c d → e a c = e' b d

section
variable {A B : Type} {R : A → B → Prop} {o : FO A} {o' : FO B} {e : A → A → Bool} {e' : B → B → Bool}

structure RJ (R : A → B → Prop) (p : Jp A) (q : Jp B) : Prop where
  x : R p.x q.x
  y : R p.y q.y
  z : R p.z q.z

structure RA (R : A → B → Prop) (p : Ap A) (q : Ap B) : Prop where
  x : R p.x q.x
  y : R p.y q.y
  z : p.zero = q.zero

structure RFl (R : A → B → Prop) (f : Fl A) (g : Fl B) : Prop where
  one : R f.one g.one
  b : R f.b g.b

theorem raise_rel (h : FRel R o o' e e') {f : Fl A} {g : Fl B} (hf : RFl R f g) {p : Ap A} {q : Ap B} (hp : RA R p q) : RJ R (raiseJ o f p) (raiseJ o' g q) := by
  unfold raiseJ
  rw [hp.z]
  cases q.zero
  · exact ⟨hp.x, hp.y, hf.one⟩
  · exact ⟨hf.one, hf.one, h.zero⟩

theorem twice_rel (h : FRel R o o' e e') {p : Jp A} {q : Jp B} (hp : RJ R p q) : RJ R (twiceJ o p) (twiceJ o' q) := by
  have yy := h.mul hp.y hp.y
  have s1 := h.mul hp.x yy
  have s2 := h.add s1 s1
  have s := h.add s2 s2
  have m1 := h.mul hp.x hp.x
  have m := h.add (h.add m1 m1) m1
  have x := h.sub (h.mul m m) (h.add s s)
  have e0 := h.mul yy yy
  have e1 := h.add e0 e0
  have e2 := h.add e1 e1
  have e3 := h.add e2 e2
  have z := h.mul hp.y hp.z
  exact ⟨x, h.sub (h.mul m (h.sub s x)) e3, h.add z z⟩

theorem lowerJ_rel (h : FRel R o o' e e') {p : Jp A} {q : Jp B} (hp : RJ R p q) : RA R (lowerJ o p) (lowerJ o' q) := by
  have i := h.inv hp.z
  have s := h.mul i i
  exact ⟨h.mul hp.x s, h.mul hp.y (h.mul s i), rfl⟩

theorem lower_rel (h : FRel R o o' e e') {p : Jp A} {q : Jp B} (hp : RJ R p q) : RA R (lowerE o e p) (lowerE o' e' q) := by
  unfold lowerE
  rw [h.eq hp.z h.zero]
  cases e' q.z o'.zero
  · exact lowerJ_rel h hp
  · exact ⟨h.zero, h.zero, rfl⟩

theorem neg_rel (h : FRel R o o' e e') {p : Ap A} {q : Ap B} (hp : RA R p q) : RA R (negE o p) (negE o' q) := ⟨hp.x, h.sub h.zero hp.y, hp.z⟩

theorem on_rel (h : FRel R o o' e e') {f : Fl A} {g : Fl B} (hf : RFl R f g) {p : Ap A} {q : Ap B} (hp : RA R p q) : onE o e f p = onE o' e' g q := by
  unfold onE
  rw [hp.z, h.eq hp.x h.zero, h.eq hp.y h.zero, h.eq (h.mul hp.y hp.y) (h.add (h.mul (h.mul hp.x hp.x) hp.x) hf.b)]

theorem hJ_rel (h : FRel R o o' e e') {p q : Jp A} {p' q' : Jp B} (hp : RJ R p p') (hq : RJ R q q') : R (hJ o p q) (hJ o' p' q') :=
  h.sub (h.mul hq.x (h.mul hp.z hp.z)) (h.mul hp.x (h.mul hq.z hq.z))

theorem rJ_rel (h : FRel R o o' e e') {p q : Jp A} {p' q' : Jp B} (hp : RJ R p p') (hq : RJ R q q') : R (rJ o p q) (rJ o' p' q') :=
  h.sub (h.mul hq.y (h.mul (h.mul hp.z hp.z) hp.z)) (h.mul hp.y (h.mul (h.mul hq.z hq.z) hq.z))

theorem sumJ_rel (h : FRel R o o' e e') {p q : Jp A} {p' q' : Jp B} (hp : RJ R p p') (hq : RJ R q q') : RJ R (sumJ o p q) (sumJ o' p' q') := by
  have pp := h.mul hp.z hp.z
  have qq := h.mul hq.z hq.z
  have u := h.mul hp.x qq
  have v := h.mul hq.x pp
  have s := h.mul hp.y (h.mul qq hq.z)
  have t := h.mul hq.y (h.mul pp hp.z)
  have hh := h.sub v u
  have r := h.sub t s
  have h2 := h.mul hh hh
  have h3 := h.mul h2 hh
  have w := h.mul u h2
  have x := h.sub (h.sub (h.mul r r) h3) (h.add w w)
  exact ⟨x, h.sub (h.mul r (h.sub w x)) (h.mul s h3), h.mul hh (h.mul hp.z hq.z)⟩

theorem sum_rel (h : FRel R o o' e e') {f : Fl A} {g : Fl B} (hf : RFl R f g) {p q : Jp A} {p' q' : Jp B} (hp : RJ R p p') (hq : RJ R q q') : RJ R (sumE o e f p q) (sumE o' e' g p' q') := by
  unfold sumE
  rw [h.eq hp.z h.zero, h.eq hq.z h.zero, h.eq (hJ_rel h hp hq) h.zero, h.eq (rJ_rel h hp hq) h.zero]
  cases e' p'.z o'.zero
  · cases e' q'.z o'.zero
    · cases e' (hJ o' p' q') o'.zero
      · exact sumJ_rel h hp hq
      · cases e' (rJ o' p' q') o'.zero
        · exact ⟨hf.one, hf.one, h.zero⟩
        · exact twice_rel h hp
    · exact hp
  · exact hq
end

/-! The first field as numbers. -/

/-- A number is reckoned ahead. -/
def forceN {α : Type} (x : Nat) (f : Nat → α) : α := Nat.rec (f 0) (fun n _ => f (n + 1)) x

theorem forceN_eq {α : Type} (x : Nat) (f : Nat → α) : forceN x f = f x := by cases x <;> rfl

def powS (a : Nat) (e : W6) : Nat → Nat → Nat
  | 0, out => out
  | k + 1, out => forceN (bif e.bit k then mulN (mulN out out) a else mulN out out) fun r => powS a e k r

def addN (a b : Nat) : Nat := (a + b) % pN
def subN (a b : Nat) : Nat := (a + (pN - b)) % pN
def negN (a : Nat) : Nat := subN 0 a
def oneN : Nat := 3380320199399472671518931668520476396067793891014375699959770179129436917079669831430077592723774664465579537268733
def wideN : Nat := 2708263910654730174793787626328176511836455197166317677006154293982164122222515399004018013397331347120527951271750
def invN (a : Nat) : Nat := powS a expInv 384 oneN
def toN (a : Nat) : Nat := mulN wideN a
def backN (a : Nat) : Nat := mulN a 1
def fN : FO Nat := ⟨addN, subN, mulN, negN, invN, toN, backN, oneN, 0⟩

structure Rep (n : Nat) (w : W6) : Prop where
  val : w.val = n
  lt : n < pN

theorem pN_pos : 0 < pN := by decide +kernel
theorem pN_eq : pN = 4002409555221667393417789825735904156556882819939007885332058136124031650490837864442687629129015664037894272559787 := rfl

theorem rep_mul {a c : Nat} {b d : W6} (h : Rep a b) (k : Rep c d) : Rep (mulN a c) (mulW b d) := ⟨by rw [mulW_nat b d (by rw [h.val]; exact h.lt), h.val, k.val], mulN_lt _ _⟩

theorem rep_add {a c : Nat} {b d : W6} (h : Rep a b) (k : Rep c d) : Rep (addN a c) (addW b d) := by
  unfold addN
  refine ⟨?_, Nat.mod_lt _ pN_pos⟩
  have h1 := adds_nat b d
  rw [h.val, k.val] at h1
  have h2 := h.lt
  have h3 := k.lt
  have hl := (adds b d).1.val_lt
  have hb := b2n_le (adds b d).2
  show (lessW (adds b d).1).val = _
  generalize (adds b d).1 = s at h1 hl ⊢
  generalize b2n (adds b d).2 = cc at h1 hb
  have h4 := lessW_nat s (by rw [pN_eq] at h2 h3 ⊢; generalize s.val = v at *; omega)
  rw [h4]
  rw [pN_eq] at h2 h3 ⊢
  generalize s.val = v at *
  have hv : v = a + c := by omega
  subst hv
  split
  · rename_i hlt
    rw [Nat.mod_eq_of_lt hlt]
  · rename_i hge
    rw [Nat.mod_eq_sub_mod (by omega), Nat.mod_eq_of_lt (by omega)]

theorem rep_sub {a c : Nat} {b d : W6} (h : Rep a b) (k : Rep c d) : Rep (subN a c) (subW b d) := by
  unfold subN
  refine ⟨?_, Nat.mod_lt _ pN_pos⟩
  have h1 := subs_nat b d
  rw [h.val, k.val] at h1
  have h2 := h.lt
  have h3 := k.lt
  have hl := (subs b d).1.val_lt
  unfold subW
  cases hb : (subs b d).2 with
  | false =>
    rw [hb] at h1
    have z : b2n false = 0 := rfl
    rw [z, Nat.mul_zero, Nat.add_zero] at h1
    simp only [cond_false]
    generalize (subs b d).1.val = v at *
    rw [pN_eq] at h2 h3 ⊢
    rw [Nat.mod_eq_sub_mod (by omega), Nat.mod_eq_of_lt (by omega)]
    omega
  | true =>
    rw [hb] at h1
    have z : b2n true = 1 := rfl
    rw [z, Nat.mul_one] at h1
    simp only [cond_true]
    have h5 := adds_nat (subs b d).1 primeW
    rw [prime_val] at h5
    have hl2 := (adds (subs b d).1 primeW).1.val_lt
    have hb2 := b2n_le (adds (subs b d).1 primeW).2
    generalize (adds (subs b d).1 primeW).1.val = u at *
    generalize b2n (adds (subs b d).1 primeW).2 = cc at *
    generalize (subs b d).1.val = v at *
    rw [pN_eq] at h2 h3 h5 ⊢
    rw [Nat.mod_eq_of_lt (by omega)]
    omega

theorem W6.val_inj {a b : W6} (h : a.val = b.val) : a = b := by
  have f : ∀ x : BitVec 64, x.toNat < 18446744073709551616 := fun x => x.isLt
  obtain ⟨a0, a1, a2, a3, a4, a5⟩ := a
  obtain ⟨b0, b1, b2, b3, b4, b5⟩ := b
  simp only [W6.val] at h
  have g0 := f a0; have g1 := f a1; have g2 := f a2; have g3 := f a3; have g4 := f a4; have g5 := f a5
  have k0 := f b0; have k1 := f b1; have k2 := f b2; have k3 := f b3; have k4 := f b4; have k5 := f b5
  have e0 : a0 = b0 := BitVec.eq_of_toNat_eq (by omega)
  have e1 : a1 = b1 := BitVec.eq_of_toNat_eq (by omega)
  have e2 : a2 = b2 := BitVec.eq_of_toNat_eq (by omega)
  have e3 : a3 = b3 := BitVec.eq_of_toNat_eq (by omega)
  have e4 : a4 = b4 := BitVec.eq_of_toNat_eq (by omega)
  have e5 : a5 = b5 := BitVec.eq_of_toNat_eq (by omega)
  subst e0 e1 e2 e3 e4 e5
  rfl

theorem eqW_iff (a b : W6) : eqW a b = true ↔ a = b := by
  obtain ⟨a0, a1, a2, a3, a4, a5⟩ := a
  obtain ⟨b0, b1, b2, b3, b4, b5⟩ := b
  simp [eqW]

theorem rep_eq {a c : Nat} {b d : W6} (h : Rep a b) (k : Rep c d) : Nat.beq a c = eqW b d := by
  rw [Bool.eq_iff_iff, eqW_iff, Nat.beq_eq]
  constructor
  · intro e; exact W6.val_inj (by rw [h.val, k.val, e])
  · intro e; rw [← h.val, ← k.val, e]

theorem rep_pow {a : Nat} {b : W6} (h : Rep a b) (e : W6) : ∀ (k : Nat) {n : Nat} {w : W6}, Rep n w → Rep (powS a e k n) (powG mulW b e k w)
  | 0, n, w, hn => hn
  | k + 1, n, w, hn => by
    simp only [powS, powG, forceN_eq]
    apply rep_pow h e k
    cases e.bit k
    · rw [cond_false, cond_false]; exact rep_mul hn hn
    · rw [cond_true, cond_true]; exact rep_mul (rep_mul hn hn) h

theorem one_val : oneW.val = oneN := by decide +kernel
theorem zero_val : zeroW.val = 0 := by decide +kernel
theorem wide_val : wideW.val = wideN := by decide +kernel
theorem oneN_lt : oneN < pN := by decide +kernel
theorem wideN_lt : wideN < pN := by decide +kernel
theorem rep_one : Rep oneN oneW := ⟨one_val, oneN_lt⟩
theorem rep_zero : Rep 0 zeroW := ⟨zero_val, pN_pos⟩
theorem rep_inv {a : Nat} {b : W6} (h : Rep a b) : Rep (invN a) (invW b) := by
  unfold invN invW pow384
  exact rep_pow h expInv 384 rep_one

theorem rep_neg {a : Nat} {b : W6} (h : Rep a b) : Rep (negN a) (negW b) := by
  unfold negN negW
  exact rep_sub rep_zero h

/-- A told number, as an element. -/
theorem rep_to (a : W6) : Rep (toN a.val) (toW a) := by
  unfold toN toW
  exact ⟨by rw [mulW_nat wideW a (by rw [wide_val]; exact wideN_lt), wide_val], mulN_lt _ _⟩

/-- An element, as a told number. -/
theorem rep_back {a : Nat} {b : W6} (h : Rep a b) : (fromW b).val = backN a := by
  unfold backN fromW
  rw [mulW_nat b _ (by rw [h.val]; exact h.lt), h.val]
  have : (W6.mk 1#64 0#64 0#64 0#64 0#64 0#64).val = 1 := by decide +kernel
  rw [this]

theorem fN_add : fN.add = addN := by simp only [fN]
theorem fN_sub : fN.sub = subN := by simp only [fN]
theorem fN_mul : fN.mul = mulN := by simp only [fN]
theorem fN_neg : fN.neg = negN := by simp only [fN]
theorem fN_inv : fN.inv = invN := by simp only [fN]
theorem fW_add : fW.add = addW := by simp only [fW]
theorem fW_sub : fW.sub = subW := by simp only [fW]
theorem fW_mul : fW.mul = mulW := by simp only [fW]
theorem fW_neg : fW.neg = negW := by simp only [fW]
theorem fW_inv : fW.inv = invW := by simp only [fW]
theorem relW : FRel Rep fN fW Nat.beq eqW where
  add h k := by rw [fN_add, fW_add]; exact rep_add h k
  sub h k := by rw [fN_sub, fW_sub]; exact rep_sub h k
  mul h k := by rw [fN_mul, fW_mul]; exact rep_mul h k
  neg h := by rw [fN_neg, fW_neg]; exact rep_neg h
  inv h := by rw [fN_inv, fW_inv]; exact rep_inv h
  zero := rep_zero
  eq h k := rep_eq h k

end Go.Rq
