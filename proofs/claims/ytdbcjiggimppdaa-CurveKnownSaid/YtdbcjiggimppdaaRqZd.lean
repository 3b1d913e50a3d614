/- The second field as numbers. -/
import Derived.Test.YtdbcjiggimppdaaRqZc
namespace Go.Rq
open Go

structure DN (A : Type) where
  a : A
  b : A

section
variable {A : Type} (o : FO A)
def addA (x y : DN A) : DN A := ⟨o.add x.a y.a, o.add x.b y.b⟩
def subA (x y : DN A) : DN A := ⟨o.sub x.a y.a, o.sub x.b y.b⟩
def negA (x : DN A) : DN A := ⟨o.neg x.a, o.neg x.b⟩
def mulA (x y : DN A) : DN A := ⟨o.sub (o.mul x.a y.a) (o.mul x.b y.b), o.sub (o.sub (o.mul (o.add x.a x.b) (o.add y.a y.b)) (o.mul x.a y.a)) (o.mul x.b y.b)⟩
def invA (x : DN A) : DN A := ⟨o.mul x.a (o.inv (o.add (o.mul x.a x.a) (o.mul x.b x.b))), o.mul (o.neg x.b) (o.inv (o.add (o.mul x.a x.a) (o.mul x.b x.b)))⟩
end

structure RD {A : Type} (R : A → W6 → Prop) (x : DN A) (w : D6) : Prop where
  a : R x.a w.a
  b : R x.b w.b

def beqA {A : Type} (e : A → A → Bool) (x y : DN A) : Bool := bif e x.a y.a then e x.b y.b else false

theorem eqD_iff (a b : D6) : eqD a b = true ↔ a = b := by
  obtain ⟨⟨a0, a1, a2, a3, a4, a5⟩, ⟨a6, a7, a8, a9, a10, a11⟩⟩ := a
  obtain ⟨⟨b0, b1, b2, b3, b4, b5⟩, ⟨b6, b7, b8, b9, b10, b11⟩⟩ := b
  simp [eqD, and_assoc]

theorem eqW_D (b d : D6) : eqD b d = bif eqW b.a d.a then eqW b.b d.b else false := by
  rw [Bool.eq_iff_iff, eqD_iff]
  cases h1 : eqW b.a d.a with
  | false =>
    rw [cond_false]
    constructor
    · intro h; rw [h, (eqW_iff _ _).2 rfl] at h1; cases h1
    · intro h; cases h
  | true =>
    have h1 := (eqW_iff _ _).1 h1
    rw [cond_true, eqW_iff]
    constructor
    · intro h; rw [h]
    · intro h2
      obtain ⟨ba, bb⟩ := b
      obtain ⟨da, db⟩ := d
      simp at h1 h2; rw [h1, h2]

section
variable {A : Type} {R : A → W6 → Prop} {o : FO A} {o' : FO W6} {e : A → A → Bool}

theorem rd_add (h : FRel R o o' e eqW) {a c : DN A} {b d : D6} (p : RD R a b) (q : RD R c d) : RD R (addA o a c) (add2 o' b d) := ⟨h.add p.a q.a, h.add p.b q.b⟩
theorem rd_sub (h : FRel R o o' e eqW) {a c : DN A} {b d : D6} (p : RD R a b) (q : RD R c d) : RD R (subA o a c) (sub2 o' b d) := ⟨h.sub p.a q.a, h.sub p.b q.b⟩
theorem rd_neg (h : FRel R o o' e eqW) {a : DN A} {b : D6} (p : RD R a b) : RD R (negA o a) (neg2 o' b) := ⟨h.neg p.a, h.neg p.b⟩
theorem rd_mul (h : FRel R o o' e eqW) {a c : DN A} {b d : D6} (p : RD R a b) (q : RD R c d) : RD R (mulA o a c) (mul2 o' b d) := by
  have x := h.mul p.a q.a
  have y := h.mul p.b q.b
  have both := h.mul (h.add p.a p.b) (h.add q.a q.b)
  exact ⟨h.sub x y, h.sub (h.sub both x) y⟩
theorem rd_inv (h : FRel R o o' e eqW) {a : DN A} {b : D6} (p : RD R a b) : RD R (invA o a) (inv2 o' b) := by
  have n := h.inv (h.add (h.mul p.a p.a) (h.mul p.b p.b))
  exact ⟨h.mul p.a n, h.mul (h.neg p.b) n⟩
theorem rd_eq (h : FRel R o o' e eqW) {a c : DN A} {b d : D6} (p : RD R a b) (q : RD R c d) : beqA e a c = eqD b d := by
  unfold beqA
  rw [eqW_D, h.eq p.a q.a, h.eq p.b q.b]
end

def fDN : FO (DN Nat) := ⟨addA fN, subA fN, mulA fN, negA fN, invA fN, fun x => ⟨toN x.a, toN x.b⟩, fun x => ⟨backN x.a, backN x.b⟩, ⟨oneN, 0⟩, ⟨0, 0⟩⟩
theorem rd_zero : RD Rep ⟨0, 0⟩ zero2 := ⟨rep_zero, rep_zero⟩
theorem rd_one : RD Rep ⟨oneN, 0⟩ one2 := ⟨rep_one, rep_zero⟩
theorem fDN_add : fDN.add = addA fN := by simp only [fDN]
theorem fDN_sub : fDN.sub = subA fN := by simp only [fDN]
theorem fDN_mul : fDN.mul = mulA fN := by simp only [fDN]
theorem fDN_neg : fDN.neg = negA fN := by simp only [fDN]
theorem fDN_inv : fDN.inv = invA fN := by simp only [fDN]
theorem fD_add : fD.add = add2 fW := by simp only [fD]
theorem fD_sub : fD.sub = sub2 fW := by simp only [fD]
theorem fD_mul : fD.mul = mul2 fW := by simp only [fD]
theorem fD_neg : fD.neg = neg2 fW := by simp only [fD]
theorem fD_inv : fD.inv = inv2 fW := by simp only [fD]
theorem relD : FRel (RD Rep) fDN fD (beqA Nat.beq) eqD where
  add p q := by rw [fDN_add, fD_add]; exact rd_add relW p q
  sub p q := by rw [fDN_sub, fD_sub]; exact rd_sub relW p q
  mul p q := by rw [fDN_mul, fD_mul]; exact rd_mul relW p q
  neg p := by rw [fDN_neg, fD_neg]; exact rd_neg relW p
  inv p := by rw [fDN_inv, fD_inv]; exact rd_inv relW p
  zero := rd_zero
  eq p q := rd_eq relW p q

end Go.Rq
