/- The great prime's field; what is reckoned with numbers, as its elements. -/
import Derived.Test.YtdbcjiggimppdaaRq08
import Derived.ProofKit
import Derived.Test.YtdbcjiggimppdaaRq06
namespace Go.Rq
open Go
open Lean.Grind (CommRing)

/-! Powers. -/
section
variable {K : Type} [CommRing K]

def pwK (x : K) : Nat → K
  | 0 => 1
  | n + 1 => pwK x n * x

theorem pwK_add (x : K) (m : Nat) : ∀ n, pwK x (m + n) = pwK x m * pwK x n
  | 0 => by simp only [pwK, Nat.add_zero]; grind
  | n + 1 => by
    rw [← Nat.add_assoc]
    simp only [pwK]
    rw [pwK_add x m n]
    grind
theorem pwK_two (x : K) (n : Nat) : pwK x (2 * n) = pwK x n * pwK x n := by rw [Nat.two_mul, pwK_add]

/-- The number that the lowest k bits tell. -/
def bitsV (b : Nat → Bool) : Nat → Nat
  | 0 => 0
  | k + 1 => bitsV b k + (bif b k then 2 ^ k else 0)

/-- A power, from bit k - 1 down. -/
def pwB (b : Nat → Bool) (x : K) : Nat → K → K
  | 0, n => n
  | k + 1, n => pwB b x k (bif b k then n * n * x else n * n)

theorem pwB_eq (b : Nat → Bool) (x : K) : ∀ (k m : Nat), pwB b x k (pwK x m) = pwK x (m * 2 ^ k + bitsV b k)
  | 0, m => by simp [pwB, bitsV]
  | k + 1, m => by
    simp only [pwB, bitsV]
    have e : m * 2 ^ (k + 1) = 2 * m * 2 ^ k := by rw [Nat.pow_succ, Nat.mul_comm 2 m, Nat.mul_assoc, Nat.mul_comm 2 (2 ^ k)]
    cases hb : b k
    · rw [cond_false, cond_false, ← pwK_two, pwB_eq, e]; congr 1
    · rw [cond_true, cond_true, ← pwK_two, show pwK x (2 * m) * x = pwK x (2 * m + 1) from rfl, pwB_eq, e, Nat.add_mul]
      congr 1
      omega
theorem pwB_one {b : Nat → Bool} {k n : Nat} (h : bitsV b k = n) (x : K) : pwB b x k 1 = pwK x n := by
  have e := pwB_eq b x k 0
  rw [h, Nat.zero_mul, Nat.zero_add] at e
  exact e
end

/-! Numbers below a prime. -/
section
variable {p : Nat} [NeZero p]

theorem pwF_val (x : Fin p) : ∀ n : Nat, (pwK x n).val = x.val ^ n % p
  | 0 => rfl
  | n + 1 => by
    show (pwK x n * x).val = _
    rw [show (pwK x n * x).val = (pwK x n).val * x.val % p from rfl, pwF_val x n, Nat.pow_succ, Nat.mod_mul_mod]

def ivF (x : Fin p) : Fin p := pwK x (p - 2)
def eqF (x y : Fin p) : Bool := Nat.beq x.val y.val

theorem eqF_iff {p : Nat} {x y : Fin p} : eqF x y = true ↔ x = y := by
  unfold eqF
  rw [Nat.beq_eq]
  exact ⟨fun h => Fin.ext h, fun h => by rw [h]⟩

theorem fdF (h : Pr p) (h3 : 3 ≤ p) : Fd (Fin p) ivF eqF where
  inv {x} hx := by
    have hx0 : x.val ≠ 0 := fun e => hx (Fin.ext e)
    have hd : ¬ p ∣ x.val := fun hd => by
      have := Nat.le_of_dvd (by omega) hd
      have := x.isLt
      omega
    have hf := fermat h hd
    apply Fin.ext
    show x.val * (pwK x (p - 2)).val % p = 1 % p
    rw [pwF_val, Nat.mul_mod_mod, Nat.mul_comm, ← Nat.pow_succ, show (p - 2).succ = p - 1 by omega, hf, Nat.mod_eq_of_lt (by omega)]
  one e := by
    have h1 : (1 : Fin p).val = (0 : Fin p).val := by rw [e]
    have h2 : 1 % p = 0 := h1
    rw [Nat.mod_eq_of_lt (by omega)] at h2
    cases h2
  two {y} e := by
    have h1 : (y.val + y.val) % p = 0 := by
      have : (y + y).val = (0 : Fin p).val := by rw [e]
      exact this
    have hy := y.isLt
    apply Fin.ext
    show y.val = 0
    obtain ⟨k, hk⟩ := Nat.dvd_of_mod_eq_zero h1
    have hk2 : k = 0 ∨ k = 1 ∨ 2 ≤ k := by omega
    rcases hk2 with rfl | rfl | hk2
    · omega
    · exfalso
      rcases h.2 2 ⟨y.val, by omega⟩ with h2 | h2 <;> omega
    · have := Nat.mul_le_mul_left p hk2
      omega
  eq := eqF_iff

/-- A number times another one, below p. -/
def phi (r n : Nat) : Fin p := Fin.ofNat p (n * r)
theorem phi_val (r n : Nat) : (phi r n : Fin p).val = n * r % p := rfl
theorem phi_mod (r n : Nat) : (phi r (n % p) : Fin p) = phi r n := Fin.ext (by rw [phi_val, phi_val, Nat.mod_mul_mod])
theorem phi_add (r n m : Nat) : (phi r (n + m) : Fin p) = phi r n + phi r m := Fin.ext (by
  show (n + m) * r % p = (n * r % p + m * r % p) % p
  rw [Nat.add_mul, Nat.add_mod])
theorem phi_mul (r n m : Nat) : (phi r (n * m * r % p) : Fin p) = phi r n * phi r m := Fin.ext (by
  show n * m * r % p * r % p = (n * r % p) * (m * r % p) % p
  rw [Nat.mod_mul_mod, ← Nat.mul_mod]
  congr 1
  simp only [Nat.mul_assoc, Nat.mul_left_comm])
theorem phi_zero (r : Nat) : (phi r 0 : Fin p) = 0 := Fin.ext (by rw [phi_val, Nat.zero_mul]; rfl)
theorem phi_p (r : Nat) : (phi r p : Fin p) = 0 := Fin.ext (by rw [phi_val, Nat.mul_mod_right]; rfl)
theorem phi_sub (r : Nat) {n m : Nat} (h : m ≤ p) : (phi r ((n + (p - m)) % p) : Fin p) = phi r n - phi r m := by
  rw [phi_mod, phi_add]
  have h1 : (phi r (p - m) : Fin p) + phi r m = 0 := by rw [← phi_add, Nat.sub_add_cancel h, phi_p]
  grind
theorem phi_inj {r R n m : Nat} (hr : R * r % p = 1) (hn : n < p) (hm : m < p) (h : (phi r n : Fin p) = phi r m) : n = m := by
  have h1 : n * r % p = m * r % p := congrArg Fin.val h
  have e : ∀ x, x * r % p * R % p = x % p := fun x => by
    rw [Nat.mod_mul_mod, Nat.mul_assoc, Nat.mul_comm r, Nat.mul_mod, hr, Nat.mul_one, Nat.mod_mod]
  have h2 := e n
  rw [h1, e m, Nat.mod_eq_of_lt hn, Nat.mod_eq_of_lt hm] at h2
  exact h2.symm

/-- A number that stands for an element: below p, and times r that one. -/
structure RK (r : Nat) (x : Fin p) (n : Nat) : Prop where
  lt : n < p
  eq : phi r n = x

theorem rk_eq {r R : Nat} (hr : R * r % p = 1) {x y : Fin p} {n m : Nat} (h : RK r x n) (k : RK r y m) : eqF x y = Nat.beq n m := by
  rw [Bool.eq_iff_iff, eqF_iff, Nat.beq_eq, ← h.eq, ← k.eq]
  exact ⟨fun e => phi_inj hr h.lt k.lt e, fun e => by rw [e]⟩
theorem rk_add {r : Nat} {x y : Fin p} {n m : Nat} (h : RK r x n) (k : RK r y m) : RK r (x + y) ((n + m) % p) := ⟨Nat.mod_lt _ (Nat.zero_lt_of_lt h.lt), by rw [phi_mod, phi_add, h.eq, k.eq]⟩
theorem rk_sub {r : Nat} {x y : Fin p} {n m : Nat} (h : RK r x n) (k : RK r y m) : RK r (x - y) ((n + (p - m)) % p) := ⟨Nat.mod_lt _ (Nat.zero_lt_of_lt h.lt), by rw [phi_sub r (Nat.le_of_lt k.lt), h.eq, k.eq]⟩
theorem rk_mul {r : Nat} {x y : Fin p} {n m : Nat} (h : RK r x n) (k : RK r y m) : RK r (x * y) (n * m * r % p) := ⟨Nat.mod_lt _ (Nat.zero_lt_of_lt h.lt), by rw [phi_mul, h.eq, k.eq]⟩
theorem rk_zero (r : Nat) (hp : 0 < p) : RK r (0 : Fin p) 0 := ⟨hp, phi_zero r⟩
theorem rk_neg {r : Nat} {x : Fin p} {n : Nat} (h : RK r x n) : RK r (-x) ((0 + (p - n)) % p) := by
  have := rk_sub (rk_zero r (Nat.zero_lt_of_lt h.lt)) h
  have e : (0 : Fin p) - x = -x := by grind
  rw [e] at this
  exact this

/-- A number that is an element. -/
structure RV (x : Fin p) (n : Nat) : Prop where
  eq : n = x.val
theorem RV.lt {p : Nat} {x : Fin p} {n : Nat} (h : RV x n) : n < p := h.eq ▸ x.isLt
theorem RV.of {p : Nat} {n : Nat} (h : n < p) : RV (⟨n, h⟩ : Fin p) n := ⟨rfl⟩
theorem rv_add {p : Nat} {x y : Fin p} {n m : Nat} (h : RV x n) (k : RV y m) : RV (x + y) ((n + m) % p) := ⟨by rw [h.eq, k.eq]; rfl⟩
theorem rv_mul {p : Nat} {x y : Fin p} {n m : Nat} (h : RV x n) (k : RV y m) : RV (x * y) (n * m % p) := ⟨by rw [h.eq, k.eq]; rfl⟩
theorem rv_neg {p : Nat} {x : Fin p} {n : Nat} (h : RV x n) : RV (-x) ((p - n) % p) := ⟨by rw [h.eq]; rfl⟩
theorem rv_sub {x y : Fin p} {n m : Nat} (h : RV x n) (k : RV y m) : RV (x - y) ((n + (p - m) % p) % p) := by
  have := rv_add h (rv_neg k)
  have e : x + -y = x - y := by grind
  rw [e] at this
  exact this
theorem rv_eq {p : Nat} {x y : Fin p} {n m : Nat} (h : RV x n) (k : RV y m) : eqF x y = Nat.beq n m := by rw [h.eq, k.eq]; rfl
/-- From the one to the other. -/
theorem rk_of_rv {r w : Nat} (hw : w * r * r % p = 1) {x : Fin p} {n : Nat} (h : RV x n) : RK r x (w * n * r % p) := by
  refine ⟨Nat.mod_lt _ (Nat.zero_lt_of_lt h.lt), ?_⟩
  rw [phi_mod]
  apply Fin.ext
  rw [phi_val, show w * n * r * r = n * (w * r * r) by simp only [Nat.mul_left_comm, Nat.mul_comm], Nat.mul_mod, hw, Nat.mul_one, Nat.mod_mod, Nat.mod_eq_of_lt h.lt, h.eq]
theorem rv_of_rk {r : Nat} {x : Fin p} {n : Nat} (h : RK r x n) : RV x (n * 1 * r % p) := ⟨by rw [← h.eq, phi_val, Nat.mul_one]⟩
end

/-! The great prime. -/
instance pN_ne : NeZero pN := ⟨Nat.ne_of_gt pN_pos⟩
/-- The field; its operations are those of a ring alone. -/
def F1 : Type := Fin pN
noncomputable instance ringF1 : CommRing F1 := (inferInstance : CommRing (Fin pN))
noncomputable def iv1 : F1 → F1 := ivF (p := pN)
def eq1 : F1 → F1 → Bool := eqF (p := pN)
theorem fd1 : Fd F1 iv1 eq1 := fdF (p := pN) pr_p (by decide +kernel)
theorem iv1_pow (x : F1) : iv1 x = pwK x (pN - 2) := rfl

def RK1 (x : F1) (n : Nat) : Prop := RK (p := pN) rinvN x n
theorem exp_bits : bitsV expInv.bit 384 = pN - 2 := by decide +kernel
theorem rk1_one : RK1 (1 : F1) oneN := ⟨oneN_lt, Fin.ext (by decide +kernel)⟩
theorem rk1_zero : RK1 (0 : F1) 0 := rk_zero (p := pN) rinvN pN_pos
theorem rk1_add {x y : F1} {n m : Nat} (h : RK1 x n) (k : RK1 y m) : RK1 (x + y) (addN n m) := rk_add (p := pN) h k
theorem rk1_sub {x y : F1} {n m : Nat} (h : RK1 x n) (k : RK1 y m) : RK1 (x - y) (subN n m) := rk_sub (p := pN) h k
theorem rk1_mul {x y : F1} {n m : Nat} (h : RK1 x n) (k : RK1 y m) : RK1 (x * y) (mulN n m) := rk_mul (p := pN) h k
theorem rk1_neg {x : F1} {n : Nat} (h : RK1 x n) : RK1 (-x) (negN n) := rk_neg (p := pN) h
theorem rk1_eq {x y : F1} {n m : Nat} (h : RK1 x n) (k : RK1 y m) : eq1 x y = Nat.beq n m := rk_eq (p := pN) rinv_ok h k

theorem rk1_pow {x : F1} {n : Nat} (h : RK1 x n) (e : W6) : ∀ (k : Nat) {y : F1} {m : Nat}, RK1 y m → RK1 (pwB e.bit x k y) (powS n e k m)
  | 0, y, m, hm => hm
  | k + 1, y, m, hm => by
    simp only [powS, pwB, forceN_eq]
    apply rk1_pow h e k
    cases e.bit k
    · rw [cond_false, cond_false]; exact rk1_mul hm hm
    · rw [cond_true, cond_true]; exact rk1_mul (rk1_mul hm hm) h

theorem rk1_inv {x : F1} {n : Nat} (h : RK1 x n) : RK1 (iv1 x) (invN n) := by
  have h1 := rk1_pow h expInv 384 rk1_one
  rw [pwB_one exp_bits, ← iv1_pow] at h1
  exact h1

theorem foK_add {K : Type} [CommRing K] {iv : K → K} (x y : K) : (foK iv).add x y = x + y := rfl
theorem foK_sub {K : Type} [CommRing K] {iv : K → K} (x y : K) : (foK iv).sub x y = x - y := rfl
theorem foK_mul {K : Type} [CommRing K] {iv : K → K} (x y : K) : (foK iv).mul x y = x * y := rfl
theorem foK_neg {K : Type} [CommRing K] {iv : K → K} (x : K) : (foK iv).neg x = -x := rfl
theorem foK_inv {K : Type} [CommRing K] {iv : K → K} (x : K) : (foK iv).inv x = iv x := rfl
theorem foK_zero {K : Type} [CommRing K] {iv : K → K} : (foK iv).zero = (0 : K) := rfl

theorem relF : FRel RK1 (foK iv1) fN eq1 Nat.beq where
  add h k := by rw [foK_add, fN_add]; exact rk1_add h k
  sub h k := by rw [foK_sub, fN_sub]; exact rk1_sub h k
  mul h k := by rw [foK_mul, fN_mul]; exact rk1_mul h k
  neg h := by rw [foK_neg, fN_neg]; exact rk1_neg h
  inv h := by rw [foK_inv, fN_inv]; exact rk1_inv h
  zero := by rw [foK_zero]; exact rk1_zero
  eq h k := rk1_eq h k

theorem FRel.comp {A B C : Type} {R : A → B → Prop} {S : B → C → Prop} {o : FO A} {o' : FO B} {o'' : FO C} {e : A → A → Bool} {e' : B → B → Bool} {e'' : C → C → Bool} (h : FRel R o o' e e') (k : FRel S o' o'' e' e'') :
    FRel (fun a c => ∃ b, R a b ∧ S b c) o o'' e e'' where
  add := fun ⟨_, p1, p2⟩ ⟨_, q1, q2⟩ => ⟨_, h.add p1 q1, k.add p2 q2⟩
  sub := fun ⟨_, p1, p2⟩ ⟨_, q1, q2⟩ => ⟨_, h.sub p1 q1, k.sub p2 q2⟩
  mul := fun ⟨_, p1, p2⟩ ⟨_, q1, q2⟩ => ⟨_, h.mul p1 q1, k.mul p2 q2⟩
  neg := fun ⟨_, p1, p2⟩ => ⟨_, h.neg p1, k.neg p2⟩
  inv := fun ⟨_, p1, p2⟩ => ⟨_, h.inv p1, k.inv p2⟩
  zero := ⟨_, h.zero, k.zero⟩
  eq := fun ⟨_, p1, p2⟩ ⟨_, q1, q2⟩ => by rw [h.eq p1 q1, k.eq p2 q2]

/-- An element as the program keeps it. -/
def RM (x : F1) (w : W6) : Prop := ∃ n, RK1 x n ∧ Rep n w
/-- An element as it is told. -/
def RP (x : F1) (w : W6) : Prop := RV (p := pN) x w.val

theorem relM : FRel RM (foK iv1) fW eq1 eqW := relF.comp relW
theorem rm_one : RM 1 oneW := ⟨oneN, rk1_one, rep_one⟩
theorem rm_zero : RM 0 zeroW := ⟨0, rk1_zero, rep_zero⟩
theorem rp_lt {x : F1} {w : W6} (h : RP x w) : w.val < pN := RV.lt h
theorem rp_of {w : W6} (h : w.val < pN) : ∃ x, RP x w := ⟨(⟨w.val, h⟩ : Fin pN), RV.of h⟩
theorem rp_inj {x : F1} {v w : W6} (h : RP x v) (k : RP x w) : v = w := W6.val_inj (h.eq.trans k.eq.symm)
theorem rp_eq {x y : F1} {v w : W6} (h : RP x v) (k : RP y w) : eq1 x y = eqW v w := by
  have e : eq1 x y = Nat.beq v.val w.val := rv_eq (p := pN) h k
  rw [e, Bool.eq_iff_iff, Nat.beq_eq, eqW_iff]
  exact ⟨fun e => W6.val_inj e, fun e => by rw [e]⟩
theorem wide_one : wideN * rinvN * rinvN % pN = 1 := by decide +kernel
theorem rm_to {x : F1} {w : W6} (h : RP x w) : RM x (toW w) := ⟨toN w.val, rk_of_rv (p := pN) wide_one h, rep_to w⟩
theorem rp_from {x : F1} {w : W6} (h : RM x w) : RP x (fromW w) := by
  obtain ⟨n, h1, h2⟩ := h
  have h3 : RV (p := pN) x (backN n) := rv_of_rk h1
  rw [← rep_back h2] at h3
  exact h3
theorem rp_zero : RP 0 zeroW := ⟨by rw [zero_val]; exact (Nat.zero_mod pN).symm⟩
theorem rp_val {x : F1} {w : W6} {n : Nat} (h : RV (p := pN) x n) (e : w.val = n) : RP x w := by
  unfold RP
  rw [e]
  exact h
theorem rp_of_mul {x y : F1} {a b w : W6} (h : RP x a) (k : RP y b) (e : w.val = a.val * b.val % pN) : RP (x * y) w := rp_val (rv_mul (p := pN) h k) e
theorem rp_of_add {x y : F1} {a b w : W6} (h : RP x a) (k : RP y b) (e : w.val = (a.val + b.val) % pN) : RP (x + y) w := rp_val (rv_add (p := pN) h k) e
theorem rp_of_sub {x y : F1} {a b w : W6} (h : RP x a) (k : RP y b) (e : w.val = (a.val + (pN - b.val) % pN) % pN) : RP (x - y) w := rp_val (rv_sub (p := pN) h k) e
theorem rp_of_neg {x : F1} {a w : W6} (h : RP x a) (e : w.val = (pN - a.val) % pN) : RP (-x) w := rp_val (rv_neg (p := pN) h) e
theorem rp_of_one {w : W6} (e : w.val = 1) : RP 1 w := rp_val (n := 1) ⟨by decide +kernel⟩ e
end Go.Rq

/- The second field: pairs of the first's elements. -/
namespace Go.Rq
open Go
open Lean.Grind (CommRing Semiring Ring)

theorem DN.ext2 {V : Type} {x y : DN V} (h : x.a = y.a) (k : x.b = y.b) : x = y := by
  obtain ⟨a, b⟩ := x
  obtain ⟨c, d⟩ := y
  simp at h k
  rw [h, k]

section
variable {K : Type} [CommRing K]

def mulD (x y : DN K) : DN K := ⟨x.a * y.a - x.b * y.b, x.a * y.b + x.b * y.a⟩
def natD (n : Nat) : DN K := ⟨Semiring.natCast.natCast n, 0⟩
def intD (i : Int) : DN K := ⟨Ring.intCast.intCast i, 0⟩
def powD (x : DN K) : Nat → DN K
  | 0 => natD 1
  | n + 1 => mulD (powD x n) x

theorem natD_succ (n : Nat) : (natD (n + 1) : DN K) = ⟨(natD n : DN K).a + 1, 0⟩ := by
  refine DN.ext2 ?_ rfl
  show (Semiring.natCast.natCast (n + 1) : K) = Semiring.natCast.natCast n + 1
  rw [Semiring.natCast_eq_ofNat, Semiring.natCast_eq_ofNat, Semiring.ofNat_succ]
theorem natD_one : (natD 1 : DN K).a = 1 := by
  show (Semiring.natCast.natCast 1 : K) = 1
  rw [Semiring.natCast_eq_ofNat]
theorem natD_zero : (natD 0 : DN K).a = 0 := by
  show (Semiring.natCast.natCast 0 : K) = 0
  rw [Semiring.natCast_eq_ofNat]

instance ringD : CommRing (DN K) where
  add x y := ⟨x.a + y.a, x.b + y.b⟩
  mul := mulD
  neg x := ⟨-x.a, -x.b⟩
  sub x y := ⟨x.a - y.a, x.b - y.b⟩
  natCast := ⟨natD⟩
  ofNat n := ⟨natD n⟩
  nsmul := ⟨fun n x => mulD (natD n) x⟩
  npow := ⟨powD⟩
  intCast := ⟨intD⟩
  zsmul := ⟨fun i x => mulD (intD i) x⟩
  add_zero x := DN.ext2 (by show x.a + (natD 0 : DN K).a = x.a; rw [natD_zero]; grind) (by show x.b + 0 = x.b; grind)
  add_comm x y := DN.ext2 (by show x.a + y.a = y.a + x.a; grind) (by show x.b + y.b = y.b + x.b; grind)
  add_assoc x y z := DN.ext2 (by show x.a + y.a + z.a = x.a + (y.a + z.a); grind) (by show x.b + y.b + z.b = x.b + (y.b + z.b); grind)
  mul_assoc x y z := DN.ext2 (by show (x.a * y.a - x.b * y.b) * z.a - (x.a * y.b + x.b * y.a) * z.b = x.a * (y.a * z.a - y.b * z.b) - x.b * (y.a * z.b + y.b * z.a); grind)
    (by show (x.a * y.a - x.b * y.b) * z.b + (x.a * y.b + x.b * y.a) * z.a = x.a * (y.a * z.b + y.b * z.a) + x.b * (y.a * z.a - y.b * z.b); grind)
  mul_one x := DN.ext2 (by show x.a * (natD 1 : DN K).a - x.b * 0 = x.a; rw [natD_one]; grind) (by show x.a * 0 + x.b * (natD 1 : DN K).a = x.b; rw [natD_one]; grind)
  left_distrib x y z := DN.ext2 (by show x.a * (y.a + z.a) - x.b * (y.b + z.b) = (x.a * y.a - x.b * y.b) + (x.a * z.a - x.b * z.b); grind)
    (by show x.a * (y.b + z.b) + x.b * (y.a + z.a) = (x.a * y.b + x.b * y.a) + (x.a * z.b + x.b * z.a); grind)
  zero_mul x := DN.ext2 (by show (natD 0 : DN K).a * x.a - 0 * x.b = (natD 0 : DN K).a; rw [natD_zero]; grind) (by show (natD 0 : DN K).a * x.b + 0 * x.a = 0; rw [natD_zero]; grind)
  one_mul x := DN.ext2 (by show (natD 1 : DN K).a * x.a - 0 * x.b = x.a; rw [natD_one]; grind) (by show (natD 1 : DN K).a * x.b + 0 * x.a = x.b; rw [natD_one]; grind)
  right_distrib x y z := DN.ext2 (by show (x.a + y.a) * z.a - (x.b + y.b) * z.b = (x.a * z.a - x.b * z.b) + (y.a * z.a - y.b * z.b); grind)
    (by show (x.a + y.a) * z.b + (x.b + y.b) * z.a = (x.a * z.b + x.b * z.a) + (y.a * z.b + y.b * z.a); grind)
  mul_zero x := DN.ext2 (by show x.a * (natD 0 : DN K).a - x.b * 0 = (natD 0 : DN K).a; rw [natD_zero]; grind) (by show x.a * 0 + x.b * (natD 0 : DN K).a = 0; rw [natD_zero]; grind)
  mul_comm x y := DN.ext2 (by show x.a * y.a - x.b * y.b = y.a * x.a - y.b * x.b; grind) (by show x.a * y.b + x.b * y.a = y.a * x.b + y.b * x.a; grind)
  pow_zero _ := rfl
  pow_succ _ _ := rfl
  ofNat_succ n := DN.ext2 (by
    show (natD (n + 1) : DN K).a = (natD n : DN K).a + (natD 1 : DN K).a
    rw [natD_succ, natD_one]) (by show (0 : K) = 0 + 0; grind)
  neg_add_cancel x := DN.ext2 (by show -x.a + x.a = (natD 0 : DN K).a; rw [natD_zero]; grind) (by show -x.b + x.b = 0; grind)
  sub_eq_add_neg x y := DN.ext2 (by show x.a - y.a = x.a + -y.a; grind) (by show x.b - y.b = x.b + -y.b; grind)
  neg_zsmul i x := DN.ext2 (by
    show (Ring.intCast.intCast (-i) : K) * x.a - 0 * x.b = -(Ring.intCast.intCast i * x.a - 0 * x.b)
    rw [show (Ring.intCast.intCast (-i) : K) = -Ring.intCast.intCast i from Ring.intCast_neg i]; grind) (by
    show (Ring.intCast.intCast (-i) : K) * x.b + 0 * x.a = -(Ring.intCast.intCast i * x.b + 0 * x.a)
    rw [show (Ring.intCast.intCast (-i) : K) = -Ring.intCast.intCast i from Ring.intCast_neg i]; grind)
  zsmul_natCast_eq_nsmul n x := by
    show mulD (intD (n : Int)) x = mulD (natD n) x
    congr 1
    refine DN.ext2 ?_ rfl
    show (Ring.intCast.intCast (n : Int) : K) = Semiring.natCast.natCast n
    exact Ring.intCast_natCast n
  intCast_ofNat n := DN.ext2 (by
    show (Ring.intCast.intCast (OfNat.ofNat n : Int) : K) = Semiring.natCast.natCast n
    rw [Semiring.natCast_eq_ofNat]
    exact Ring.intCast_ofNat n) rfl
  intCast_neg i := DN.ext2 (Ring.intCast_neg i) (by show (0 : K) = -0; grind)

theorem dn_add (x y : DN K) : x + y = ⟨x.a + y.a, x.b + y.b⟩ := rfl
theorem dn_sub (x y : DN K) : x - y = ⟨x.a - y.a, x.b - y.b⟩ := rfl
theorem dn_mul (x y : DN K) : x * y = ⟨x.a * y.a - x.b * y.b, x.a * y.b + x.b * y.a⟩ := rfl
theorem dn_neg (x : DN K) : -x = ⟨-x.a, -x.b⟩ := rfl
theorem dn_zero : (0 : DN K) = ⟨0, 0⟩ := DN.ext2 natD_zero rfl
theorem dn_one : (1 : DN K) = ⟨1, 0⟩ := DN.ext2 natD_one rfl

variable {iv : K → K} {e : K → K → Bool}

/-- The inverse, by the norm. -/
def ivD (iv : K → K) (x : DN K) : DN K := ⟨x.a * iv (x.a * x.a + x.b * x.b), -(x.b * iv (x.a * x.a + x.b * x.b))⟩

theorem fdD (F : Fd K iv e) (hn : ∀ a b : K, a * a + b * b = 0 → a = 0 ∧ b = 0) : Fd (DN K) (ivD iv) (beqA e) where
  inv {x} hx := by
    have h0 : x.a * x.a + x.b * x.b ≠ 0 := fun h => hx (by
      obtain ⟨h1, h2⟩ := hn _ _ h
      rw [dn_zero]
      exact DN.ext2 h1 h2)
    have hi := F.inv h0
    rw [dn_mul, dn_one]
    unfold ivD
    generalize iv (x.a * x.a + x.b * x.b) = i at hi
    refine DN.ext2 ?_ ?_
    · show x.a * (x.a * i) - x.b * -(x.b * i) = 1
      grind
    · show x.a * -(x.b * i) + x.b * (x.a * i) = 0
      grind
  one h := by
    rw [dn_zero, dn_one] at h
    exact F.one (congrArg DN.a h)
  two {y} h := by
    rw [dn_zero, dn_add] at h
    rw [dn_zero]
    exact DN.ext2 (F.two (congrArg DN.a h)) (F.two (congrArg DN.b h))
  eq {x y} := by
    unfold beqA
    cases h1 : e x.a y.a with
    | false =>
      rw [cond_false]
      constructor
      · intro h; cases h
      · intro h
        rw [h, F.refl] at h1
        cases h1
    | true =>
      have h1 := F.eq.1 h1
      rw [cond_true, F.eq]
      constructor
      · intro h; exact DN.ext2 h1 h
      · intro h; rw [h]

/-- The operations go as they went. -/
theorem relPair {R : K → W6 → Prop} {o : FO W6} (h : FRel R (foK iv) o e eqW) :
    (∀ {a c : DN K} {b d : D6}, RD R a b → RD R c d → RD R (a * c) (mul2 o b d)) ∧ (∀ {a : DN K} {b : D6}, RD R a b → RD R (ivD iv a) (inv2 o b)) := by
  refine ⟨fun {a c b d} p q => ?_, fun {a b} p => ?_⟩
  · have := rd_mul h p q
    rw [show mulA (foK iv) a c = a * c from DN.ext2 rfl (by
      show (a.a + a.b) * (c.a + c.b) - a.a * c.a - a.b * c.b = a.a * c.b + a.b * c.a
      grind)] at this
    exact this
  · have := rd_inv h p
    rw [show invA (foK iv) a = ivD iv a from DN.ext2 rfl (by
      show -a.b * iv (a.a * a.a + a.b * a.b) = -(a.b * iv (a.a * a.a + a.b * a.b))
      grind)] at this
    exact this

theorem relPairs {R : K → W6 → Prop} (h : FRel R (foK iv) fW e eqW) : FRel (RD R) (foK (K := DN K) (ivD iv)) fD (beqA e) eqD where
  add := fun p q => by rw [fD_add]; exact rd_add h p q
  sub := fun p q => by rw [fD_sub]; exact rd_sub h p q
  mul := fun p q => by rw [foK_mul, fD_mul]; exact (relPair h).1 p q
  neg := fun p => by rw [fD_neg]; exact rd_neg h p
  inv := fun p => by rw [foK_inv, fD_inv]; exact (relPair h).2 p
  zero := by rw [foK_zero, dn_zero]; exact ⟨h.zero, h.zero⟩
  eq := fun p q => rd_eq h p q

theorem pwK_sq (x : K) : ∀ n : Nat, pwK x (2 * n) = pwK (x * x) n
  | 0 => rfl
  | n + 1 => by
    show pwK x (2 * n + 1 + 1) = pwK (x * x) n * (x * x)
    simp only [pwK]
    rw [pwK_sq x n]
    grind

theorem pwK_neg : ∀ n : Nat, pwK (-1 : K) (2 * n + 1) = -1
  | 0 => by simp only [pwK]; grind
  | n + 1 => by
    show pwK (-1 : K) (2 * n + 1 + 1 + 1) = -1
    rw [pwK, pwK, pwK_neg n]
    grind

/-- Minus one is no square, if the number of elements is 3 above a multiple of four. -/
theorem norm_zero (F : Fd K iv e) {m : Nat} (hiv : ∀ x, iv x = pwK x (2 * (2 * m + 1) - 1)) (a b : K) (h : a * a + b * b = 0) : a = 0 ∧ b = 0 := by
  by_cases hb : b = 0
  · subst hb
    refine ⟨?_, rfl⟩
    rcases F.zero_or (show a * a = 0 by grind) with h | h <;> exact h
  · exfalso
    have hi := F.inv hb
    have ht : (a * iv b) * (a * iv b) = -1 := by grind
    generalize a * iv b = t at ht
    have ht0 : t ≠ 0 := by
      rintro rfl
      exact F.one (by grind)
    have h1 := F.inv ht0
    rw [hiv] at h1
    have h2 : pwK t (2 * (2 * m + 1)) = 1 := by
      have : pwK t (2 * (2 * m + 1) - 1 + 1) = 1 := by simp only [pwK]; grind
      rw [show 2 * (2 * m + 1) - 1 + 1 = 2 * (2 * m + 1) by omega] at this
      exact this
    rw [pwK_sq, ht, pwK_neg] at h2
    exact F.one (F.two (by grind))
end

theorem norm1 (a b : F1) (h : a * a + b * b = 0) : a = 0 ∧ b = 0 :=
  norm_zero fd1 (m := (pN - 3) / 4) (fun x => by rw [iv1_pow, show pN - 2 = 2 * (2 * ((pN - 3) / 4) + 1) - 1 by decide +kernel]) a b h
theorem fd2 : Fd (DN F1) (ivD iv1) (beqA eq1) := fdD fd1 norm1
end Go.Rq

/- A law whose arguments stay as they are: its row, from what the law's function comes to. -/
namespace Go.Rq
open Go Go.ChangeShapes Go.WideShapes Go.RowKit

section
variable {H : Type} {enc : TypeId × Value → H} {P : Program}

theorem trodCons {w : World} {base : Nat} {sp : Nat → Bool} {held : Bool} {t : TypeId} {ts : List TypeId} {v : Value} {vs : List Value} {d : DataW H} {ds : List (DataW H)} {p p' : List MemPlace}
    (h : DataW.Trod enc P w base sp held t v d p) (hs : DataW.TrodAll enc P w base sp held ts vs ds p') : DataW.TrodAll enc P w base sp held (t :: ts) (v :: vs) (d :: ds) (p ++ p') := ⟨p, p', h, hs, rfl⟩

theorem stays_all (hl : laidOutB P = true) {W W' : World} {sp : Nat → Bool} (hb : Below W.heap.size W W') :
    ∀ {ts : List TypeId} {vs : List Value} {ds : List (DataW H)} {ps : List MemPlace}, (∀ t ∈ ts, P.readableRec t = true ∧ t < P.types.size) →
    DataW.TrodAll enc P W 0 (fun _ => true) true ts vs ds ps → (∀ x ∈ ps, x.block < W.heap.size) → (∀ x ∈ ps, sp x.block = true) → DataW.TrodAll enc P W' 0 sp true ts vs ds ps
  | [], vs, ds, ps, _, h, _, _ => by
    obtain ⟨rfl, rfl, rfl⟩ := trodAll_nil h
    exact trodAll_mk0
  | t :: ts, vs, ds, ps, hr, h, hlt, hs => by
    obtain ⟨v, vs', d, ds', p, q, rfl, rfl, rfl, h1, h2⟩ := trodAll_cons h
    obtain ⟨r1, r2⟩ := hr t (by simp)
    exact trodCons (WideElems.Trod_stays hl r1 r2 h1 (fun x hx => hb.same (hlt x (by simp [hx]))) (fun x hx => hs x (by simp [hx])))
      (stays_all hl hb (fun u hu => hr u (by simp [hu])) h2 (fun x hx => hlt x (by simp [hx])) (fun x hx => hs x (by simp [hx])))

theorem trodAll_length {W : World} {base : Nat} {sp : Nat → Bool} {held : Bool} : ∀ {ts : List TypeId} {vs : List Value} {ds : List (DataW H)} {ps : List MemPlace},
    DataW.TrodAll enc P W base sp held ts vs ds ps → ds.length = ts.length
  | [], vs, ds, ps, h => by obtain ⟨_, rfl, _⟩ := trodAll_nil h; rfl
  | t :: ts, vs, ds, ps, h => by
    obtain ⟨v, vs', d, ds', p, q, rfl, rfl, rfl, _, h2⟩ := trodAll_cons h
    simp [trodAll_length h2]

/-- The given form of a law's specification: true, and the arguments as they were. -/
structure LawSpec (s : ChangeSpec) (k : Nat) : Prop where
  vars : s.vars = []
  fn : ∀ (H : Type) (ds : List (DataW H)), ds.length = k → s.fn H ds = { results := [.lit (.bool true)], args := ds }

theorem law_post {f : Func} {s : ChangeSpec} {k : Nat} (hs : LawSpec s k) (hk : f.params.size = k) {tb : TypeId} (hrt : f.resultTypes = #[tb]) (hb : P.underlying tb = some .bool)
    (hl : laidOutB P = true) (hr : ∀ t ∈ f.params.toList, P.readableRec t = true ∧ t < P.types.size) {apart fresh handsOn again : Bool}
    {W W' : World} {args : Array Value} {ds gs : List (DataW H)} {before : List MemPlace} (hW : DataW.Whole enc P f.params.toList s.vars apart W args.toList ds gs before)
    (hbl : Below W.heap.size W W') : s.post enc P f apart fresh handsOn again W args (.bool true) W' := by
  have hlt := hW.lt
  have hW' := hW
  obtain ⟨p, q, hA, hV, rfl, hfz, hnd⟩ := hW
  rw [hs.vars] at hV
  obtain ⟨rfl, rfl⟩ := trodVars_none hV
  have hlen : ds.length = k := by rw [trodAll_length hA, ← hk]; simp
  have hfn : s.fn H (ds ++ []) = { results := [.lit (.bool true)], args := ds } := by rw [List.append_nil]; exact hs.fn H ds hlen
  simp only [List.append_nil] at hlt hfz hnd
  have hres : ∀ (b : Nat) (sp : Nat → Bool) (hd : Bool), DataW.TrodAll enc P W' b sp hd f.resultTypes.toList ((Value.bool true).resultList f.resultTypes.size) (s.fn H (ds ++ [])).results [] := by
    intro b sp hd
    rw [hfn, hrt]
    exact trodAll_mk1 (shut_bool hb true)
  have hargs : ∀ sp : Nat → Bool, (∀ x ∈ p, sp x.block = true) → DataW.TrodAll enc P W' 0 sp true f.params.toList args.toList (s.fn H (ds ++ [])).args p := by
    intro sp hsp
    rw [hfn]
    exact stays_all hl hbl hr hA hlt hsp
  have hvars : ∀ sp : Nat → Bool, DataW.TrodVars enc P W' sp s.vars (s.fn H (ds ++ [])).vars [] := by
    intro sp
    rw [hfn, hs.vars]
    rfl
  refine ⟨ds, [], p ++ [], [], p, [], hW', hres _ _ _, hargs _ (fun x hx => by simpa using hlt x hx), hvars _, hbl.frame _, fun _ => ?_⟩
  refine ⟨?_, _, _, ([] ++ p) ++ [], ⟨[] ++ p, [], trodAll_append (hargs _ (fun _ _ => rfl)) (hres _ _ _), hvars _, rfl, ?_, ?_⟩, ?_⟩
  · intro j t r hj hv
    rw [hrt] at hj hv
    cases j with
    | zero =>
      simp [Value.resultList] at hj hv
      subst hj; subst hv
      exact okWide_bool_mk hb true
    | succ j => simp at hj
  · intro b off hp
    have hp' : MemPlace.cell b off ∈ p := by simpa using hp
    have : W'.frozen? ⟨b, off, none⟩ = W.frozen? ⟨b, off, none⟩ := hbl.frozen (hlt _ hp')
    rw [this]
    exact hfz b off (by simpa using hp)
  · intro ha
    simpa using hnd ha
  · intro x hx _
    simpa using hx

/-- The step to the row, for a law that reads its arguments alone. -/
theorem law_handed {C : Checked} {os : Os} {f : FuncId} {fn : Func} {s : ChangeSpec} {k : Nat} {conds : List PathCond} {apart fresh handsOn again : Bool} {a : Assume}
    (own : ownKnob C.prog.godebug = none) (started : os.Started) (noInit : C.prog.inits.idxOf? f = none) (hfn : C.prog.funcs[f]? = some fn)
    (witness : ∃ (w : World) (tape : Tape) (i : Input), w.os = os ∧ (w.forCall tape i).Shaped C.prog ∧ i.vars = [] ∧ Input.okWide C.prog (w.forCall tape i) .any w.heap.size f i ∧
      s.pre6 enc C.prog fn conds apart (w.forCall tape i).memory i.args ∧ a.holds C.prog (lone (Frame.enter C.prog f i.args .normal) [] (w.forCall tape i)))
    (hs : LawSpec s k) (hk : fn.params.size = k) {tb : TypeId} (hrt : fn.resultTypes = #[tb]) (hb : C.prog.underlying tb = some .bool)
    (hl : laidOutB C.prog = true) (hr : ∀ t ∈ fn.params.toList, C.prog.readableRec t = true ∧ t < C.prog.types.size)
    (hcall : ∀ (W : World) (base : Nat) (args : Array Value) (ds : List (DataW H)) (p : List MemPlace),
      (∀ (j : Nat) t v, fn.params[j]? = some t → args[j]? = some v → Value.okWide C.prog W .any base t v) →
      DataW.TrodAll enc C.prog W 0 (fun _ => true) true fn.params.toList args.toList ds p →
      Calls C.prog f args W fun e W' => e = .returned (.bool true) ∧ Below W.heap.size W W') :
    ReturnsInHanded a C os f .any (s.pre6 enc C.prog fn conds apart) (s.post enc C.prog fn apart fresh handsOn again) := by
  refine returnsInHanded_of_change own started noInit hfn witness ?_
  intro W base args ds gs before hval hW _ _
  have hW' := hW
  obtain ⟨p, q, hA, _⟩ := hW
  refine (hcall W base args ds p hval hA).mono fun e W' ⟨he, hbl⟩ => ?_
  exact ⟨_, he, law_post hs hk hrt hb hl hr hW' hbl⟩

/-- Likewise, where variables of the program are laid. -/
theorem law_handed_and {C : Checked} {os : Os} {f : FuncId} {fn : Func} {s : ChangeSpec} {k : Nat} {conds : List PathCond} {apart fresh handsOn again : Bool} {a : Assume} {X : World → Array Value → Prop}
    (hX : ∀ (w w' : World) (args : Array Value), w.heap = w'.heap → X w args → X w' args)
    (own : ownKnob C.prog.godebug = none) (started : os.Started) (noInit : C.prog.inits.idxOf? f = none) (hfn : C.prog.funcs[f]? = some fn)
    (witness : ∃ (w : World) (tape : Tape) (i : Input), w.os = os ∧ (w.forCall tape i).Shaped C.prog ∧ i.vars = [] ∧ Input.okWide C.prog (w.forCall tape i) .any w.heap.size f i ∧
      ((s.pre enc C.prog fn conds apart (w.forCall tape i).memory i.args ∧ X (w.forCall tape i).memory i.args) ∧ sizedMet enc C.prog fn (OpenSpec.ofChange s) apart (w.forCall tape i).memory i.args) ∧ a.holds C.prog (lone (Frame.enter C.prog f i.args .normal) [] (w.forCall tape i)))
    (hs : LawSpec s k) (hk : fn.params.size = k) {tb : TypeId} (hrt : fn.resultTypes = #[tb]) (hb : C.prog.underlying tb = some .bool)
    (hl : laidOutB C.prog = true) (hr : ∀ t ∈ fn.params.toList, C.prog.readableRec t = true ∧ t < C.prog.types.size)
    (hcall : ∀ (W : World) (base : Nat) (args : Array Value) (ds : List (DataW H)) (p : List MemPlace),
      (∀ (j : Nat) t v, fn.params[j]? = some t → args[j]? = some v → Value.okWide C.prog W .any base t v) →
      DataW.TrodAll enc C.prog W 0 (fun _ => true) true fn.params.toList args.toList ds p → X W args →
      Calls C.prog f args W fun e W' => e = .returned (.bool true) ∧ Below W.heap.size W W') :
    ReturnsInHanded a C os f .any (fun w args => (s.pre enc C.prog fn conds apart w args ∧ X w args) ∧ sizedMet enc C.prog fn (OpenSpec.ofChange s) apart w args) (s.post enc C.prog fn apart fresh handsOn again) := by
  refine returnsInHanded_of_change_and hX own started noInit hfn witness ?_
  intro W base args ds gs before hval hW _ _ hx _
  have hW' := hW
  obtain ⟨p, q, hA, _⟩ := hW
  refine (hcall W base args ds p hval hA hx).mono fun e W' ⟨he, hbl⟩ => ?_
  exact ⟨_, he, law_post hs hk hrt hb hl hr hW' hbl⟩

end

/-- What a function comes to that asks nothing of its arguments. -/
theorem call_pure {P : Program} {f : FuncId} {g : List AV → Option (Bool × AV)} (h : PureOk P f g) {as : List AV} {args : Array Value} {W : World} {b : Bool} {r : AV} (hg : g as = some (true, r)) (hr : scal r = some (.bool b)) (hx : ∀ ρ, Rvs ρ as args.toList) :
    Calls P f args W fun e W' => e = .returned (.bool b) ∧ Below W.heap.size W W' := by
  have := h Ren.empty as args.toList r hg (hx _) W
  have e : args.toList.toArray = args := by simp
  rw [e] at this
  refine this.mono ?_
  rintro e w' ⟨v, rfl, hv, hb⟩
  rw [hv.scal_eq hr]
  exact ⟨rfl, hb⟩

end Go.Rq

/- Arguments that are records of words and flags, opened. -/
namespace Go.Rq
open Go Go.WideShapes

section
variable {P : Program} {w : World} {r : Reach} {base : Nat} {t u : TypeId} {v : Value}

theorem cell_u64 (hu : P.underlying u = some (.int .u64)) (h : Cell.okWide P w r base u v) : ∃ x : BitVec 64, v = uval x := by
  simp only [Cell.okWide, hu] at h
  cases v with
  | int k n =>
    simp only [Cell.ok, hu] at h
    obtain ⟨rfl, h1, h2⟩ := h
    have h1 : (0 : Int) ≤ n := h1
    have h2 : n ≤ 18446744073709551615 := h2
    refine ⟨BitVec.ofNat 64 n.toNat, ?_⟩
    unfold uval
    congr 1
    rw [BitVec.toNat_ofNat, Nat.mod_eq_of_lt (by omega)]
    show n = ((n.toNat : Nat) : Int)
    omega
  | _ => simp [Cell.ok, hu] at h

theorem cell_bool (hu : P.underlying u = some .bool) (h : Cell.okWide P w r base u v) : ∃ b : Bool, v = .bool b := by
  simp only [Cell.okWide, hu] at h
  cases v with
  | bool b => exact ⟨b, rfl⟩
  | _ => simp [Cell.ok, hu] at h

theorem open_cells {ts : List TypeId} (ha : ∃ cs, v = .agg cs ∧ cs.size = P.cellsOf t ∧ Row.okWide P w r base t cs) (hc : P.cellTypes P.depth t = some ts) (hn : P.cellsOf t = ts.length) :
    ∃ l : List Value, v = .agg l.toArray ∧ l.length = ts.length ∧ ∀ (i : Nat) (u : TypeId) (x : Value), ts[i]? = some u → l[i]? = some x → Cell.okWide P w r base u x := by
  obtain ⟨cs, rfl, h1, ts', h2, -, h4⟩ := ha
  rw [hc] at h2
  simp at h2
  subst h2
  refine ⟨cs.toList, by simp, by simp [h1, hn], fun i u x hu hx => ?_⟩
  obtain ⟨u', h5, h6⟩ := h4 i x (by simpa using hx)
  have hi : i < ts.length := (List.getElem?_eq_some_iff.1 hu).1
  rw [Nat.mod_eq_of_lt hi, hu] at h5
  simp at h5
  rw [h5]
  exact h6

theorem okWide_agg {fs : Array Field} (ht : P.underlying t = some (.struct fs)) (h : Value.okWide P w r base t v) : ∃ cs, v = .agg cs ∧ cs.size = P.cellsOf t ∧ Row.okWide P w r base t cs := by
  simp only [Value.okWide, ht] at h
  exact h
theorem okWide_arr {e : TypeId} {n : Nat} (ht : P.underlying t = some (.array n e)) (h : Value.okWide P w r base t v) : ∃ cs, v = .agg cs ∧ cs.size = P.cellsOf t ∧ Row.okWide P w r base t cs := by
  simp only [Value.okWide, ht] at h
  exact h

/-- Six words. -/
theorem open_six (hu : P.underlying u = some (.int .u64)) {l : List Value} (hl : l.length = 6) (h : ∀ (i : Nat) (x : Value), i < 6 → l[i]? = some x → Cell.okWide P w r base u x) : ∃ x : W6, l = c6.val x := by
  match l, hl with
  | [a0, a1, a2, a3, a4, a5], _ =>
    obtain ⟨x0, rfl⟩ := cell_u64 hu (h 0 a0 (by decide) rfl)
    obtain ⟨x1, rfl⟩ := cell_u64 hu (h 1 a1 (by decide) rfl)
    obtain ⟨x2, rfl⟩ := cell_u64 hu (h 2 a2 (by decide) rfl)
    obtain ⟨x3, rfl⟩ := cell_u64 hu (h 3 a3 (by decide) rfl)
    obtain ⟨x4, rfl⟩ := cell_u64 hu (h 4 a4 (by decide) rfl)
    obtain ⟨x5, rfl⟩ := cell_u64 hu (h 5 a5 (by decide) rfl)
    exact ⟨⟨x0, x1, x2, x3, x4, x5⟩, rfl⟩

/-- A number of six words. -/
theorem open_num (hu : P.underlying u = some (.int .u64)) (ha : ∃ cs, v = .agg cs ∧ cs.size = P.cellsOf t ∧ Row.okWide P w r base t cs) (hc : P.cellTypes P.depth t = some [u, u, u, u, u, u]) (hn : P.cellsOf t = 6) : ∃ x : W6, v = c6.agg.val x := by
  obtain ⟨l, rfl, h1, h2⟩ := open_cells ha hc hn
  obtain ⟨x, rfl⟩ := open_six hu h1 (fun i x hi hx => h2 i u x (by
    match i, hi with
    | 0, _ => rfl
    | 1, _ => rfl
    | 2, _ => rfl
    | 3, _ => rfl
    | 4, _ => rfl
    | 5, _ => rfl) hx)
  exact ⟨x, rfl⟩

/-- Twice six words and a flag. -/
theorem open_p1 {b : TypeId} (hu : P.underlying u = some (.int .u64)) (hb : P.underlying b = some .bool) (ha : ∃ cs, v = .agg cs ∧ cs.size = P.cellsOf t ∧ Row.okWide P w r base t cs)
    (hc : P.cellTypes P.depth t = some [u, u, u, u, u, u, u, u, u, u, u, u, b]) (hn : P.cellsOf t = 13) : ∃ x : Ap W6, v = (cAp c6).agg.val x := by
  obtain ⟨l, rfl, h1, h2⟩ := open_cells ha hc hn
  match l, h1 with
  | [a0, a1, a2, a3, a4, a5, b0, b1, b2, b3, b4, b5, z], _ =>
    have g : ∀ (i : Nat) (x : Value), i < 12 → [a0, a1, a2, a3, a4, a5, b0, b1, b2, b3, b4, b5, z][i]? = some x → Cell.okWide P w r base u x := fun i x hi hx => h2 i u x (by
      match i, hi with
      | 0, _ => rfl
      | 1, _ => rfl
      | 2, _ => rfl
      | 3, _ => rfl
      | 4, _ => rfl
      | 5, _ => rfl
      | 6, _ => rfl
      | 7, _ => rfl
      | 8, _ => rfl
      | 9, _ => rfl
      | 10, _ => rfl
      | 11, _ => rfl) hx
    obtain ⟨x, hx⟩ := open_six (l := [a0, a1, a2, a3, a4, a5]) hu rfl (fun i x hi hx => g i x (by omega) (by
      match i, hi, hx with
      | 0, _, hx => exact hx
      | 1, _, hx => exact hx
      | 2, _, hx => exact hx
      | 3, _, hx => exact hx
      | 4, _, hx => exact hx
      | 5, _, hx => exact hx))
    obtain ⟨y, hy⟩ := open_six (l := [b0, b1, b2, b3, b4, b5]) hu rfl (fun i x hi hx => g (6 + i) x (by omega) (by
      match i, hi, hx with
      | 0, _, hx => exact hx
      | 1, _, hx => exact hx
      | 2, _, hx => exact hx
      | 3, _, hx => exact hx
      | 4, _, hx => exact hx
      | 5, _, hx => exact hx))
    obtain ⟨c, rfl⟩ := cell_bool hb (h2 12 b z rfl rfl)
    refine ⟨⟨x, y, c⟩, ?_⟩
    have e : [a0, a1, a2, a3, a4, a5, b0, b1, b2, b3, b4, b5, Value.bool c] = c6.val x ++ (c6.val y ++ [Value.bool c]) := by
      rw [← hx, ← hy]; rfl
    show Value.agg [a0, a1, a2, a3, a4, a5, b0, b1, b2, b3, b4, b5, Value.bool c].toArray = Value.agg (c6.val x ++ (c6.val y ++ [Value.bool c])).toArray
    rw [e]
/-- Four times six words and a flag. -/
theorem open_p2 {b : TypeId} (hu : P.underlying u = some (.int .u64)) (hb : P.underlying b = some .bool) (ha : ∃ cs, v = .agg cs ∧ cs.size = P.cellsOf t ∧ Row.okWide P w r base t cs)
    (hc : P.cellTypes P.depth t = some [u, u, u, u, u, u, u, u, u, u, u, u, u, u, u, u, u, u, u, u, u, u, u, u, b]) (hn : P.cellsOf t = 25) : ∃ x : Ap D6, v = (cAp c12).agg.val x := by
  obtain ⟨l, rfl, h1, h2⟩ := open_cells ha hc hn
  match l, h1 with
  | [a0, a1, a2, a3, a4, a5, b0, b1, b2, b3, b4, b5, c0, c1, c2, c3, c4, c5, d0, d1, d2, d3, d4, d5, z], _ =>
    have g : ∀ (i : Nat) (x : Value), i < 24 → [a0, a1, a2, a3, a4, a5, b0, b1, b2, b3, b4, b5, c0, c1, c2, c3, c4, c5, d0, d1, d2, d3, d4, d5, z][i]? = some x → Cell.okWide P w r base u x := fun i x hi hx => h2 i u x (by
      show (List.replicate 24 u ++ [b])[i]? = some u
      rw [List.getElem?_append_left (by simpa using hi), List.getElem?_replicate, if_pos hi]) hx
    obtain ⟨x0, hx0⟩ := open_six (l := [a0, a1, a2, a3, a4, a5]) hu rfl (fun i x hi hx => g (0 + i) x (by omega) (by
      match i, hi, hx with
      | 0, _, hx => exact hx
      | 1, _, hx => exact hx
      | 2, _, hx => exact hx
      | 3, _, hx => exact hx
      | 4, _, hx => exact hx
      | 5, _, hx => exact hx))
    obtain ⟨x1, hx1⟩ := open_six (l := [b0, b1, b2, b3, b4, b5]) hu rfl (fun i x hi hx => g (6 + i) x (by omega) (by
      match i, hi, hx with
      | 0, _, hx => exact hx
      | 1, _, hx => exact hx
      | 2, _, hx => exact hx
      | 3, _, hx => exact hx
      | 4, _, hx => exact hx
      | 5, _, hx => exact hx))
    obtain ⟨y0, hy0⟩ := open_six (l := [c0, c1, c2, c3, c4, c5]) hu rfl (fun i x hi hx => g (12 + i) x (by omega) (by
      match i, hi, hx with
      | 0, _, hx => exact hx
      | 1, _, hx => exact hx
      | 2, _, hx => exact hx
      | 3, _, hx => exact hx
      | 4, _, hx => exact hx
      | 5, _, hx => exact hx))
    obtain ⟨y1, hy1⟩ := open_six (l := [d0, d1, d2, d3, d4, d5]) hu rfl (fun i x hi hx => g (18 + i) x (by omega) (by
      match i, hi, hx with
      | 0, _, hx => exact hx
      | 1, _, hx => exact hx
      | 2, _, hx => exact hx
      | 3, _, hx => exact hx
      | 4, _, hx => exact hx
      | 5, _, hx => exact hx))
    obtain ⟨c, rfl⟩ := cell_bool hb (h2 24 b z rfl rfl)
    refine ⟨⟨⟨x0, x1⟩, ⟨y0, y1⟩, c⟩, ?_⟩
    have e : [a0, a1, a2, a3, a4, a5, b0, b1, b2, b3, b4, b5, c0, c1, c2, c3, c4, c5, d0, d1, d2, d3, d4, d5, Value.bool c] = (c6.val x0 ++ c6.val x1) ++ ((c6.val y0 ++ c6.val y1) ++ [Value.bool c]) := by
      rw [← hx0, ← hx1, ← hy0, ← hy1]; rfl
    show Value.agg [a0, a1, a2, a3, a4, a5, b0, b1, b2, b3, b4, b5, c0, c1, c2, c3, c4, c5, d0, d1, d2, d3, d4, d5, Value.bool c].toArray = Value.agg ((c6.val x0 ++ c6.val x1) ++ ((c6.val y0 ++ c6.val y1) ++ [Value.bool c])).toArray
    rw [e]
end
end Go.Rq
