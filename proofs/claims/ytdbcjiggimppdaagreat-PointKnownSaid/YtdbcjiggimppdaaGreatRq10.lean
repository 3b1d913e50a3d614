/- A commutative ring of our own, and a normal form of what is reckoned in it: two expressions of one normal form are equal. -/
import Derived.Test.YtdbcjiggimppdaaGreatRq07
import Derived.Test.YtdbcjiggimppdaaGreatRq09
namespace Go.Rq

class Rg (K : Type) extends Add K, Mul K, Neg K, Sub K, Zero K, One K where
  add_assoc : ∀ x y z : K, x + y + z = x + (y + z)
  add_comm : ∀ x y : K, x + y = y + x
  add_zero : ∀ x : K, x + 0 = x
  neg_add : ∀ x : K, -x + x = 0
  mul_assoc : ∀ x y z : K, x * y * z = x * (y * z)
  mul_comm : ∀ x y : K, x * y = y * x
  mul_one : ∀ x : K, x * 1 = x
  mul_add : ∀ x y z : K, x * (y + z) = x * y + x * z
  sub_eq : ∀ x y : K, x - y = x + -y

section
variable {K : Type} [Rg K]

theorem rg_zero_add (x : K) : 0 + x = x := by rw [Rg.add_comm, Rg.add_zero]
theorem rg_add_neg (x : K) : x + -x = 0 := by rw [Rg.add_comm, Rg.neg_add]
theorem rg_cancel {x y z : K} (h : x + z = y + z) : x = y := by
  have e : x + z + -z = y + z + -z := by rw [h]
  rw [Rg.add_assoc, Rg.add_assoc, rg_add_neg, Rg.add_zero, Rg.add_zero] at e
  exact e
theorem rg_neg_of {x y : K} (h : x + y = 0) : x = -y := rg_cancel (z := y) (by rw [h, Rg.neg_add])
theorem rg_mul_zero (x : K) : x * 0 = 0 := by
  have e : x * 0 + x * 0 = 0 + x * 0 := by rw [← Rg.mul_add, Rg.add_zero, rg_zero_add]
  exact rg_cancel e
theorem rg_zero_mul (x : K) : 0 * x = 0 := by rw [Rg.mul_comm, rg_mul_zero]
theorem rg_one_mul (x : K) : 1 * x = x := by rw [Rg.mul_comm, Rg.mul_one]
theorem rg_add_mul (x y z : K) : (x + y) * z = x * z + y * z := by rw [Rg.mul_comm, Rg.mul_add, Rg.mul_comm z x, Rg.mul_comm z y]
theorem rg_neg_zero : -(0 : K) = 0 := by have e := Rg.neg_add (0 : K); rw [Rg.add_zero] at e; exact e
theorem rg_neg_neg (x : K) : - -x = x := (rg_neg_of (rg_add_neg x)).symm
theorem rg_neg_mul (x y : K) : -x * y = -(x * y) := rg_neg_of (by rw [← rg_add_mul, Rg.neg_add, rg_zero_mul])
theorem rg_mul_neg (x y : K) : x * -y = -(x * y) := by rw [Rg.mul_comm, rg_neg_mul, Rg.mul_comm]
theorem rg_four (a b c d : K) : a + b + (c + d) = a + c + (b + d) := by
  rw [Rg.add_assoc, Rg.add_assoc, ← Rg.add_assoc b, ← Rg.add_assoc c, Rg.add_comm b c]
theorem rg_neg_sum (x y : K) : -(x + y) = -x + -y := (rg_neg_of (by rw [rg_four, Rg.neg_add, Rg.neg_add, Rg.add_zero])).symm
theorem rg_sub_eq {x y : K} (h : x - y = 0) : x = y := by
  rw [Rg.sub_eq] at h
  rw [rg_neg_of h, rg_neg_neg]
theorem rg_sub_self {x y : K} (h : x = y) : x - y = 0 := by rw [h, Rg.sub_eq, rg_add_neg]

/-! Whole numbers. -/
def zn : Nat → K
  | 0 => 0
  | n + 1 => zn n + 1
theorem zn_add (m : Nat) : ∀ n : Nat, (zn (m + n) : K) = zn m + zn n
  | 0 => (Rg.add_zero _).symm
  | n + 1 => by
    show (zn (m + n) : K) + 1 = zn m + (zn n + 1)
    rw [zn_add m n, Rg.add_assoc]
theorem zn_mul (m : Nat) : ∀ n : Nat, (zn (m * n) : K) = zn m * zn n
  | 0 => (rg_mul_zero _).symm
  | n + 1 => by
    rw [Nat.mul_succ, zn_add, zn_mul m n]
    show _ = (zn m : K) * (zn n + 1)
    rw [Rg.mul_add, Rg.mul_one]
def zc (z : Int) : K := zn z.toNat + -zn (-z).toNat
theorem zc_of {z : Int} {m n : Nat} (h : z + n = m) : (zc z : K) = zn m + -zn n := by
  have e : z.toNat + n = m + (-z).toNat := by omega
  have e2 : (zn z.toNat : K) + zn n = zn m + zn (-z).toNat := by rw [← zn_add, e, zn_add]
  unfold zc
  apply rg_cancel (z := zn (-z).toNat + zn n)
  rw [Rg.add_assoc, ← Rg.add_assoc (-zn _), Rg.neg_add, rg_zero_add, e2, Rg.add_comm (zn (-z).toNat) (zn n), Rg.add_assoc, ← Rg.add_assoc (-zn _), Rg.neg_add, rg_zero_add]
theorem zc_split (z : Int) : z + ((-z).toNat : Nat) = (z.toNat : Nat) := by omega
theorem zc_add (a b : Int) : (zc (a + b) : K) = zc a + zc b := by
  have e : (a + b) + (((-a).toNat + (-b).toNat : Nat) : Int) = ((a.toNat + b.toNat : Nat) : Int) := by omega
  rw [zc_of e, zn_add, zn_add, rg_neg_sum, rg_four]
  rfl
theorem zc_neg (a : Int) : (zc (-a) : K) = -zc a := by
  unfold zc
  rw [rg_neg_sum, rg_neg_neg, Int.neg_neg, Rg.add_comm]
theorem zc_mul (a b : Int) : (zc (a * b) : K) = zc a * zc b := by
  have h1 := zc_split a
  have h2 := zc_split b
  have e : a * b + ((a.toNat * (-b).toNat + (-a).toNat * b.toNat : Nat) : Int) = ((a.toNat * b.toNat + (-a).toNat * (-b).toNat : Nat) : Int) := by
    rw [Int.natCast_add, Int.natCast_add, Int.natCast_mul, Int.natCast_mul, Int.natCast_mul, Int.natCast_mul, ← h1, ← h2]
    grind
  rw [zc_of e, zn_add, zn_add, zn_mul, zn_mul, zn_mul, zn_mul]
  unfold zc
  rw [Rg.mul_add, rg_add_mul, rg_add_mul, rg_neg_mul, rg_mul_neg, rg_neg_mul, rg_mul_neg, rg_neg_neg, rg_neg_sum]
  rw [Rg.add_comm (-(zn a.toNat * zn (-b).toNat)) (-(zn (-a).toNat * zn b.toNat)), rg_four, Rg.add_comm (zn (-a).toNat * zn (-b).toNat)]
theorem zc_zero : (zc 0 : K) = 0 := rg_add_neg _
theorem zc_one : (zc 1 : K) = 1 := by
  show (0 : K) + 1 + -0 = 1
  rw [rg_zero_add, rg_neg_zero, Rg.add_zero]

/-! What is reckoned, by the first of the list's elements: p + x * q, where p does without x. -/
end
inductive Pl
  | c (z : Int)
  | h (p q : Pl)

/-- p + x * q, shorter where q is nought. -/
def Pl.mk : Pl → Pl → Pl
  | .c z, .c w => bif w == 0 then .c z else .h (.c z) (.c w)
  | .h p q, r => .h (.h p q) r
  | .c z, .h p q => .h (.c z) (.h p q)
def Pl.addC (a : Int) : Pl → Pl
  | .c b => .c (a + b)
  | .h p q => .h (p.addC a) q
def Pl.add : Pl → Pl → Pl
  | .c a, r => r.addC a
  | .h p q, .c b => .h (p.addC b) q
  | .h p q, .h p' q' => .mk (p.add p') (q.add q')
def Pl.scale (a : Int) : Pl → Pl
  | .c b => .c (a * b)
  | .h p q => .h (p.scale a) (q.scale a)
def Pl.low (f : Pl → Pl) : Pl → Pl
  | .c b => .mk (f (.c b)) (.c 0)
  | .h p q => .mk (f p) (q.low f)
def Pl.mul : Pl → Pl → Pl
  | .c a, r => bif a == 0 then .c 0 else r.scale a
  | .h p q, r => (r.low p.mul).add (.mk (.c 0) (q.mul r))
def Pl.neg (p : Pl) : Pl := p.scale (-1)
def Pl.isZ : Pl → Bool
  | .c z => z == 0
  | .h p q => p.isZ && q.isZ

section
variable {K : Type} [Rg K]
def ev : Pl → List K → K
  | .c z, _ => zc z
  | .h p _, [] => ev p []
  | .h p q, x :: r => ev p r + x * ev q (x :: r)

theorem ev_c (z : Int) (r : List K) : ev (.c z) r = zc z := by cases r <;> rfl
theorem ev_mk : ∀ (p q : Pl) (r : List K), ev (p.mk q) r = ev (.h p q) r
  | .c z, .c w, r => by
    rw [Pl.mk]
    cases hw : w == 0 with
    | false => rfl
    | true =>
      have e : w = 0 := by simpa using hw
      subst e
      rw [cond_true]
      cases r with
      | nil => rfl
      | cons x r =>
        show zc z = ev (.c z) r + x * zc 0
        rw [ev_c, zc_zero, rg_mul_zero, Rg.add_zero]
  | .h _ _, _, _ => rfl
  | .c _, .h _ _, _ => rfl
theorem ev_addC (a : Int) : ∀ (p : Pl) (r : List K), ev (p.addC a) r = zc a + ev p r
  | .c b, r => by rw [Pl.addC, ev_c, ev_c, zc_add]
  | .h p q, [] => ev_addC a p []
  | .h p q, x :: r => by
    show ev (p.addC a) r + x * ev q (x :: r) = zc a + (ev p r + x * ev q (x :: r))
    rw [ev_addC a p r, Rg.add_assoc]
theorem ev_add : ∀ (p q : Pl) (r : List K), ev (p.add q) r = ev p r + ev q r
  | .c a, q, r => by rw [Pl.add, ev_addC, ev_c]
  | .h p q, .c b, [] => by
    show ev (p.addC b) [] = ev p [] + zc b
    rw [ev_addC, Rg.add_comm]
  | .h p q, .c b, x :: r => by
    show ev (p.addC b) r + x * ev q (x :: r) = ev p r + x * ev q (x :: r) + zc b
    rw [ev_addC, Rg.add_comm (zc b), Rg.add_assoc, Rg.add_assoc, Rg.add_comm (zc b)]
  | .h p q, .h p' q', [] => (ev_mk _ _ _).trans (ev_add p p' [])
  | .h p q, .h p' q', x :: r => by
    refine (ev_mk _ _ _).trans ?_
    show ev (p.add p') r + x * ev (q.add q') (x :: r) = ev p r + x * ev q (x :: r) + (ev p' r + x * ev q' (x :: r))
    rw [ev_add p p' r, ev_add q q' (x :: r), Rg.mul_add, rg_four]
theorem ev_scale (a : Int) : ∀ (p : Pl) (r : List K), ev (p.scale a) r = zc a * ev p r
  | .c b, r => by rw [Pl.scale, ev_c, ev_c, zc_mul]
  | .h p q, [] => ev_scale a p []
  | .h p q, x :: r => by
    show ev (p.scale a) r + x * ev (q.scale a) (x :: r) = zc a * (ev p r + x * ev q (x :: r))
    rw [ev_scale a p r, ev_scale a q (x :: r), Rg.mul_add, ← Rg.mul_assoc, ← Rg.mul_assoc, Rg.mul_comm x]
theorem ev_low0 {f : Pl → Pl} {P : K} (hf : ∀ s, ev (f s) ([] : List K) = P * ev s []) : ∀ s : Pl, ev (s.low f) ([] : List K) = P * ev s []
  | .c b => (ev_mk _ _ _).trans (hf (.c b))
  | .h p _ => (ev_mk _ _ _).trans (hf p)
theorem ev_low {f : Pl → Pl} {P : K} {r : List K} (hf : ∀ s, ev (f s) r = P * ev s r) (x : K) : ∀ s : Pl, ev (s.low f) (x :: r) = P * ev s (x :: r)
  | .c b => by
    refine (ev_mk _ _ _).trans ?_
    show ev (f (.c b)) r + x * zc 0 = P * zc b
    rw [hf, ev_c, zc_zero, rg_mul_zero, Rg.add_zero]
  | .h p q => by
    refine (ev_mk _ _ _).trans ?_
    show ev (f p) r + x * ev (q.low f) (x :: r) = P * (ev p r + x * ev q (x :: r))
    rw [hf, ev_low hf x q, Rg.mul_add, ← Rg.mul_assoc, ← Rg.mul_assoc, Rg.mul_comm x]
theorem ev_mul : ∀ (p s : Pl) (r : List K), ev (p.mul s) r = ev p r * ev s r
  | .c a, s, r => by
    rw [Pl.mul]
    cases ha : a == 0 with
    | false => rw [cond_false, ev_scale, ev_c]
    | true =>
      have e : a = 0 := by simpa using ha
      rw [cond_true, e, ev_c, zc_zero, rg_zero_mul]
  | .h p q, s, [] => by
    show ev ((s.low p.mul).add (.mk (.c 0) (q.mul s))) [] = ev p [] * ev s []
    rw [ev_add, ev_mk, ev_low0 (fun s => ev_mul p s [])]
    show _ + zc 0 = _
    rw [zc_zero, Rg.add_zero]
  | .h p q, s, x :: r => by
    show ev ((s.low p.mul).add (.mk (.c 0) (q.mul s))) (x :: r) = (ev p r + x * ev q (x :: r)) * ev s (x :: r)
    rw [ev_add, ev_mk, ev_low (fun s => ev_mul p s r)]
    show _ + (ev (.c 0) r + x * ev (q.mul s) (x :: r)) = _
    rw [ev_c, zc_zero, rg_zero_add, ev_mul q s (x :: r), rg_add_mul, Rg.mul_assoc]
theorem ev_neg (p : Pl) (r : List K) : ev p.neg r = -ev p r := by
  rw [Pl.neg, ev_scale, zc_neg, zc_one, rg_neg_mul, rg_one_mul]
theorem ev_isZ : ∀ (p : Pl) (r : List K), p.isZ = true → ev p r = 0
  | .c z, r, h => by
    have e : z = 0 := by simpa [Pl.isZ] using h
    rw [ev_c, e, zc_zero]
  | .h p _, [], h => ev_isZ p [] (Bool.and_eq_true_iff.1 h).1
  | .h p q, x :: r, h => by
    obtain ⟨h1, h2⟩ := Bool.and_eq_true_iff.1 h
    show ev p r + x * ev q (x :: r) = 0
    rw [ev_isZ p r h1, ev_isZ q (x :: r) h2, rg_mul_zero, Rg.add_zero]

/-! The form of an expression, found by its shape; the list has its letters. -/
class Vx (r : List K) (x : K) (p : outParam Pl) : Prop where
  ok : ev p r = x
class Rf (r : List K) (x : K) (p : outParam Pl) : Prop where
  ok : ev p r = x

instance vxT {r : List K} {x y : K} {p : Pl} [h : Vx r x p] : Vx (y :: r) x (.h p (.c 0)) where
  ok := by
    show ev p r + y * zc 0 = x
    rw [h.ok, zc_zero, rg_mul_zero, Rg.add_zero]
instance vxH {r : List K} {x : K} : Vx (x :: r) x (.h (.c 0) (.c 1)) where
  ok := by
    show ev (.c 0) r + x * zc 1 = x
    rw [ev_c, zc_zero, zc_one, Rg.mul_one, rg_zero_add]
instance rfV {r : List K} {x : K} {p : Pl} [h : Vx r x p] : Rf r x p where
  ok := h.ok
instance rfZero {r : List K} : Rf r 0 (.c 0) where
  ok := by rw [ev_c, zc_zero]
instance rfOne {r : List K} : Rf r 1 (.c 1) where
  ok := by rw [ev_c, zc_one]
instance rfNeg {r : List K} {x : K} {p : Pl} [h : Rf r x p] : Rf r (-x) p.neg where
  ok := by rw [ev_neg, h.ok]
instance rfSub {r : List K} {x y : K} {p q : Pl} [h : Rf r x p] [k : Rf r y q] : Rf r (x - y) (p.add q.neg) where
  ok := by rw [ev_add, ev_neg, h.ok, k.ok, Rg.sub_eq]
instance rfMul {r : List K} {x y : K} {p q : Pl} [h : Rf r x p] [k : Rf r y q] : Rf r (x * y) (p.mul q) where
  ok := by rw [ev_mul, h.ok, k.ok]
instance rfAdd {r : List K} {x y : K} {p q : Pl} [h : Rf r x p] [k : Rf r y q] : Rf r (x + y) (p.add q) where
  ok := by rw [ev_add, h.ok, k.ok]

/-- Two expressions of one form. -/
theorem rg (r : List K) {x y : K} {p q : Pl} [h : Rf r x p] [k : Rf r y q] (e : (p.add q.neg).isZ = true := by decide +kernel) : x = y :=
  rg_sub_eq (by
    have z := ev_isZ (p.add q.neg) r e
    rw [ev_add, ev_neg, h.ok, k.ok, ← Rg.sub_eq] at z
    exact z)
/-- The difference is a multiple of a known equation's. -/
theorem rg1 (r : List K) {x y a b : K} (u : a = b) (c : K) {p q s t w : Pl} [h : Rf r x p] [k : Rf r y q] [ha : Rf r a s] [hb : Rf r b t] [hc : Rf r c w]
    (e : ((p.add q.neg).add (w.mul (s.add t.neg)).neg).isZ = true := by decide +kernel) : x = y :=
  rg_sub_eq (by
    have z := ev_isZ _ r e
    rw [ev_add, ev_add, ev_neg, ev_neg, ev_mul, ev_add, ev_neg, h.ok, k.ok, ha.ok, hb.ok, hc.ok, ← Rg.sub_eq, ← Rg.sub_eq, ← Rg.sub_eq, rg_sub_self u, rg_mul_zero, Rg.sub_eq _ (0 : K), rg_neg_zero, Rg.add_zero] at z
    exact z)
theorem rg_eq0 {a b : K} (u : a = b) (c : K) : c * (a - b) = 0 := by rw [rg_sub_self u, rg_mul_zero]
theorem rg_sum0 {a b : K} (h : a = 0) (k : b = 0) : a + b = 0 := by rw [h, k, Rg.add_zero]
/-- Of two, of three, of four. -/
theorem rg2 (r : List K) {x y a b a' b' : K} (u : a = b) (c : K) (v : a' = b') (d : K) {p q s : Pl} [Rf r x p] [Rf r y q] [Rf r (c * (a - b) + d * (a' - b')) s]
    (e : (((p.add q.neg).add ((Pl.c 1).mul (s.add (Pl.c 0).neg)).neg)).isZ = true := by decide +kernel) : x = y :=
  rg1 r (rg_sum0 (rg_eq0 u c) (rg_eq0 v d)) 1 e
theorem rg3 (r : List K) {x y a b a' b' a2 b2 : K} (u : a = b) (c : K) (v : a' = b') (d : K) (w : a2 = b2) (f : K) {p q s : Pl} [Rf r x p] [Rf r y q] [Rf r (c * (a - b) + d * (a' - b') + f * (a2 - b2)) s]
    (e : (((p.add q.neg).add ((Pl.c 1).mul (s.add (Pl.c 0).neg)).neg)).isZ = true := by decide +kernel) : x = y :=
  rg1 r (rg_sum0 (rg_sum0 (rg_eq0 u c) (rg_eq0 v d)) (rg_eq0 w f)) 1 e

theorem rg_test (x y z : K) (h : x = y + z) : x * x - y * y = (y + y + z) * z := rg1 [x, y, z] h (x + (y + z))
theorem rg_test2 (x y z : K) : (x + y) * (x - y) + -(z * 0) = x * x - y * y * 1 := rg [x, y, z]
theorem rg_test3 (x y : K) (h : x = y) (k : y = 0) : x * x = 0 := rg2 [x, y] h x k x
end
end Go.Rq

/- Points of a curve over any field: the formulas of three elements by the program and by the reference; sums by the slope. -/
namespace Go.Rq
set_option synthInstance.maxSize 100000
set_option synthInstance.maxHeartbeats 400000

/-- What is asked of a field: inverses, and that two is not nought. -/
structure Fd (K : Type) [Rg K] (iv : K → K) (e : K → K → Bool) : Prop where
  inv : ∀ {x : K}, x ≠ 0 → x * iv x = 1
  one : (1 : K) ≠ 0
  two : ∀ {y : K}, y + y = 0 → y = 0
  eq : ∀ {x y : K}, e x y = true ↔ x = y

section
variable {K : Type} [Rg K] {iv : K → K} {e : K → K → Bool}

def foK (iv : K → K) : FO K := ⟨fun a b => a + b, fun a b => a - b, fun a b => a * b, fun a => -a, iv, fun a => a, fun a => a, 1, 0⟩

theorem Fd.ne (F : Fd K iv e) {x y : K} (h : x ≠ y) : e x y = false := by
  cases hb : e x y with
  | false => rfl
  | true => exact absurd (F.eq.1 hb) h
theorem Fd.refl (F : Fd K iv e) (x : K) : e x x = true := F.eq.2 rfl
theorem Fd.zero_or (F : Fd K iv e) {x y : K} (h : x * y = 0) : x = 0 ∨ y = 0 := by
  by_cases hx : x = 0
  · exact .inl hx
  · right
    have := F.inv hx
    exact rg2 [x, y, iv x] this (-y) h (iv x)

/-- A small number of times, as the reference reckons it. -/
def tmK (a : K) : Nat → K
  | 0 => 0
  | k + 1 => tmK a k + a

def noneJ : Jp K := ⟨0, 0, 0⟩
def dblF (p : Jp K) : Jp K :=
  let yy := p.y * p.y
  let s := tmK (p.x * yy) 4
  let m := tmK (p.x * p.x) 3
  let x := m * m - tmK s 2
  ⟨x, m * (s - x) - tmK (yy * yy) 8, tmK (p.y * p.z) 2⟩
def dblK (e : K → K → Bool) (p : Jp K) : Jp K := bif e p.z 0 then noneJ else bif e p.y 0 then noneJ else dblF p
def hK (p u : Jp K) : K := u.x * (p.z * p.z) - p.x
def kK (p u : Jp K) : K := u.y * ((p.z * p.z) * p.z) - p.y
def addF (p u : Jp K) : Jp K :=
  let h := hK p u
  let k := kK p u
  let hh := h * h
  let hhh := hh * h
  let v := p.x * hh
  let x := (k * k - hhh) - tmK v 2
  ⟨x, k * (v - x) - p.y * hhh, p.z * h⟩
def addK (e : K → K → Bool) (p u : Jp K) : Jp K := bif e p.z 0 then u else bif e (hK p u) 0 then (bif e (kK p u) 0 then dblK e p else noneJ) else addF p u

/-- The same point: both none, or all alike. -/
def Jeq (p q : Jp K) : Prop := (p.z = 0 ∧ q.z = 0) ∨ p = q
theorem Jeq.refl (p : Jp K) : Jeq p p := .inr rfl
theorem Jeq.symm {p q : Jp K} (h : Jeq p q) : Jeq q p := by
  rcases h with ⟨a, b⟩ | rfl
  · exact .inl ⟨b, a⟩
  · exact .inr rfl
theorem Jeq.trans {p q r : Jp K} (h : Jeq p q) (k : Jeq q r) : Jeq p r := by
  rcases h with ⟨a, b⟩ | rfl
  · rcases k with ⟨c, d⟩ | rfl
    · exact .inl ⟨a, d⟩
    · exact .inl ⟨a, b⟩
  · exact k

theorem Jp.ext3 {V : Type} {p q : Jp V} (hx : p.x = q.x) (hy : p.y = q.y) (hz : p.z = q.z) : p = q := by
  obtain ⟨a, b, c⟩ := p; obtain ⟨d, f, g⟩ := q
  simp at hx hy hz; subst hx hy hz; rfl

theorem twice_z (p : Jp K) : (twiceJ (foK iv) p).z = p.y * p.z + p.y * p.z := rfl

theorem twice_dbl (F : Fd K iv e) {p q : Jp K} (h : Jeq p q) : Jeq (twiceJ (foK iv) p) (dblK e q) := by
  have none_z : ∀ {p : Jp K}, p.z = 0 → (twiceJ (foK iv) p).z = 0 := fun {p} hz => by rw [twice_z, hz]; exact rg [p.y]
  rcases h with ⟨a, b⟩ | rfl
  · refine .inl ⟨none_z a, ?_⟩
    unfold dblK
    rw [F.eq.2 b]; rfl
  · unfold dblK
    by_cases hz : p.z = 0
    · rw [F.eq.2 hz]; exact .inl ⟨none_z hz, rfl⟩
    · rw [F.ne hz]
      by_cases hy : p.y = 0
      · rw [F.eq.2 hy]
        exact .inl ⟨by rw [twice_z, hy]; exact rg [p.z], rfl⟩
      · rw [F.ne hy]
        refine .inr (Jp.ext3 ?_ ?_ ?_)
        · simp only [twiceJ, foK, dblF, tmK, cond_false]; exact rg [p.x, p.y, p.z]
        · simp only [twiceJ, foK, dblF, tmK, cond_false]; exact rg [p.x, p.y, p.z]
        · simp only [twiceJ, foK, dblF, tmK, cond_false]; exact rg [p.x, p.y, p.z]

theorem sum_add (F : Fd K iv e) {f : Fl K} {p q u : Jp K} (h : Jeq p q) (hu : u.z = 1) : Jeq (sumE (foK iv) e f p u) (addK e q u) := by
  have hu0 : u.z ≠ 0 := by rw [hu]; exact F.one
  have zs : ∀ {p : Jp K}, p.z = 0 → sumE (foK iv) e f p u = u := fun {p} hz => by
    unfold sumE
    rw [show (foK iv).zero = (0 : K) from rfl, F.eq.2 hz]; rfl
  have za : ∀ {p : Jp K}, p.z = 0 → addK e p u = u := fun {p} hz => by
    unfold addK
    rw [F.eq.2 hz]; rfl
  rcases h with ⟨a, b⟩ | rfl
  · rw [zs a, za b]; exact .refl _
  · by_cases hz : p.z = 0
    · rw [zs hz, za hz]; exact .refl _
    · unfold sumE addK
      rw [show (foK iv).zero = (0 : K) from rfl, F.ne hz, F.ne hu0]
      have e1 : u.x * (p.z * p.z) - p.x * (1 * 1) = hK p u := by unfold hK; exact rg [p.x, p.z, u.x]
      have e2 : u.y * (p.z * p.z * p.z) - p.y * (1 * 1 * 1) = kK p u := by unfold kK; exact rg [p.y, p.z, u.y]
      rw [show hJ (foK iv) p u = hK p u by simp only [hJ, foK, hu]; exact e1, show rJ (foK iv) p u = kK p u by simp only [rJ, foK, hu]; exact e2]
      simp only [cond_false]
      cases e (hK p u) 0
      · refine .inr (Jp.ext3 ?_ ?_ ?_)
        · simp only [sumJ, foK, addF, tmK, hu, e1, e2, cond_false]; exact rg [p.x, hK p u, kK p u]
        · simp only [sumJ, foK, addF, tmK, hu, e1, e2, cond_false]; exact rg [p.x, p.y, hK p u, kK p u]
        · simp only [sumJ, foK, addF, hu, e1, cond_false]; exact rg [p.z, hK p u]
      · cases e (kK p u) 0
        · exact .inl ⟨rfl, rfl⟩
        · exact twice_dbl F (.refl p)

/-- A multiple by the reference, from bit k - 1 down. -/
def multK (e : K → K → Bool) (b : Nat → Bool) (p : Jp K) : Nat → Jp K → Jp K
  | 0, o => o
  | k + 1, o => multK e b p k (bif b k then addK e (dblK e o) p else dblK e o)

/-- Likewise by the program. -/
def runK (iv : K → K) (e : K → K → Bool) (f : Fl K) (b : Nat → Bool) (p : Jp K) : Nat → Jp K → Jp K
  | 0, o => o
  | k + 1, o => runK iv e f b p k (bif b k then sumE (foK iv) e f (twiceJ (foK iv) o) p else twiceJ (foK iv) o)

theorem run_mult (F : Fd K iv e) {f : Fl K} {b : Nat → Bool} {p : Jp K} (hp : p.z = 1) : ∀ (k : Nat) {u v : Jp K}, Jeq u v → Jeq (runK iv e f b p k u) (multK e b p k v)
  | 0, u, v, h => h
  | k + 1, u, v, h => by
    simp only [runK, multK]
    apply run_mult F hp k
    cases b k
    · exact twice_dbl F h
    · exact sum_add F (twice_dbl F h) hp

theorem mult_noughts (F : Fd K iv e) {b : Nat → Bool} {p : Jp K} {l : Nat} (hb : ∀ i, l ≤ i → b i = false) : ∀ (k : Nat) {v : Jp K}, v.z = 0 → ∃ v' : Jp K, v'.z = 0 ∧ multK e b p (l + k) v = multK e b p l v'
  | 0, v, hv => ⟨v, hv, rfl⟩
  | k + 1, v, hv => by
    have : multK e b p (l + (k + 1)) v = multK e b p (l + k) (dblK e v) := by
      rw [← Nat.add_assoc]
      simp only [multK]
      rw [hb (l + k) (by omega)]
      rfl
    rw [this]
    refine mult_noughts F hb k ?_
    unfold dblK
    rw [F.eq.2 hv]; rfl

/-- However many noughts are ahead: the same multiple. -/
theorem run_mult2 (F : Fd K iv e) {f : Fl K} {b : Nat → Bool} {p : Jp K} (hp : p.z = 1) {l l2 : Nat} (hb : ∀ i, l ≤ i → b i = false) (hb2 : ∀ i, l2 ≤ i → b i = false) {u v : Jp K} (hu : u.z = 0) (hv : v.z = 0) :
    Jeq (runK iv e f b p l u) (multK e b p l2 v) := by
  have any : ∀ {m : Nat} {x y : Jp K}, x.z = 0 → y.z = 0 → Jeq (multK e b p m x) (multK e b p m y) := fun {m x y} hx hy =>
    (run_mult F (f := f) hp m (u := x) (v := x) (.refl x)).symm.trans (run_mult F (f := f) hp m (.inl ⟨hx, hy⟩))
  obtain ⟨v1, h1, e1⟩ := mult_noughts F hb (p := p) l2 (v := v) hv
  obtain ⟨v2, h2, e2⟩ := mult_noughts F hb2 (p := p) l (v := v) hv
  have a1 : Jeq (runK iv e f b p l u) (multK e b p l v1) := run_mult F hp l (.inl ⟨hu, h1⟩)
  rw [← e1, Nat.add_comm, e2] at a1
  exact a1.trans (any h2 hv)

/-- The two elements, as the reference tells them. -/
def lowK (iv : K → K) (e : K → K → Bool) (p : Jp K) : Ap K := bif e p.z 0 then ⟨0, 0, true⟩ else ⟨p.x * (iv p.z * iv p.z), p.y * ((iv p.z * iv p.z) * iv p.z), false⟩
theorem low_eq (F : Fd K iv e) {p q : Jp K} (h : Jeq p q) : lowerE (foK iv) e p = lowK iv e q := by
  unfold lowerE lowK
  rw [show (foK iv).zero = (0 : K) from rfl]
  rcases h with ⟨a, b⟩ | rfl
  · rw [F.eq.2 a, F.eq.2 b]; rfl
  · rfl

/-! Sums by the slope. -/
def eqA (e : K → K → Bool) (a b : Ap K) : Bool := e a.x b.x && (e a.y b.y && (a.zero == b.zero))
def negK (a : Ap K) : Ap K := ⟨a.x, -a.y, a.zero⟩
def chordK (a b : Ap K) (m : K) : Ap K :=
  let x := m * m - a.x - b.x
  ⟨x, m * (a.x - x) - a.y, false⟩
def slope1K (iv : K → K) (a : Ap K) : K := (a.x * a.x + a.x * a.x + a.x * a.x) * iv (a.y + a.y)
def slope2K (iv : K → K) (a b : Ap K) : K := (b.y - a.y) * iv (b.x - a.x)
def sumA (iv : K → K) (e : K → K → Bool) (a b : Ap K) : Ap K := bif a.zero then b else bif b.zero then a else bif eqA e a (negK b) then ⟨0, 0, true⟩ else bif eqA e a b then chordK a b (slope1K iv a) else chordK a b (slope2K iv a b)

theorem Ap.ext3 {V : Type} {p q : Ap V} (hx : p.x = q.x) (hy : p.y = q.y) (hz : p.zero = q.zero) : p = q := by
  obtain ⟨a, b, c⟩ := p; obtain ⟨d, f, g⟩ := q
  simp at hx hy hz; subst hx hy hz; rfl

theorem raise_low (F : Fd K iv e) {f : Fl K} (hf : f.one = 1) {a : Ap K} (ha : a.zero = true → a = ⟨0, 0, true⟩) : lowerE (foK iv) e (raiseJ (foK iv) f a) = a := by
  unfold raiseJ lowerE
  cases hz : a.zero with
  | true =>
    rw [ha hz]
    simp only [cond_true]
    rw [show (foK iv).zero = (0 : K) from rfl, F.refl]; rfl
  | false =>
    simp only [cond_false]
    rw [show (foK iv).zero = (0 : K) from rfl, hf, F.ne F.one]
    have h1 : iv (1 : K) = 1 := by have := F.inv F.one; exact rg1 [iv 1] this 1
    refine Ap.ext3 ?_ ?_ hz.symm
    · simp only [lowerJ, foK, cond_false, h1]; exact rg [a.x]
    · simp only [lowerJ, foK, cond_false, h1]; exact rg [a.y]

theorem iv_mul (F : Fd K iv e) {x i : K} (h : x * i = 1) : iv x = i := by
  have hx : x ≠ 0 := by
    rintro rfl
    exact F.one (rg1 [i] h (-1))
  have := F.inv hx
  exact rg2 [x, i, iv x] h (-iv x) this i

theorem sum_slope (F : Fd K iv e) {f : Fl K} (hf : f.one = 1) {a b : Ap K} (ha : a.zero = true → a = ⟨0, 0, true⟩) (hb : b.zero = true → b = ⟨0, 0, true⟩)
    (hca : a.zero = false → a.y * a.y = a.x * a.x * a.x + f.b) (hcb : b.zero = false → b.y * b.y = b.x * b.x * b.x + f.b) :
    lowerE (foK iv) e (sumE (foK iv) e f (raiseJ (foK iv) f a) (raiseJ (foK iv) f b)) = sumA iv e a b := by
  have z0 : (foK iv).zero = (0 : K) := rfl
  have rz : ∀ {a : Ap K}, a.zero = true → (raiseJ (foK iv) f a).z = 0 := fun {a} h => by unfold raiseJ; rw [h]; rfl
  have rn : ∀ {a : Ap K}, a.zero = false → raiseJ (foK iv) f a = ⟨a.x, a.y, 1⟩ := fun {a} h => by unfold raiseJ; rw [h, hf]; rfl
  unfold sumA
  cases hza : a.zero with
  | true =>
    have : sumE (foK iv) e f (raiseJ (foK iv) f a) (raiseJ (foK iv) f b) = raiseJ (foK iv) f b := by
      unfold sumE
      rw [z0, F.eq.2 (rz hza)]; rfl
    rw [this, raise_low F hf hb]; rfl
  | false =>
    cases hzb : b.zero with
    | true =>
      have : sumE (foK iv) e f (raiseJ (foK iv) f a) (raiseJ (foK iv) f b) = raiseJ (foK iv) f a := by
        unfold sumE
        rw [z0, F.eq.2 (rz hzb), rn hza]
        show (bif e (1 : K) 0 then _ else _) = _
        rw [F.ne F.one]; rfl
      rw [this, raise_low F hf ha]; rfl
    | false =>
      rw [rn hza, rn hzb]
      have ca := hca hza
      have cb := hcb hzb
      obtain ⟨x1, y1, za⟩ := a
      obtain ⟨x2, y2, zb⟩ := b
      simp only at hza hzb ca cb
      subst hza hzb
      simp only [cond_false]
      have hj : hJ (foK iv) ⟨x1, y1, 1⟩ ⟨x2, y2, 1⟩ = x2 - x1 := by simp only [hJ, foK]; exact rg [x1, y1, x2, y2]
      have rj : rJ (foK iv) ⟨x1, y1, 1⟩ ⟨x2, y2, 1⟩ = y2 - y1 := by simp only [rJ, foK]; exact rg [x1, y1, x2, y2]
      have s0 : sumE (foK iv) e f ⟨x1, y1, 1⟩ ⟨x2, y2, 1⟩ = bif e (x2 - x1) 0 then (bif e (y2 - y1) 0 then twiceJ (foK iv) ⟨x1, y1, 1⟩ else ⟨f.one, f.one, (foK iv).zero⟩) else sumJ (foK iv) ⟨x1, y1, 1⟩ ⟨x2, y2, 1⟩ := by
        unfold sumE
        rw [hj, rj, z0]
        show (bif e (1 : K) 0 then _ else bif e (1 : K) 0 then _ else _) = _
        rw [F.ne F.one]; rfl
      rw [s0]
      by_cases hx : x1 = x2
      · subst hx
        rw [show e (x1 - x1) 0 = true from F.eq.2 (rg [x1])]
        simp only [cond_true]
        by_cases hn : y1 = -y2
        · have h1 : eqA e (⟨x1, y1, false⟩ : Ap K) (negK ⟨x1, y2, false⟩) = true := by
            simp [eqA, negK, F.refl, F.eq.2 hn]
          rw [h1, cond_true]
          by_cases hy : y2 - y1 = 0
          · rw [F.eq.2 hy, cond_true]
            have hy0 : y1 = 0 := F.two (rg2 [y1, y2] hn 1 hy (-1))
            subst hy0
            unfold lowerE
            rw [z0, show e (twiceJ (foK iv) ⟨x1, 0, 1⟩).z 0 = true from F.eq.2 (by rw [twice_z]; exact rg ([] : List K))]; rfl
          · rw [F.ne hy, cond_false]
            unfold lowerE
            rw [z0]
            show (bif e (0 : K) 0 then _ else _) = _
            rw [F.refl]; rfl
        · have hs : (y1 - y2) * (y1 + y2) = 0 := rg2 [x1, y1, y2, f.b] ca 1 cb (-1)
          have hy : y1 = y2 := by
            rcases F.zero_or hs with h | h
            · exact rg1 [y1, y2] h 1
            · exact absurd (rg1 [y1, y2] h 1) hn
          subst hy
          have h1 : eqA e (⟨x1, y1, false⟩ : Ap K) (negK ⟨x1, y1, false⟩) = false := by
            simp [eqA, negK, F.ne hn]
          have h2 : eqA e (⟨x1, y1, false⟩ : Ap K) ⟨x1, y1, false⟩ = true := by simp [eqA, F.refl]
          rw [h1, h2, show e (y1 - y1) 0 = true from F.eq.2 (rg [y1])]
          simp only [cond_true, cond_false]
          have hz : y1 + y1 ≠ 0 := fun h => hn (rg1 [y1] h 1)
          have hi := F.inv hz
          generalize hiv : iv (y1 + y1) = i at hi
          have hzz : (twiceJ (foK iv) ⟨x1, y1, 1⟩).z = y1 + y1 := by rw [twice_z]; exact rg [y1]
          unfold lowerE
          rw [z0, hzz, F.ne hz, cond_false]
          refine Ap.ext3 ?_ ?_ rfl
          · simp only [lowerJ]
            rw [hzz]
            simp only [foK, twiceJ, chordK, slope1K, hiv]
            exact rg1 [x1, y1, i] hi (-((x1 + x1) * ((y1 + y1) * i + 1)))
          · simp only [lowerJ]
            rw [hzz]
            simp only [foK, twiceJ, chordK, slope1K, hiv]
            exact rg1 [x1, y1, i] hi ((x1 * x1 + x1 * x1 + x1 * x1) * i * (x1 + x1 + x1) * ((y1 + y1) * i + 1) - y1 * ((y1 + y1) * i * ((y1 + y1) * i) + (y1 + y1) * i + 1))
      · have hz : x2 - x1 ≠ 0 := fun h => hx (rg1 [x1, x2] h (-1))
        have h1 : eqA e (⟨x1, y1, false⟩ : Ap K) (negK ⟨x2, y2, false⟩) = false := by simp [eqA, negK, F.ne hx]
        have h2 : eqA e (⟨x1, y1, false⟩ : Ap K) ⟨x2, y2, false⟩ = false := by simp [eqA, F.ne hx]
        rw [h1, h2, F.ne hz]
        simp only [cond_false]
        have hi := F.inv hz
        generalize hiv : iv (x2 - x1) = i at hi
        have hzz : (sumJ (foK iv) ⟨x1, y1, 1⟩ ⟨x2, y2, 1⟩).z = x2 - x1 := by simp only [sumJ, foK]; exact rg [x1, y1, x2, y2]
        unfold lowerE
        rw [z0, hzz, F.ne hz, cond_false]
        refine Ap.ext3 ?_ ?_ rfl
        · simp only [lowerJ]
          rw [hzz]
          simp only [foK, sumJ, chordK, slope2K, hiv]
          exact rg1 [x1, y1, x2, y2, i] hi (-((x1 + x2) * ((x2 - x1) * i + 1)))
        · simp only [lowerJ]
          rw [hzz]
          simp only [foK, sumJ, chordK, slope2K, hiv]
          exact rg1 [x1, y1, x2, y2, i] hi ((y2 - y1) * i * (x1 + x1 + x2) * ((x2 - x1) * i + 1) - y1 * ((x2 - x1) * i * ((x2 - x1) * i) + (x2 - x1) * i + 1))
end
end Go.Rq

/- The great prime's field; what is reckoned with numbers, as its elements. -/
namespace Go.Rq
open Go

/-! Powers. -/
section
variable {K : Type} [Rg K]

def pwK (x : K) : Nat → K
  | 0 => 1
  | n + 1 => pwK x n * x

theorem pwK_add (x : K) (m : Nat) : ∀ n, pwK x (m + n) = pwK x m * pwK x n
  | 0 => (Rg.mul_one _).symm
  | n + 1 => by
    rw [← Nat.add_assoc]
    simp only [pwK]
    rw [pwK_add x m n, Rg.mul_assoc]
theorem pwK_two (x : K) (n : Nat) : pwK x (2 * n) = pwK x n * pwK x n := by rw [Nat.two_mul, pwK_add]

/-- The number that the lowest k bits tell. -/
def bitsV (b : Nat → Bool) : Nat → Nat
  | 0 => 0
  | k + 1 => bitsV b k + (bif b k then 2 ^ k else 0)

/-- A power, from bit k - 1 down. -/
def pwB (b : Nat → Bool) (x : K) : Nat → K → K
  | 0, n => n
  | k + 1, n => pwB b x k (bif b k then n * n * x else n * n)

theorem pwB_eq (b : Nat → Bool) (x : K) : ∀ (k m : Nat), pwB b x k (pwK x m) = pwK x (m * 2 ^ k + bitsV b k)
  | 0, m => by simp [pwB, bitsV]
  | k + 1, m => by
    simp only [pwB, bitsV]
    have e : m * 2 ^ (k + 1) = 2 * m * 2 ^ k := by rw [Nat.pow_succ, Nat.mul_comm 2 m, Nat.mul_assoc, Nat.mul_comm 2 (2 ^ k)]
    cases hb : b k
    · rw [cond_false, cond_false, ← pwK_two, pwB_eq, e]; congr 1
    · rw [cond_true, cond_true, ← pwK_two, show pwK x (2 * m) * x = pwK x (2 * m + 1) from rfl, pwB_eq, e, Nat.add_mul]
      congr 1
      omega
theorem pwB_one {b : Nat → Bool} {k n : Nat} (h : bitsV b k = n) (x : K) : pwB b x k 1 = pwK x n := by
  have e := pwB_eq b x k 0
  rw [h, Nat.zero_mul, Nat.zero_add] at e
  exact e
end

/-! Numbers below a prime. -/
section
variable {p : Nat} [NeZero p]

theorem fin_add_assoc (x y z : Fin p) : x + y + z = x + (y + z) := by grind
theorem fin_add_comm (x y : Fin p) : x + y = y + x := by grind
theorem fin_add_zero (x : Fin p) : x + 0 = x := by grind
theorem fin_neg_add (x : Fin p) : -x + x = 0 := by grind
theorem fin_mul_assoc (x y z : Fin p) : x * y * z = x * (y * z) := by grind
theorem fin_mul_comm (x y : Fin p) : x * y = y * x := by grind
theorem fin_mul_one (x : Fin p) : x * 1 = x := by grind
theorem fin_mul_add (x y z : Fin p) : x * (y + z) = x * y + x * z := by grind
theorem fin_sub_eq (x y : Fin p) : x - y = x + -y := by grind
instance ringFin : Rg (Fin p) where
  add x y := x + y
  mul x y := x * y
  neg x := -x
  sub x y := x - y
  zero := 0
  one := 1
  add_assoc := fin_add_assoc
  add_comm := fin_add_comm
  add_zero := fin_add_zero
  neg_add := fin_neg_add
  mul_assoc := fin_mul_assoc
  mul_comm := fin_mul_comm
  mul_one := fin_mul_one
  mul_add := fin_mul_add
  sub_eq := fin_sub_eq

theorem pwF_val (x : Fin p) : ∀ n : Nat, (pwK x n).val = x.val ^ n % p
  | 0 => rfl
  | n + 1 => by
    show (pwK x n * x).val = _
    rw [show (pwK x n * x).val = (pwK x n).val * x.val % p from rfl, pwF_val x n, Nat.pow_succ, Nat.mod_mul_mod]

def ivF (x : Fin p) : Fin p := pwK x (p - 2)
def eqF (x y : Fin p) : Bool := Nat.beq x.val y.val

theorem eqF_iff {p : Nat} {x y : Fin p} : eqF x y = true ↔ x = y := by
  unfold eqF
  rw [Nat.beq_eq]
  exact ⟨fun h => Fin.ext h, fun h => by rw [h]⟩

theorem fdF (h : Pr p) (h3 : 3 ≤ p) : Fd (Fin p) ivF eqF where
  inv {x} hx := by
    have hx0 : x.val ≠ 0 := fun e => hx (Fin.ext e)
    have hd : ¬ p ∣ x.val := fun hd => by
      have := Nat.le_of_dvd (by omega) hd
      have := x.isLt
      omega
    have hf := fermat h hd
    apply Fin.ext
    show x.val * (pwK x (p - 2)).val % p = 1 % p
    rw [pwF_val, Nat.mul_mod_mod, Nat.mul_comm, ← Nat.pow_succ, show (p - 2).succ = p - 1 by omega, hf, Nat.mod_eq_of_lt (by omega)]
  one e := by
    have h1 : (1 : Fin p).val = (0 : Fin p).val := by rw [e]
    have h2 : 1 % p = 0 := h1
    rw [Nat.mod_eq_of_lt (by omega)] at h2
    cases h2
  two {y} e := by
    have h1 : (y.val + y.val) % p = 0 := by
      have : (y + y).val = (0 : Fin p).val := by rw [e]
      exact this
    have hy := y.isLt
    apply Fin.ext
    show y.val = 0
    obtain ⟨k, hk⟩ := Nat.dvd_of_mod_eq_zero h1
    have hk2 : k = 0 ∨ k = 1 ∨ 2 ≤ k := by omega
    rcases hk2 with rfl | rfl | hk2
    · omega
    · exfalso
      rcases h.2 2 ⟨y.val, by omega⟩ with h2 | h2 <;> omega
    · have := Nat.mul_le_mul_left p hk2
      omega
  eq := eqF_iff

/-- A number times another one, below p. -/
def phi (r n : Nat) : Fin p := Fin.ofNat p (n * r)
theorem phi_val (r n : Nat) : (phi r n : Fin p).val = n * r % p := rfl
theorem phi_mod (r n : Nat) : (phi r (n % p) : Fin p) = phi r n := Fin.ext (by rw [phi_val, phi_val, Nat.mod_mul_mod])
theorem phi_add (r n m : Nat) : (phi r (n + m) : Fin p) = phi r n + phi r m := Fin.ext (by
  show (n + m) * r % p = (n * r % p + m * r % p) % p
  rw [Nat.add_mul, Nat.add_mod])
theorem phi_mul (r n m : Nat) : (phi r (n * m * r % p) : Fin p) = phi r n * phi r m := Fin.ext (by
  show n * m * r % p * r % p = (n * r % p) * (m * r % p) % p
  rw [Nat.mod_mul_mod, ← Nat.mul_mod]
  congr 1
  simp only [Nat.mul_assoc, Nat.mul_left_comm])
theorem phi_zero (r : Nat) : (phi r 0 : Fin p) = 0 := Fin.ext (by rw [phi_val, Nat.zero_mul]; rfl)
theorem phi_p (r : Nat) : (phi r p : Fin p) = 0 := Fin.ext (by rw [phi_val, Nat.mul_mod_right]; rfl)
theorem phi_sub (r : Nat) {n m : Nat} (h : m ≤ p) : (phi r ((n + (p - m)) % p) : Fin p) = phi r n - phi r m := by
  rw [phi_mod, phi_add]
  have h1 : (phi r (p - m) : Fin p) + phi r m = 0 := by rw [← phi_add, Nat.sub_add_cancel h, phi_p]
  apply rg_cancel (z := phi r m)
  rw [Rg.sub_eq, Rg.add_assoc, Rg.add_assoc, h1, Rg.neg_add]
theorem phi_inj {r R n m : Nat} (hr : R * r % p = 1) (hn : n < p) (hm : m < p) (h : (phi r n : Fin p) = phi r m) : n = m := by
  have h1 : n * r % p = m * r % p := congrArg Fin.val h
  have e : ∀ x, x * r % p * R % p = x % p := fun x => by
    rw [Nat.mod_mul_mod, Nat.mul_assoc, Nat.mul_comm r, Nat.mul_mod, hr, Nat.mul_one, Nat.mod_mod]
  have h2 := e n
  rw [h1, e m, Nat.mod_eq_of_lt hn, Nat.mod_eq_of_lt hm] at h2
  exact h2.symm

/-- A number that stands for an element: below p, and times r that one. -/
structure RK (r : Nat) (x : Fin p) (n : Nat) : Prop where
  lt : n < p
  eq : phi r n = x

theorem rk_eq {r R : Nat} (hr : R * r % p = 1) {x y : Fin p} {n m : Nat} (h : RK r x n) (k : RK r y m) : eqF x y = Nat.beq n m := by
  rw [Bool.eq_iff_iff, eqF_iff, Nat.beq_eq, ← h.eq, ← k.eq]
  exact ⟨fun e => phi_inj hr h.lt k.lt e, fun e => by rw [e]⟩
theorem rk_add {r : Nat} {x y : Fin p} {n m : Nat} (h : RK r x n) (k : RK r y m) : RK r (x + y) ((n + m) % p) := ⟨Nat.mod_lt _ (Nat.zero_lt_of_lt h.lt), by rw [phi_mod, phi_add, h.eq, k.eq]⟩
theorem rk_sub {r : Nat} {x y : Fin p} {n m : Nat} (h : RK r x n) (k : RK r y m) : RK r (x - y) ((n + (p - m)) % p) := ⟨Nat.mod_lt _ (Nat.zero_lt_of_lt h.lt), by rw [phi_sub r (Nat.le_of_lt k.lt), h.eq, k.eq]⟩
theorem rk_mul {r : Nat} {x y : Fin p} {n m : Nat} (h : RK r x n) (k : RK r y m) : RK r (x * y) (n * m * r % p) := ⟨Nat.mod_lt _ (Nat.zero_lt_of_lt h.lt), by rw [phi_mul, h.eq, k.eq]⟩
theorem rk_zero (r : Nat) (hp : 0 < p) : RK r (0 : Fin p) 0 := ⟨hp, phi_zero r⟩
theorem rk_neg {r : Nat} {x : Fin p} {n : Nat} (h : RK r x n) : RK r (-x) ((0 + (p - n)) % p) := by
  have := rk_sub (rk_zero r (Nat.zero_lt_of_lt h.lt)) h
  have e : (0 : Fin p) - x = -x := by rw [Rg.sub_eq]; exact rg_zero_add _
  rw [e] at this
  exact this

/-- A number that is an element. -/
structure RV (x : Fin p) (n : Nat) : Prop where
  eq : n = x.val
theorem RV.lt {p : Nat} {x : Fin p} {n : Nat} (h : RV x n) : n < p := h.eq ▸ x.isLt
theorem RV.of {p : Nat} {n : Nat} (h : n < p) : RV (⟨n, h⟩ : Fin p) n := ⟨rfl⟩
theorem rv_add {p : Nat} {x y : Fin p} {n m : Nat} (h : RV x n) (k : RV y m) : RV (x + y) ((n + m) % p) := ⟨by rw [h.eq, k.eq]; rfl⟩
theorem rv_mul {p : Nat} {x y : Fin p} {n m : Nat} (h : RV x n) (k : RV y m) : RV (x * y) (n * m % p) := ⟨by rw [h.eq, k.eq]; rfl⟩
theorem rv_neg {p : Nat} {x : Fin p} {n : Nat} (h : RV x n) : RV (-x) ((p - n) % p) := ⟨by rw [h.eq]; rfl⟩
theorem rv_sub {x y : Fin p} {n m : Nat} (h : RV x n) (k : RV y m) : RV (x - y) ((n + (p - m) % p) % p) := by
  have := rv_add h (rv_neg k)
  have e : x + -y = x - y := (Rg.sub_eq x y).symm
  rw [e] at this
  exact this
theorem rv_eq {p : Nat} {x y : Fin p} {n m : Nat} (h : RV x n) (k : RV y m) : eqF x y = Nat.beq n m := by rw [h.eq, k.eq]; rfl
/-- From the one to the other. -/
theorem rk_of_rv {r w : Nat} (hw : w * r * r % p = 1) {x : Fin p} {n : Nat} (h : RV x n) : RK r x (w * n * r % p) := by
  refine ⟨Nat.mod_lt _ (Nat.zero_lt_of_lt h.lt), ?_⟩
  rw [phi_mod]
  apply Fin.ext
  rw [phi_val, show w * n * r * r = n * (w * r * r) by simp only [Nat.mul_left_comm, Nat.mul_comm], Nat.mul_mod, hw, Nat.mul_one, Nat.mod_mod, Nat.mod_eq_of_lt h.lt, h.eq]
theorem rv_of_rk {r : Nat} {x : Fin p} {n : Nat} (h : RK r x n) : RV x (n * 1 * r % p) := ⟨by rw [← h.eq, phi_val, Nat.mul_one]⟩
end

/-! The great prime. -/
instance pN_ne : NeZero pN := ⟨Nat.ne_of_gt pN_pos⟩
/-- The field; its operations are those of a ring alone. -/
def F1 : Type := Fin pN
noncomputable instance ringF1 : Rg F1 := ringFin (p := pN)
noncomputable def iv1 : F1 → F1 := ivF (p := pN)
def eq1 : F1 → F1 → Bool := eqF (p := pN)
theorem fd1 : Fd F1 iv1 eq1 := fdF (p := pN) pr_p (by decide +kernel)
theorem iv1_pow (x : F1) : iv1 x = pwK x (pN - 2) := rfl

def RK1 (x : F1) (n : Nat) : Prop := RK (p := pN) rinvN x n
theorem exp_bits : bitsV expInv.bit 384 = pN - 2 := by decide +kernel
theorem rk1_one : RK1 (1 : F1) oneN := ⟨oneN_lt, Fin.ext (by decide +kernel)⟩
theorem rk1_zero : RK1 (0 : F1) 0 := rk_zero (p := pN) rinvN pN_pos
theorem rk1_add {x y : F1} {n m : Nat} (h : RK1 x n) (k : RK1 y m) : RK1 (x + y) (addN n m) := rk_add (p := pN) h k
theorem rk1_sub {x y : F1} {n m : Nat} (h : RK1 x n) (k : RK1 y m) : RK1 (x - y) (subN n m) := rk_sub (p := pN) h k
theorem rk1_mul {x y : F1} {n m : Nat} (h : RK1 x n) (k : RK1 y m) : RK1 (x * y) (mulN n m) := rk_mul (p := pN) h k
theorem rk1_neg {x : F1} {n : Nat} (h : RK1 x n) : RK1 (-x) (negN n) := rk_neg (p := pN) h
theorem rk1_eq {x y : F1} {n m : Nat} (h : RK1 x n) (k : RK1 y m) : eq1 x y = Nat.beq n m := rk_eq (p := pN) rinv_ok h k

theorem rk1_pow {x : F1} {n : Nat} (h : RK1 x n) (e : W6) : ∀ (k : Nat) {y : F1} {m : Nat}, RK1 y m → RK1 (pwB e.bit x k y) (powS n e k m)
  | 0, y, m, hm => hm
  | k + 1, y, m, hm => by
    simp only [powS, pwB, forceN_eq]
    apply rk1_pow h e k
    cases e.bit k
    · rw [cond_false, cond_false]; exact rk1_mul hm hm
    · rw [cond_true, cond_true]; exact rk1_mul (rk1_mul hm hm) h

theorem rk1_inv {x : F1} {n : Nat} (h : RK1 x n) : RK1 (iv1 x) (invN n) := by
  have h1 := rk1_pow h expInv 384 rk1_one
  rw [pwB_one exp_bits, ← iv1_pow] at h1
  exact h1

theorem foK_add {K : Type} [Rg K] {iv : K → K} (x y : K) : (foK iv).add x y = x + y := rfl
theorem foK_sub {K : Type} [Rg K] {iv : K → K} (x y : K) : (foK iv).sub x y = x - y := rfl
theorem foK_mul {K : Type} [Rg K] {iv : K → K} (x y : K) : (foK iv).mul x y = x * y := rfl
theorem foK_neg {K : Type} [Rg K] {iv : K → K} (x : K) : (foK iv).neg x = -x := rfl
theorem foK_inv {K : Type} [Rg K] {iv : K → K} (x : K) : (foK iv).inv x = iv x := rfl
theorem foK_zero {K : Type} [Rg K] {iv : K → K} : (foK iv).zero = (0 : K) := rfl

theorem relF : FRel RK1 (foK iv1) fN eq1 Nat.beq where
  add h k := by rw [foK_add, fN_add]; exact rk1_add h k
  sub h k := by rw [foK_sub, fN_sub]; exact rk1_sub h k
  mul h k := by rw [foK_mul, fN_mul]; exact rk1_mul h k
  neg h := by rw [foK_neg, fN_neg]; exact rk1_neg h
  inv h := by rw [foK_inv, fN_inv]; exact rk1_inv h
  zero := by rw [foK_zero]; exact rk1_zero
  eq h k := rk1_eq h k

theorem FRel.comp {A B C : Type} {R : A → B → Prop} {S : B → C → Prop} {o : FO A} {o' : FO B} {o'' : FO C} {e : A → A → Bool} {e' : B → B → Bool} {e'' : C → C → Bool} (h : FRel R o o' e e') (k : FRel S o' o'' e' e'') :
    FRel (fun a c => ∃ b, R a b ∧ S b c) o o'' e e'' where
  add := fun ⟨_, p1, p2⟩ ⟨_, q1, q2⟩ => ⟨_, h.add p1 q1, k.add p2 q2⟩
  sub := fun ⟨_, p1, p2⟩ ⟨_, q1, q2⟩ => ⟨_, h.sub p1 q1, k.sub p2 q2⟩
  mul := fun ⟨_, p1, p2⟩ ⟨_, q1, q2⟩ => ⟨_, h.mul p1 q1, k.mul p2 q2⟩
  neg := fun ⟨_, p1, p2⟩ => ⟨_, h.neg p1, k.neg p2⟩
  inv := fun ⟨_, p1, p2⟩ => ⟨_, h.inv p1, k.inv p2⟩
  zero := ⟨_, h.zero, k.zero⟩
  eq := fun ⟨_, p1, p2⟩ ⟨_, q1, q2⟩ => by rw [h.eq p1 q1, k.eq p2 q2]

/-- An element as the program keeps it. -/
def RM (x : F1) (w : W6) : Prop := ∃ n, RK1 x n ∧ Rep n w
/-- An element as it is told. -/
def RP (x : F1) (w : W6) : Prop := RV (p := pN) x w.val

theorem relM : FRel RM (foK iv1) fW eq1 eqW := relF.comp relW
theorem rm_one : RM 1 oneW := ⟨oneN, rk1_one, rep_one⟩
theorem rm_zero : RM 0 zeroW := ⟨0, rk1_zero, rep_zero⟩
theorem rp_lt {x : F1} {w : W6} (h : RP x w) : w.val < pN := RV.lt h
theorem rp_of {w : W6} (h : w.val < pN) : ∃ x, RP x w := ⟨(⟨w.val, h⟩ : Fin pN), RV.of h⟩
theorem rp_inj {x : F1} {v w : W6} (h : RP x v) (k : RP x w) : v = w := W6.val_inj (h.eq.trans k.eq.symm)
theorem rp_eq {x y : F1} {v w : W6} (h : RP x v) (k : RP y w) : eq1 x y = eqW v w := by
  have e : eq1 x y = Nat.beq v.val w.val := rv_eq (p := pN) h k
  rw [e, Bool.eq_iff_iff, Nat.beq_eq, eqW_iff]
  exact ⟨fun e => W6.val_inj e, fun e => by rw [e]⟩
theorem wide_one : wideN * rinvN * rinvN % pN = 1 := by decide +kernel
theorem rm_to {x : F1} {w : W6} (h : RP x w) : RM x (toW w) := ⟨toN w.val, rk_of_rv (p := pN) wide_one h, rep_to w⟩
theorem rp_from {x : F1} {w : W6} (h : RM x w) : RP x (fromW w) := by
  obtain ⟨n, h1, h2⟩ := h
  have h3 : RV (p := pN) x (backN n) := rv_of_rk h1
  rw [← rep_back h2] at h3
  exact h3
theorem rp_zero : RP 0 zeroW := ⟨by rw [zero_val]; exact (Nat.zero_mod pN).symm⟩
theorem rp_val {x : F1} {w : W6} {n : Nat} (h : RV (p := pN) x n) (e : w.val = n) : RP x w := by
  unfold RP
  rw [e]
  exact h
theorem rp_of_mul {x y : F1} {a b w : W6} (h : RP x a) (k : RP y b) (e : w.val = a.val * b.val % pN) : RP (x * y) w := rp_val (rv_mul (p := pN) h k) e
theorem rp_of_add {x y : F1} {a b w : W6} (h : RP x a) (k : RP y b) (e : w.val = (a.val + b.val) % pN) : RP (x + y) w := rp_val (rv_add (p := pN) h k) e
theorem rp_of_sub {x y : F1} {a b w : W6} (h : RP x a) (k : RP y b) (e : w.val = (a.val + (pN - b.val) % pN) % pN) : RP (x - y) w := rp_val (rv_sub (p := pN) h k) e
theorem rp_of_neg {x : F1} {a w : W6} (h : RP x a) (e : w.val = (pN - a.val) % pN) : RP (-x) w := rp_val (rv_neg (p := pN) h) e
theorem rp_of_one {w : W6} (e : w.val = 1) : RP 1 w := rp_val (n := 1) ⟨by decide +kernel⟩ e
end Go.Rq

/- Functions that read one block by a pointer; functions that lay one block and hand back a pointer to it. -/
namespace Go.Rq
open Go

/-- Several exact arguments. -/
structure MC (δ : Type) where
  enc : δ → List AV
  dec : List AV → Option δ
  val : δ → List Value
  h1 : ∀ x, flatL (enc x) = some (val x)
  h2 : ∀ (ρ : Ren) (as : List AV) (vs : List Value) (x : δ), dec as = some x → Rvs ρ as vs → vs = val x

def mc0 : MC Unit where
  enc _ := []
  dec as := match as with
    | [] => some ()
    | _ => none
  val _ := []
  h1 _ := rfl
  h2 ρ as vs x h r := by
    split at h
    · exact r.unnil
    · cases h

def mc1 {α : Type} (A : Cod α) : MC α where
  enc x := [A.enc x]
  dec as := match as with
    | [a] => A.dec a
    | _ => none
  val x := [A.val x]
  h1 x := by simp [flatL, A.h1]
  h2 ρ as vs x h r := by
    split at h
    · obtain ⟨v, ys, rfl, h1, h2⟩ := r.uncons
      rw [h2.unnil, A.h2 ρ _ _ _ h h1]
    · cases h

def mc2 {α β : Type} (A : Cod α) (B : Cod β) : MC (α × β) where
  enc x := [A.enc x.1, B.enc x.2]
  dec as := match as with
    | [a, b] => match A.dec a, B.dec b with
      | some x, some y => some (x, y)
      | _, _ => none
    | _ => none
  val x := [A.val x.1, B.val x.2]
  h1 x := by simp [flatL, A.h1, B.h1]
  h2 ρ as vs x h r := by
    split at h
    · split at h
      · rename_i p q hp hq
        simp at h; subst h
        obtain ⟨v, ys, rfl, h1, h2⟩ := r.uncons
        obtain ⟨u, zs, rfl, h3, h4⟩ := h2.uncons
        rw [h4.unnil, A.h2 ρ _ _ _ hp h1, B.h2 ρ _ _ _ hq h3]
      · cases h
    · cases h

/-- The first argument's block is read; the others are exact. -/
def rdp {β γ δ : Type} (t : TypeId) (C : CC γ) (D : MC δ) (B : Cod β) (F : γ → δ → β) : List AV → AH → Option (Bool × AV × AH)
  | .ptr i 0 :: rest, h => match blkDec C t h i, D.dec rest with
    | some x, some z => some (true, B.enc (F x z), [])
    | _, _ => none
  | _, _ => none

theorem rdp_ok {β γ δ : Type} {P : Program} {E : Env} {sym : List Tmp} {lf f : Nat} {c : Code} {fn : Func} (hE : EnvOk P E) (hm : P.follows .mixedOrders = true) (hf : P.funcs.toList[f]? = some fn) (hb : fn.body = some c)
    (hok : codeOk E c = true) {D : MC δ} {C : CC γ} {B : Cod β} {F : γ → δ → β} {t : TypeId}
    (hr : ∀ x z, GivesH (afun P E sym (fun _ => none) lf f (.ptr 0 0 :: D.enc z) (oneAH C t x) 1) (B.val (F x z))) : HeapOk P f (rdp t C D B F) := by
  have key : ∀ {as : List AV} {h : AH} {o : Bool × AV × AH}, rdp t C D B F as h = some o → ∃ i rest x z, as = .ptr i 0 :: rest ∧ D.dec rest = some z ∧ blkDec C t h i = some x ∧ o = (true, B.enc (F x z), []) := by
    intro as h o hg
    unfold rdp at hg
    split at hg
    · rename_i i rest
      split at hg
      · rename_i x z hx hz
        simp at hg
        exact ⟨i, rest, x, z, rfl, hz, hx, hg.symm⟩
      · cases hg
    · cases hg
  have again : ∀ {as : List AV} {h h' : AH} {o : Bool × AV × AH}, rdp t C D B F as h = some o → (∀ i, i ∈ idsOf as → ∀ B, h.get i = some B → h'.get i = some B) → rdp t C D B F as h' = some o := by
    intro as h h' o hg hh
    obtain ⟨i, rest, x, z, rfl, hz, hx, rfl⟩ := key hg
    have hi : i ∈ idsOf (.ptr i 0 :: rest) := by simp [idsOf]
    unfold rdp
    simp only [hz, blkDec_congr (hh i hi) hx]
  refine ⟨?_, fun as h h' x hle hg => again hg (fun i _ B hB => hle i B hB), fun ρ as xs z b h x hx hz hg => again hg (fun i hi B hB => by
      rw [AH.get_cons, if_neg (fun e => hx.ids_ne hz i hi e.symm)] at hB; exact hB), fun as h c' r ups hg => ?_⟩
  · intro F' ρ as xs h r ups w hg hx hw
    obtain ⟨i, rest, x, z, rfl, hz, h1, ho⟩ := key hg
    simp at ho
    obtain ⟨rfl, rfl⟩ := ho
    obtain ⟨u, xs', rfl, hu, hx'⟩ := hx.uncons
    have hpv := D.h2 ρ _ _ _ hz hx'
    subst hpv
    obtain ⟨b, cx, fr, p1, p2, p3, p4, p5⟩ := blk_again hw h1
    let σ : Ren := ⟨fun id => if id = 0 then some b else none, fun _ => cx.size, fun _ => ρ.base i⟩
    have hσ : σ 0 = some b := rfl
    have hRW : RW (frameOf w) σ (oneAH C t x) w := by
      refine ⟨fun id B hB => ?_, fun id id' B B' d hB hB' hwr => ?_, fun _ _ h => h, rfl, rfl, rfl⟩
      · unfold oneAH at hB
        rw [AH.get_cons] at hB
        split at hB
        · rename_i e; subst e; simp at hB; subst hB
          exact ⟨b, _, hσ, p2, ⟨cx, fr, rfl, (fun h => by cases h), p4, fun k a v ha hv => p5 σ k a v ha hv⟩, (fun h => by cases h), rfl⟩
        · simp [AH.get] at hB
      · unfold oneAH at hB
        rw [AH.get_cons] at hB
        split at hB
        · simp at hB; subst hB; cases hwr
        · simp [AH.get] at hB
    cases hu with
    | ptr hsb =>
      rw [p1] at hsb; simp at hsb; subst hsb
      have := afun_calls hE hm hf hb hok (tabOk_none c) (K := fun q _ => flat q = some (B.val (F x z))) (hr x z).out (F := frameOf w) (.cons (show Rv σ (.ptr 0 0) (.pointer (some ⟨b, ρ.base i + 0, none⟩)) from Rv.ptr (ρ := σ) hσ) (Rvs.of_flatL (D.h1 z))) hRW (fun id hid => by show (if id = 0 then some b else none) = none; rw [if_neg (by omega)])
      refine Calls.mono this ?_
      rintro e w' ⟨v', q', h', ρ', rfl, hk', hrv, hrw, _⟩
      have := hrv.flat_eq hk'
      subst this
      exact ⟨_, rfl, .of_flat (B.h1 _), hw.below hrw.to_below⟩
  · obtain ⟨i, rest, x, z, _, _, _, ho⟩ := key hg
    simp at ho
    obtain ⟨_, _, rfl⟩ := ho
    simp

/-! A function that lays one block and hands back a pointer to it, and a number. -/
def layP {α γ : Type} (A : Cod α) (t : TypeId) (C : CC γ) (k : Int) (F : α → γ) : List AV → Nat → Option (Bool × AV × Blk)
  | [a], z => match A.dec a with
    | none => none
    | some x => some (true, .tup [.ptr z 0, .v (.int .i64 k)], ⟨true, t, C.enc (F x)⟩)
  | _, _ => none

def outP (t : TypeId) (q : AV × AH) : AV := match q.1 with
  | .tup [.ptr i 0, k] => match q.2.get i with
    | none => .any
    | some B => match B.wr && Nat.beq B.ty t with
      | true => .tup [.agg B.cs, k]
      | false => .any
  | _ => .any

theorem outP_eq {t : TypeId} {q : AV × AH} {k : AV} {cs : List AV} (h : outP t q = .tup [.agg cs, k]) : ∃ i, q.1 = .tup [.ptr i 0, k] ∧ q.2.get i = some ⟨true, t, cs⟩ := by
  unfold outP at h
  split at h
  · rename_i i k' hq
    split at h
    · cases h
    · rename_i B hB
      split at h
      · rename_i hc
        simp only [Bool.and_eq_true] at hc
        simp at h
        obtain ⟨h2, rfl⟩ := h
        refine ⟨i, hq, ?_⟩
        rw [hB]
        obtain ⟨wr, ty, cs'⟩ := B
        simp at hc h2
        obtain ⟨e1, e2⟩ := hc
        subst e1; subst e2; subst h2
        rfl
      · cases h
  · cases h

def afunQ (P : Program) (E : Env) (sym : List Tmp) (tab : BTab) (lf f : Nat) (t : TypeId) (args : List AV) : Tree AV := (afun P E sym tab lf f args [] 0).bind fun q => .leaf (outP t q)

theorem layP_ok {P : Program} {α γ : Type} {t : TypeId} {A : Cod α} {C : CC γ} {k : Int} {F : α → γ} {f : Nat} {E : Env} {sym : List Tmp} {lf : Nat} {tab : α → BTab} (X : ∀ x, Ctx P E sym (tab x) lf f)
    (hr : ∀ x, (afunQ P E sym (tab x) lf f t [A.enc x]).holds (fun a => a = .tup [.agg (C.enc (F x)), .v (.int .i64 k)])) : LayOk P f (layP A t C k F) := by
  have key : ∀ {as : List AV} {z : Nat} {o : Bool × AV × Blk}, layP A t C k F as z = some o → ∃ a x, as = [a] ∧ A.dec a = some x ∧ o = (true, .tup [.ptr z 0, .v (.int .i64 k)], ⟨true, t, C.enc (F x)⟩) := by
    intro as z o hg
    unfold layP at hg
    split at hg
    · rename_i a
      split at hg
      · cases hg
      · rename_i x hx
        simp at hg
        exact ⟨a, x, rfl, hx, hg.symm⟩
    · cases hg
  constructor
  · intro F' ρ as xs h z r Bz w hg hx hw hz
    obtain ⟨a, x, rfl, hd, ho⟩ := key hg
    simp at ho
    obtain ⟨rfl, rfl⟩ := ho
    obtain ⟨fn, c, hf, hb, hok, htab⟩ := (X x).body
    obtain ⟨v, ys, rfl, hv, hx'⟩ := hx.uncons
    rw [hx'.unnil]
    have e0 := A.h2 ρ _ _ _ hd hv
    subst e0
    have hq := Tree.holds_bind (g := fun q => .leaf (outP t q)) (hr x)
    have := afun_calls (X x).env (X x).mixed hf hb hok htab (K := fun q h' => ∃ i, q = .tup [.ptr i 0, .v (.int .i64 k)] ∧ h'.get i = some ⟨true, t, C.enc (F x)⟩)
      (Tree.holds_mono (fun q hq => outP_eq hq) hq) (F := frameOf w) (ρ := Ren.empty) (xs := [A.val x]) (w := w) (.cons (.of_flat (A.h1 x)) .nil) (RW.init w _) (fun _ _ => rfl)
    refine Calls.mono this ?_
    rintro e w' ⟨u, q, h', ρ', rfl, ⟨i, rfl, hget⟩, hrv, hrw, _⟩
    obtain ⟨b, o, p1, p2, ⟨cx, fr, rfl, p3, p4, p5⟩, p6, p7⟩ := hrw.blk i _ hget
    have pz := (p3 rfl).2
    rw [(p3 rfl).1] at p2
    rw [pz] at p4 p5
    simp only [Nat.zero_add] at p4 p5
    have hnew : w.heap[b]? = none := p6 rfl
    have hrel := rvs_prefix (ρ := ρ') (cs := C.enc (F x)) (xs := cx.toList) (by simpa using p4) (fun i a x ha hx => p5 i a x ha (by simpa using hx))
    have hval := hrel.flats_eq (C.h1 (F x))
    have hF : F'.blocks b = none := by
      cases hb : F'.blocks b with
      | none => rfl
      | some o => have := hw.fr b o hb; rw [hnew] at this; cases this
    obtain ⟨us, rfl, hus⟩ := hrv.tup_iff
    obtain ⟨v0, y0, e0, h0, r0⟩ := hus.uncons
    obtain ⟨v1, y1, e1, h1, r1⟩ := r0.uncons
    have e2 := r1.unnil
    subst e2; subst e1
    cases h0 with
    | ptr hsb =>
      rw [p1] at hsb; simp at hsb; subst hsb
      rw [pz] at e0
      have hv1 : v1 = .int .i64 k := h1.scal_eq (y := .int .i64 k) rfl
      have eus : us = #[.pointer (some ⟨b, 0, none⟩), v1] := by apply Array.ext'; simpa using e0
      rw [eus]
      refine ⟨_, ρ.upd z b cx.size, rfl, Ren.le_upd hz, fun j hj => Ren.upd_ne ρ hj, ?_, ?_⟩
      · exact .tup_mk (.cons .ptrU (.cons (by rw [hv1]; exact .v _) .nil))
      refine (hw.below hrw.to_below).adopt hz hF (fun j B hj e => ?_) t (C.enc (F x)) p2 p4 (fun σ j a v ha hv => ?_)
      · obtain ⟨b', o', q1, q2, _⟩ := hw.blk j B hj
        rw [q1] at e; simp at e; subst e
        rw [hnew] at q2; cases q2
      · have h8 := Rvs.of_flats (ρ := σ) (C.h1 (F x))
        refine h8.2 j a v ha ?_
        rw [← hval, List.getElem?_take, if_pos (List.getElem?_eq_some_iff.1 ha).1]
        simpa using hv

/-- One value alone. -/
def kIs {α : Type} (A : Cod α) (y : α) (eqb : α → α → Bool) (h : ∀ x, eqb x y = true → x = y) : Cod Unit where
  enc _ := A.enc y
  dec a := match A.dec a with
    | some x => bif eqb x y then some () else none
    | none => none
  val _ := A.val y
  h1 _ := A.h1 y
  h2 ρ a v x hd r := by
    split at hd
    · rename_i z hz
      cases hb : eqb z y with
      | false => rw [hb] at hd; cases hd
      | true =>
        rw [A.h2 ρ _ _ _ hz r, h z hb]
    · cases hd

/-! The state at a block's head, behind other loops. -/
def hasB (t : Nat) : Code → Bool
  | .seq a b => hasB t a || hasB t b
  | .cond _ a b => hasB t a || hasB t b
  | .block id c => Nat.beq id t || hasB t c
  | .loop c => hasB t c
  | _ => false

def reachB (P : Program) (E : Env) (sym : List Tmp) (tab : BTab) (lf : Nat) (target : Nat) : Code → XS → Tree (Bool × AExit × XS)
  | .seq a b, x => (reachB P E sym tab lf target a x).bind fun r => match r with
    | (true, e, y) => .leaf (true, e, y)
    | (false, .normal, y) => reachB P E sym tab lf target b y
    | (false, e, y) => .leaf (false, e, y)
  | .cond c a b, x => match boolOf (look x.s.tm c) with
    | some true => reachB P E sym tab lf target a x
    | some false => reachB P E sym tab lf target b x
    | none => .fail
  | .block id c, x => bif Nat.beq id target then .leaf (true, .normal, x) else bif hasB target c then
      (reachB P E sym tab lf target c x).bind fun r => match r with
        | (false, .exit i, y) => bif Nat.beq i id then .leaf (false, .normal, y) else .leaf (false, .exit i, y)
        | r => .leaf r
    else (exec P E sym tab lf (.block id c) x).bind fun (e, y) => .leaf (false, e, y)
  | .loop c, x => reachB P E sym tab lf target c x
  | c, x => (exec P E sym tab lf c x).bind fun (e, y) => .leaf (false, e, y)

def entryB (P : Program) (E : Env) (sym : List Tmp) (tab : BTab) (lf : Nat) (f : Nat) (args : List AV) (h : AH) (n : Nat) (target : Nat) (k : Keep) : XS :=
  match firstT (reachB P E sym tab lf target (bodyOf P f) ⟨⟨args ++ undefs (ntmpsOf P f - args.length), h, true⟩, n⟩) with
  | some x => match trim k.tm k.ids k.n x with
    | some y => y
    | none => default
  | none => default
end Go.Rq
