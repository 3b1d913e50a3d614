/- Points of a curve over any field: the formulas of three elements by the program and by the reference; sums by the slope. -/
import Derived.Test.YtdbcjiggimppdaaRq10
import Derived.Test.YtdbcjiggimppdaaRq08
namespace Go.Rq
set_option synthInstance.maxSize 100000
set_option synthInstance.maxHeartbeats 400000

/-- What is asked of a field: inverses, and that two is not nought. -/
structure Fd (K : Type) [Rg K] (iv : K → K) (e : K → K → Bool) : Prop where
  inv : ∀ {x : K}, x ≠ 0 → x * iv x = 1
  one : (1 : K) ≠ 0
  two : ∀ {y : K}, y + y = 0 → y = 0
  eq : ∀ {x y : K}, e x y = true ↔ x = y

section
variable {K : Type} [Rg K] {iv : K → K} {e : K → K → Bool}

def foK (iv : K → K) : FO K := ⟨fun a b => a + b, fun a b => a - b, fun a b => a * b, fun a => -a, iv, fun a => a, fun a => a, 1, 0⟩

theorem Fd.ne (F : Fd K iv e) {x y : K} (h : x ≠ y) : e x y = false := by
  cases hb : e x y with
  | false => rfl
  | true => exact absurd (F.eq.1 hb) h
theorem Fd.refl (F : Fd K iv e) (x : K) : e x x = true := F.eq.2 rfl
theorem Fd.zero_or (F : Fd K iv e) {x y : K} (h : x * y = 0) : x = 0 ∨ y = 0 := by
  by_cases hx : x = 0
  · exact .inl hx
  · right
    have := F.inv hx
    exact rg2 [x, y, iv x] this (-y) h (iv x)

/-- A small number of times, as the reference reckons it. -/
def tmK (a : K) : Nat → K
  | 0 => 0
  | k + 1 => tmK a k + a

def noneJ : Jp K := ⟨0, 0, 0⟩
def dblF (p : Jp K) : Jp K :=
  let yy := p.y * p.y
  let s := tmK (p.x * yy) 4
  let m := tmK (p.x * p.x) 3
  let x := m * m - tmK s 2
  ⟨x, m * (s - x) - tmK (yy * yy) 8, tmK (p.y * p.z) 2⟩
def dblK (e : K → K → Bool) (p : Jp K) : Jp K := bif e p.z 0 then noneJ else bif e p.y 0 then noneJ else dblF p
def hK (p u : Jp K) : K := u.x * (p.z * p.z) - p.x
def kK (p u : Jp K) : K := u.y * ((p.z * p.z) * p.z) - p.y
def addF (p u : Jp K) : Jp K :=
  let h := hK p u
  let k := kK p u
  let hh := h * h
  let hhh := hh * h
  let v := p.x * hh
  let x := (k * k - hhh) - tmK v 2
  ⟨x, k * (v - x) - p.y * hhh, p.z * h⟩
def addK (e : K → K → Bool) (p u : Jp K) : Jp K := bif e p.z 0 then u else bif e (hK p u) 0 then (bif e (kK p u) 0 then dblK e p else noneJ) else addF p u

/-- The same point: both none, or all alike. -/
def Jeq (p q : Jp K) : Prop := (p.z = 0 ∧ q.z = 0) ∨ p = q
theorem Jeq.refl (p : Jp K) : Jeq p p := .inr rfl
theorem Jeq.symm {p q : Jp K} (h : Jeq p q) : Jeq q p := by
  rcases h with ⟨a, b⟩ | rfl
  · exact .inl ⟨b, a⟩
  · exact .inr rfl
theorem Jeq.trans {p q r : Jp K} (h : Jeq p q) (k : Jeq q r) : Jeq p r := by
  rcases h with ⟨a, b⟩ | rfl
  · rcases k with ⟨c, d⟩ | rfl
    · exact .inl ⟨a, d⟩
    · exact .inl ⟨a, b⟩
  · exact k

theorem Jp.ext3 {V : Type} {p q : Jp V} (hx : p.x = q.x) (hy : p.y = q.y) (hz : p.z = q.z) : p = q := by
  obtain ⟨a, b, c⟩ := p; obtain ⟨d, f, g⟩ := q
  simp at hx hy hz; subst hx hy hz; rfl

theorem twice_z (p : Jp K) : (twiceJ (foK iv) p).z = p.y * p.z + p.y * p.z := rfl

theorem twice_dbl (F : Fd K iv e) {p q : Jp K} (h : Jeq p q) : Jeq (twiceJ (foK iv) p) (dblK e q) := by
  have none_z : ∀ {p : Jp K}, p.z = 0 → (twiceJ (foK iv) p).z = 0 := fun {p} hz => by rw [twice_z, hz]; exact rg [p.y]
  rcases h with ⟨a, b⟩ | rfl
  · refine .inl ⟨none_z a, ?_⟩
    unfold dblK
    rw [F.eq.2 b]; rfl
  · unfold dblK
    by_cases hz : p.z = 0
    · rw [F.eq.2 hz]; exact .inl ⟨none_z hz, rfl⟩
    · rw [F.ne hz]
      by_cases hy : p.y = 0
      · rw [F.eq.2 hy]
        exact .inl ⟨by rw [twice_z, hy]; exact rg [p.z], rfl⟩
      · rw [F.ne hy]
        refine .inr (Jp.ext3 ?_ ?_ ?_)
        · simp only [twiceJ, foK, dblF, tmK, cond_false]; exact rg [p.x, p.y, p.z]
        · simp only [twiceJ, foK, dblF, tmK, cond_false]; exact rg [p.x, p.y, p.z]
        · simp only [twiceJ, foK, dblF, tmK, cond_false]; exact rg [p.x, p.y, p.z]

theorem sum_add (F : Fd K iv e) {f : Fl K} {p q u : Jp K} (h : Jeq p q) (hu : u.z = 1) : Jeq (sumE (foK iv) e f p u) (addK e q u) := by
  have hu0 : u.z ≠ 0 := by rw [hu]; exact F.one
  have zs : ∀ {p : Jp K}, p.z = 0 → sumE (foK iv) e f p u = u := fun {p} hz => by
    unfold sumE
    rw [show (foK iv).zero = (0 : K) from rfl, F.eq.2 hz]; rfl
  have za : ∀ {p : Jp K}, p.z = 0 → addK e p u = u := fun {p} hz => by
    unfold addK
    rw [F.eq.2 hz]; rfl
  rcases h with ⟨a, b⟩ | rfl
  · rw [zs a, za b]; exact .refl _
  · by_cases hz : p.z = 0
    · rw [zs hz, za hz]; exact .refl _
    · unfold sumE addK
      rw [show (foK iv).zero = (0 : K) from rfl, F.ne hz, F.ne hu0]
      have e1 : u.x * (p.z * p.z) - p.x * (1 * 1) = hK p u := by unfold hK; exact rg [p.x, p.z, u.x]
      have e2 : u.y * (p.z * p.z * p.z) - p.y * (1 * 1 * 1) = kK p u := by unfold kK; exact rg [p.y, p.z, u.y]
      rw [show hJ (foK iv) p u = hK p u by simp only [hJ, foK, hu]; exact e1, show rJ (foK iv) p u = kK p u by simp only [rJ, foK, hu]; exact e2]
      simp only [cond_false]
      cases e (hK p u) 0
      · refine .inr (Jp.ext3 ?_ ?_ ?_)
        · simp only [sumJ, foK, addF, tmK, hu, e1, e2, cond_false]; exact rg [p.x, hK p u, kK p u]
        · simp only [sumJ, foK, addF, tmK, hu, e1, e2, cond_false]; exact rg [p.x, p.y, hK p u, kK p u]
        · simp only [sumJ, foK, addF, hu, e1, cond_false]; exact rg [p.z, hK p u]
      · cases e (kK p u) 0
        · exact .inl ⟨rfl, rfl⟩
        · exact twice_dbl F (.refl p)

/-- A multiple by the reference, from bit k - 1 down. -/
def multK (e : K → K → Bool) (b : Nat → Bool) (p : Jp K) : Nat → Jp K → Jp K
  | 0, o => o
  | k + 1, o => multK e b p k (bif b k then addK e (dblK e o) p else dblK e o)

/-- Likewise by the program. -/
def runK (iv : K → K) (e : K → K → Bool) (f : Fl K) (b : Nat → Bool) (p : Jp K) : Nat → Jp K → Jp K
  | 0, o => o
  | k + 1, o => runK iv e f b p k (bif b k then sumE (foK iv) e f (twiceJ (foK iv) o) p else twiceJ (foK iv) o)

theorem run_mult (F : Fd K iv e) {f : Fl K} {b : Nat → Bool} {p : Jp K} (hp : p.z = 1) : ∀ (k : Nat) {u v : Jp K}, Jeq u v → Jeq (runK iv e f b p k u) (multK e b p k v)
  | 0, u, v, h => h
  | k + 1, u, v, h => by
    simp only [runK, multK]
    apply run_mult F hp k
    cases b k
    · exact twice_dbl F h
    · exact sum_add F (twice_dbl F h) hp

theorem mult_noughts (F : Fd K iv e) {b : Nat → Bool} {p : Jp K} {l : Nat} (hb : ∀ i, l ≤ i → b i = false) : ∀ (k : Nat) {v : Jp K}, v.z = 0 → ∃ v' : Jp K, v'.z = 0 ∧ multK e b p (l + k) v = multK e b p l v'
  | 0, v, hv => ⟨v, hv, rfl⟩
  | k + 1, v, hv => by
    have : multK e b p (l + (k + 1)) v = multK e b p (l + k) (dblK e v) := by
      rw [← Nat.add_assoc]
      simp only [multK]
      rw [hb (l + k) (by omega)]
      rfl
    rw [this]
    refine mult_noughts F hb k ?_
    unfold dblK
    rw [F.eq.2 hv]; rfl

/-- However many noughts are ahead: the same multiple. -/
theorem run_mult2 (F : Fd K iv e) {f : Fl K} {b : Nat → Bool} {p : Jp K} (hp : p.z = 1) {l l2 : Nat} (hb : ∀ i, l ≤ i → b i = false) (hb2 : ∀ i, l2 ≤ i → b i = false) {u v : Jp K} (hu : u.z = 0) (hv : v.z = 0) :
    Jeq (runK iv e f b p l u) (multK e b p l2 v) := by
  have any : ∀ {m : Nat} {x y : Jp K}, x.z = 0 → y.z = 0 → Jeq (multK e b p m x) (multK e b p m y) := fun {m x y} hx hy =>
    (run_mult F (f := f) hp m (u := x) (v := x) (.refl x)).symm.trans (run_mult F (f := f) hp m (.inl ⟨hx, hy⟩))
  obtain ⟨v1, h1, e1⟩ := mult_noughts F hb (p := p) l2 (v := v) hv
  obtain ⟨v2, h2, e2⟩ := mult_noughts F hb2 (p := p) l (v := v) hv
  have a1 : Jeq (runK iv e f b p l u) (multK e b p l v1) := run_mult F hp l (.inl ⟨hu, h1⟩)
  rw [← e1, Nat.add_comm, e2] at a1
  exact a1.trans (any h2 hv)

/-- The two elements, as the reference tells them. -/
def lowK (iv : K → K) (e : K → K → Bool) (p : Jp K) : Ap K := bif e p.z 0 then ⟨0, 0, true⟩ else ⟨p.x * (iv p.z * iv p.z), p.y * ((iv p.z * iv p.z) * iv p.z), false⟩
theorem low_eq (F : Fd K iv e) {p q : Jp K} (h : Jeq p q) : lowerE (foK iv) e p = lowK iv e q := by
  unfold lowerE lowK
  rw [show (foK iv).zero = (0 : K) from rfl]
  rcases h with ⟨a, b⟩ | rfl
  · rw [F.eq.2 a, F.eq.2 b]; rfl
  · rfl

/-! Sums by the slope. -/
def eqA (e : K → K → Bool) (a b : Ap K) : Bool := e a.x b.x && (e a.y b.y && (a.zero == b.zero))
def negK (a : Ap K) : Ap K := ⟨a.x, -a.y, a.zero⟩
def chordK (a b : Ap K) (m : K) : Ap K :=
  let x := m * m - a.x - b.x
  ⟨x, m * (a.x - x) - a.y, false⟩
def slope1K (iv : K → K) (a : Ap K) : K := (a.x * a.x + a.x * a.x + a.x * a.x) * iv (a.y + a.y)
def slope2K (iv : K → K) (a b : Ap K) : K := (b.y - a.y) * iv (b.x - a.x)
def sumA (iv : K → K) (e : K → K → Bool) (a b : Ap K) : Ap K := bif a.zero then b else bif b.zero then a else bif eqA e a (negK b) then ⟨0, 0, true⟩ else bif eqA e a b then chordK a b (slope1K iv a) else chordK a b (slope2K iv a b)

theorem Ap.ext3 {V : Type} {p q : Ap V} (hx : p.x = q.x) (hy : p.y = q.y) (hz : p.zero = q.zero) : p = q := by
  obtain ⟨a, b, c⟩ := p; obtain ⟨d, f, g⟩ := q
  simp at hx hy hz; subst hx hy hz; rfl

theorem raise_low (F : Fd K iv e) {f : Fl K} (hf : f.one = 1) {a : Ap K} (ha : a.zero = true → a = ⟨0, 0, true⟩) : lowerE (foK iv) e (raiseJ (foK iv) f a) = a := by
  unfold raiseJ lowerE
  cases hz : a.zero with
  | true =>
    rw [ha hz]
    simp only [cond_true]
    rw [show (foK iv).zero = (0 : K) from rfl, F.refl]; rfl
  | false =>
    simp only [cond_false]
    rw [show (foK iv).zero = (0 : K) from rfl, hf, F.ne F.one]
    have h1 : iv (1 : K) = 1 := by have := F.inv F.one; exact rg1 [iv 1] this 1
    refine Ap.ext3 ?_ ?_ hz.symm
    · simp only [lowerJ, foK, cond_false, h1]; exact rg [a.x]
    · simp only [lowerJ, foK, cond_false, h1]; exact rg [a.y]

theorem iv_mul (F : Fd K iv e) {x i : K} (h : x * i = 1) : iv x = i := by
  have hx : x ≠ 0 := by
    rintro rfl
    exact F.one (rg1 [i] h (-1))
  have := F.inv hx
  exact rg2 [x, i, iv x] h (-iv x) this i

theorem sum_slope (F : Fd K iv e) {f : Fl K} (hf : f.one = 1) {a b : Ap K} (ha : a.zero = true → a = ⟨0, 0, true⟩) (hb : b.zero = true → b = ⟨0, 0, true⟩)
    (hca : a.zero = false → a.y * a.y = a.x * a.x * a.x + f.b) (hcb : b.zero = false → b.y * b.y = b.x * b.x * b.x + f.b) :
    lowerE (foK iv) e (sumE (foK iv) e f (raiseJ (foK iv) f a) (raiseJ (foK iv) f b)) = sumA iv e a b := by
  have z0 : (foK iv).zero = (0 : K) := rfl
  have rz : ∀ {a : Ap K}, a.zero = true → (raiseJ (foK iv) f a).z = 0 := fun {a} h => by unfold raiseJ; rw [h]; rfl
  have rn : ∀ {a : Ap K}, a.zero = false → raiseJ (foK iv) f a = ⟨a.x, a.y, 1⟩ := fun {a} h => by unfold raiseJ; rw [h, hf]; rfl
  unfold sumA
  cases hza : a.zero with
  | true =>
    have : sumE (foK iv) e f (raiseJ (foK iv) f a) (raiseJ (foK iv) f b) = raiseJ (foK iv) f b := by
      unfold sumE
      rw [z0, F.eq.2 (rz hza)]; rfl
    rw [this, raise_low F hf hb]; rfl
  | false =>
    cases hzb : b.zero with
    | true =>
      have : sumE (foK iv) e f (raiseJ (foK iv) f a) (raiseJ (foK iv) f b) = raiseJ (foK iv) f a := by
        unfold sumE
        rw [z0, F.eq.2 (rz hzb), rn hza]
        show (bif e (1 : K) 0 then _ else _) = _
        rw [F.ne F.one]; rfl
      rw [this, raise_low F hf ha]; rfl
    | false =>
      rw [rn hza, rn hzb]
      have ca := hca hza
      have cb := hcb hzb
      obtain ⟨x1, y1, za⟩ := a
      obtain ⟨x2, y2, zb⟩ := b
      simp only at hza hzb ca cb
      subst hza hzb
      simp only [cond_false]
      have hj : hJ (foK iv) ⟨x1, y1, 1⟩ ⟨x2, y2, 1⟩ = x2 - x1 := by simp only [hJ, foK]; exact rg [x1, y1, x2, y2]
      have rj : rJ (foK iv) ⟨x1, y1, 1⟩ ⟨x2, y2, 1⟩ = y2 - y1 := by simp only [rJ, foK]; exact rg [x1, y1, x2, y2]
      have s0 : sumE (foK iv) e f ⟨x1, y1, 1⟩ ⟨x2, y2, 1⟩ = bif e (x2 - x1) 0 then (bif e (y2 - y1) 0 then twiceJ (foK iv) ⟨x1, y1, 1⟩ else ⟨f.one, f.one, (foK iv).zero⟩) else sumJ (foK iv) ⟨x1, y1, 1⟩ ⟨x2, y2, 1⟩ := by
        unfold sumE
        rw [hj, rj, z0]
        show (bif e (1 : K) 0 then _ else bif e (1 : K) 0 then _ else _) = _
        rw [F.ne F.one]; rfl
      rw [s0]
      by_cases hx : x1 = x2
      · subst hx
        rw [show e (x1 - x1) 0 = true from F.eq.2 (rg [x1])]
        simp only [cond_true]
        by_cases hn : y1 = -y2
        · have h1 : eqA e (⟨x1, y1, false⟩ : Ap K) (negK ⟨x1, y2, false⟩) = true := by
            simp [eqA, negK, F.refl, F.eq.2 hn]
          rw [h1, cond_true]
          by_cases hy : y2 - y1 = 0
          · rw [F.eq.2 hy, cond_true]
            have hy0 : y1 = 0 := F.two (rg2 [y1, y2] hn 1 hy (-1))
            subst hy0
            unfold lowerE
            rw [z0, show e (twiceJ (foK iv) ⟨x1, 0, 1⟩).z 0 = true from F.eq.2 (by rw [twice_z]; exact rg ([] : List K))]; rfl
          · rw [F.ne hy, cond_false]
            unfold lowerE
            rw [z0]
            show (bif e (0 : K) 0 then _ else _) = _
            rw [F.refl]; rfl
        · have hs : (y1 - y2) * (y1 + y2) = 0 := rg2 [x1, y1, y2, f.b] ca 1 cb (-1)
          have hy : y1 = y2 := by
            rcases F.zero_or hs with h | h
            · exact rg1 [y1, y2] h 1
            · exact absurd (rg1 [y1, y2] h 1) hn
          subst hy
          have h1 : eqA e (⟨x1, y1, false⟩ : Ap K) (negK ⟨x1, y1, false⟩) = false := by
            simp [eqA, negK, F.ne hn]
          have h2 : eqA e (⟨x1, y1, false⟩ : Ap K) ⟨x1, y1, false⟩ = true := by simp [eqA, F.refl]
          rw [h1, h2, show e (y1 - y1) 0 = true from F.eq.2 (rg [y1])]
          simp only [cond_true, cond_false]
          have hz : y1 + y1 ≠ 0 := fun h => hn (rg1 [y1] h 1)
          have hi := F.inv hz
          generalize hiv : iv (y1 + y1) = i at hi
          have hzz : (twiceJ (foK iv) ⟨x1, y1, 1⟩).z = y1 + y1 := by rw [twice_z]; exact rg [y1]
          unfold lowerE
          rw [z0, hzz, F.ne hz, cond_false]
          refine Ap.ext3 ?_ ?_ rfl
          · simp only [lowerJ]
            rw [hzz]
            simp only [foK, twiceJ, chordK, slope1K, hiv]
            exact rg1 [x1, y1, i] hi (-((x1 + x1) * ((y1 + y1) * i + 1)))
          · simp only [lowerJ]
            rw [hzz]
            simp only [foK, twiceJ, chordK, slope1K, hiv]
            exact rg1 [x1, y1, i] hi ((x1 * x1 + x1 * x1 + x1 * x1) * i * (x1 + x1 + x1) * ((y1 + y1) * i + 1) - y1 * ((y1 + y1) * i * ((y1 + y1) * i) + (y1 + y1) * i + 1))
      · have hz : x2 - x1 ≠ 0 := fun h => hx (rg1 [x1, x2] h (-1))
        have h1 : eqA e (⟨x1, y1, false⟩ : Ap K) (negK ⟨x2, y2, false⟩) = false := by simp [eqA, negK, F.ne hx]
        have h2 : eqA e (⟨x1, y1, false⟩ : Ap K) ⟨x2, y2, false⟩ = false := by simp [eqA, F.ne hx]
        rw [h1, h2, F.ne hz]
        simp only [cond_false]
        have hi := F.inv hz
        generalize hiv : iv (x2 - x1) = i at hi
        have hzz : (sumJ (foK iv) ⟨x1, y1, 1⟩ ⟨x2, y2, 1⟩).z = x2 - x1 := by simp only [sumJ, foK]; exact rg [x1, y1, x2, y2]
        unfold lowerE
        rw [z0, hzz, F.ne hz, cond_false]
        refine Ap.ext3 ?_ ?_ rfl
        · simp only [lowerJ]
          rw [hzz]
          simp only [foK, sumJ, chordK, slope2K, hiv]
          exact rg1 [x1, y1, x2, y2, i] hi (-((x1 + x2) * ((x2 - x1) * i + 1)))
        · simp only [lowerJ]
          rw [hzz]
          simp only [foK, sumJ, chordK, slope2K, hiv]
          exact rg1 [x1, y1, x2, y2, i] hi ((y2 - y1) * i * (x1 + x1 + x2) * ((x2 - x1) * i + 1) - y1 * ((x2 - x1) * i * ((x2 - x1) * i) + (x2 - x1) * i + 1))
end
end Go.Rq

/- The great prime's field; what is reckoned with numbers, as its elements. -/
namespace Go.Rq
open Go

/-! Powers. -/
section
variable {K : Type} [Rg K]

def pwK (x : K) : Nat → K
  | 0 => 1
  | n + 1 => pwK x n * x

theorem pwK_add (x : K) (m : Nat) : ∀ n, pwK x (m + n) = pwK x m * pwK x n
  | 0 => (Rg.mul_one _).symm
  | n + 1 => by
    rw [← Nat.add_assoc]
    simp only [pwK]
    rw [pwK_add x m n, Rg.mul_assoc]
theorem pwK_two (x : K) (n : Nat) : pwK x (2 * n) = pwK x n * pwK x n := by rw [Nat.two_mul, pwK_add]

/-- The number that the lowest k bits tell. -/
def bitsV (b : Nat → Bool) : Nat → Nat
  | 0 => 0
  | k + 1 => bitsV b k + (bif b k then 2 ^ k else 0)

/-- A power, from bit k - 1 down. -/
def pwB (b : Nat → Bool) (x : K) : Nat → K → K
  | 0, n => n
  | k + 1, n => pwB b x k (bif b k then n * n * x else n * n)

theorem pwB_eq (b : Nat → Bool) (x : K) : ∀ (k m : Nat), pwB b x k (pwK x m) = pwK x (m * 2 ^ k + bitsV b k)
  | 0, m => by simp [pwB, bitsV]
  | k + 1, m => by
    simp only [pwB, bitsV]
    have e : m * 2 ^ (k + 1) = 2 * m * 2 ^ k := by rw [Nat.pow_succ, Nat.mul_comm 2 m, Nat.mul_assoc, Nat.mul_comm 2 (2 ^ k)]
    cases hb : b k
    · rw [cond_false, cond_false, ← pwK_two, pwB_eq, e]; congr 1
    · rw [cond_true, cond_true, ← pwK_two, show pwK x (2 * m) * x = pwK x (2 * m + 1) from rfl, pwB_eq, e, Nat.add_mul]
      congr 1
      omega
theorem pwB_one {b : Nat → Bool} {k n : Nat} (h : bitsV b k = n) (x : K) : pwB b x k 1 = pwK x n := by
  have e := pwB_eq b x k 0
  rw [h, Nat.zero_mul, Nat.zero_add] at e
  exact e
end

/-! Numbers below a prime. -/
section
variable {p : Nat} [NeZero p]

theorem fin_add_assoc (x y z : Fin p) : x + y + z = x + (y + z) := by grind
theorem fin_add_comm (x y : Fin p) : x + y = y + x := by grind
theorem fin_add_zero (x : Fin p) : x + 0 = x := by grind
theorem fin_neg_add (x : Fin p) : -x + x = 0 := by grind
theorem fin_mul_assoc (x y z : Fin p) : x * y * z = x * (y * z) := by grind
theorem fin_mul_comm (x y : Fin p) : x * y = y * x := by grind
theorem fin_mul_one (x : Fin p) : x * 1 = x := by grind
theorem fin_mul_add (x y z : Fin p) : x * (y + z) = x * y + x * z := by grind
theorem fin_sub_eq (x y : Fin p) : x - y = x + -y := by grind
instance ringFin : Rg (Fin p) where
  add x y := x + y
  mul x y := x * y
  neg x := -x
  sub x y := x - y
  zero := 0
  one := 1
  add_assoc := fin_add_assoc
  add_comm := fin_add_comm
  add_zero := fin_add_zero
  neg_add := fin_neg_add
  mul_assoc := fin_mul_assoc
  mul_comm := fin_mul_comm
  mul_one := fin_mul_one
  mul_add := fin_mul_add
  sub_eq := fin_sub_eq

theorem pwF_val (x : Fin p) : ∀ n : Nat, (pwK x n).val = x.val ^ n % p
  | 0 => rfl
  | n + 1 => by
    show (pwK x n * x).val = _
    rw [show (pwK x n * x).val = (pwK x n).val * x.val % p from rfl, pwF_val x n, Nat.pow_succ, Nat.mod_mul_mod]

def ivF (x : Fin p) : Fin p := pwK x (p - 2)
def eqF (x y : Fin p) : Bool := Nat.beq x.val y.val

theorem eqF_iff {p : Nat} {x y : Fin p} : eqF x y = true ↔ x = y := by
  unfold eqF
  rw [Nat.beq_eq]
  exact ⟨fun h => Fin.ext h, fun h => by rw [h]⟩

theorem fdF (h : Pr p) (h3 : 3 ≤ p) : Fd (Fin p) ivF eqF where
  inv {x} hx := by
    have hx0 : x.val ≠ 0 := fun e => hx (Fin.ext e)
    have hd : ¬ p ∣ x.val := fun hd => by
      have := Nat.le_of_dvd (by omega) hd
      have := x.isLt
      omega
    have hf := fermat h hd
    apply Fin.ext
    show x.val * (pwK x (p - 2)).val % p = 1 % p
    rw [pwF_val, Nat.mul_mod_mod, Nat.mul_comm, ← Nat.pow_succ, show (p - 2).succ = p - 1 by omega, hf, Nat.mod_eq_of_lt (by omega)]
  one e := by
    have h1 : (1 : Fin p).val = (0 : Fin p).val := by rw [e]
    have h2 : 1 % p = 0 := h1
    rw [Nat.mod_eq_of_lt (by omega)] at h2
    cases h2
  two {y} e := by
    have h1 : (y.val + y.val) % p = 0 := by
      have : (y + y).val = (0 : Fin p).val := by rw [e]
      exact this
    have hy := y.isLt
    apply Fin.ext
    show y.val = 0
    obtain ⟨k, hk⟩ := Nat.dvd_of_mod_eq_zero h1
    have hk2 : k = 0 ∨ k = 1 ∨ 2 ≤ k := by omega
    rcases hk2 with rfl | rfl | hk2
    · omega
    · exfalso
      rcases h.2 2 ⟨y.val, by omega⟩ with h2 | h2 <;> omega
    · have := Nat.mul_le_mul_left p hk2
      omega
  eq := eqF_iff

/-- A number times another one, below p. -/
def phi (r n : Nat) : Fin p := Fin.ofNat p (n * r)
theorem phi_val (r n : Nat) : (phi r n : Fin p).val = n * r % p := rfl
theorem phi_mod (r n : Nat) : (phi r (n % p) : Fin p) = phi r n := Fin.ext (by rw [phi_val, phi_val, Nat.mod_mul_mod])
theorem phi_add (r n m : Nat) : (phi r (n + m) : Fin p) = phi r n + phi r m := Fin.ext (by
  show (n + m) * r % p = (n * r % p + m * r % p) % p
  rw [Nat.add_mul, Nat.add_mod])
theorem phi_mul (r n m : Nat) : (phi r (n * m * r % p) : Fin p) = phi r n * phi r m := Fin.ext (by
  show n * m * r % p * r % p = (n * r % p) * (m * r % p) % p
  rw [Nat.mod_mul_mod, ← Nat.mul_mod]
  congr 1
  simp only [Nat.mul_assoc, Nat.mul_left_comm])
theorem phi_zero (r : Nat) : (phi r 0 : Fin p) = 0 := Fin.ext (by rw [phi_val, Nat.zero_mul]; rfl)
theorem phi_p (r : Nat) : (phi r p : Fin p) = 0 := Fin.ext (by rw [phi_val, Nat.mul_mod_right]; rfl)
theorem phi_sub (r : Nat) {n m : Nat} (h : m ≤ p) : (phi r ((n + (p - m)) % p) : Fin p) = phi r n - phi r m := by
  rw [phi_mod, phi_add]
  have h1 : (phi r (p - m) : Fin p) + phi r m = 0 := by rw [← phi_add, Nat.sub_add_cancel h, phi_p]
  apply rg_cancel (z := phi r m)
  rw [Rg.sub_eq, Rg.add_assoc, Rg.add_assoc, h1, Rg.neg_add]
theorem phi_inj {r R n m : Nat} (hr : R * r % p = 1) (hn : n < p) (hm : m < p) (h : (phi r n : Fin p) = phi r m) : n = m := by
  have h1 : n * r % p = m * r % p := congrArg Fin.val h
  have e : ∀ x, x * r % p * R % p = x % p := fun x => by
    rw [Nat.mod_mul_mod, Nat.mul_assoc, Nat.mul_comm r, Nat.mul_mod, hr, Nat.mul_one, Nat.mod_mod]
  have h2 := e n
  rw [h1, e m, Nat.mod_eq_of_lt hn, Nat.mod_eq_of_lt hm] at h2
  exact h2.symm

/-- A number that stands for an element: below p, and times r that one. -/
structure RK (r : Nat) (x : Fin p) (n : Nat) : Prop where
  lt : n < p
  eq : phi r n = x

theorem rk_eq {r R : Nat} (hr : R * r % p = 1) {x y : Fin p} {n m : Nat} (h : RK r x n) (k : RK r y m) : eqF x y = Nat.beq n m := by
  rw [Bool.eq_iff_iff, eqF_iff, Nat.beq_eq, ← h.eq, ← k.eq]
  exact ⟨fun e => phi_inj hr h.lt k.lt e, fun e => by rw [e]⟩
theorem rk_add {r : Nat} {x y : Fin p} {n m : Nat} (h : RK r x n) (k : RK r y m) : RK r (x + y) ((n + m) % p) := ⟨Nat.mod_lt _ (Nat.zero_lt_of_lt h.lt), by rw [phi_mod, phi_add, h.eq, k.eq]⟩
theorem rk_sub {r : Nat} {x y : Fin p} {n m : Nat} (h : RK r x n) (k : RK r y m) : RK r (x - y) ((n + (p - m)) % p) := ⟨Nat.mod_lt _ (Nat.zero_lt_of_lt h.lt), by rw [phi_sub r (Nat.le_of_lt k.lt), h.eq, k.eq]⟩
theorem rk_mul {r : Nat} {x y : Fin p} {n m : Nat} (h : RK r x n) (k : RK r y m) : RK r (x * y) (n * m * r % p) := ⟨Nat.mod_lt _ (Nat.zero_lt_of_lt h.lt), by rw [phi_mul, h.eq, k.eq]⟩
theorem rk_zero (r : Nat) (hp : 0 < p) : RK r (0 : Fin p) 0 := ⟨hp, phi_zero r⟩
theorem rk_neg {r : Nat} {x : Fin p} {n : Nat} (h : RK r x n) : RK r (-x) ((0 + (p - n)) % p) := by
  have := rk_sub (rk_zero r (Nat.zero_lt_of_lt h.lt)) h
  have e : (0 : Fin p) - x = -x := by rw [Rg.sub_eq]; exact rg_zero_add _
  rw [e] at this
  exact this

/-- A number that is an element. -/
structure RV (x : Fin p) (n : Nat) : Prop where
  eq : n = x.val
theorem RV.lt {p : Nat} {x : Fin p} {n : Nat} (h : RV x n) : n < p := h.eq ▸ x.isLt
theorem RV.of {p : Nat} {n : Nat} (h : n < p) : RV (⟨n, h⟩ : Fin p) n := ⟨rfl⟩
theorem rv_add {p : Nat} {x y : Fin p} {n m : Nat} (h : RV x n) (k : RV y m) : RV (x + y) ((n + m) % p) := ⟨by rw [h.eq, k.eq]; rfl⟩
theorem rv_mul {p : Nat} {x y : Fin p} {n m : Nat} (h : RV x n) (k : RV y m) : RV (x * y) (n * m % p) := ⟨by rw [h.eq, k.eq]; rfl⟩
theorem rv_neg {p : Nat} {x : Fin p} {n : Nat} (h : RV x n) : RV (-x) ((p - n) % p) := ⟨by rw [h.eq]; rfl⟩
theorem rv_sub {x y : Fin p} {n m : Nat} (h : RV x n) (k : RV y m) : RV (x - y) ((n + (p - m) % p) % p) := by
  have := rv_add h (rv_neg k)
  have e : x + -y = x - y := (Rg.sub_eq x y).symm
  rw [e] at this
  exact this
theorem rv_eq {p : Nat} {x y : Fin p} {n m : Nat} (h : RV x n) (k : RV y m) : eqF x y = Nat.beq n m := by rw [h.eq, k.eq]; rfl
/-- From the one to the other. -/
theorem rk_of_rv {r w : Nat} (hw : w * r * r % p = 1) {x : Fin p} {n : Nat} (h : RV x n) : RK r x (w * n * r % p) := by
  refine ⟨Nat.mod_lt _ (Nat.zero_lt_of_lt h.lt), ?_⟩
  rw [phi_mod]
  apply Fin.ext
  rw [phi_val, show w * n * r * r = n * (w * r * r) by simp only [Nat.mul_left_comm, Nat.mul_comm], Nat.mul_mod, hw, Nat.mul_one, Nat.mod_mod, Nat.mod_eq_of_lt h.lt, h.eq]
theorem rv_of_rk {r : Nat} {x : Fin p} {n : Nat} (h : RK r x n) : RV x (n * 1 * r % p) := ⟨by rw [← h.eq, phi_val, Nat.mul_one]⟩
end

/-! The great prime. -/
instance pN_ne : NeZero pN := ⟨Nat.ne_of_gt pN_pos⟩
/-- The field; its operations are those of a ring alone. -/
def F1 : Type := Fin pN
noncomputable instance ringF1 : Rg F1 := ringFin (p := pN)
noncomputable def iv1 : F1 → F1 := ivF (p := pN)
def eq1 : F1 → F1 → Bool := eqF (p := pN)
theorem fd1 : Fd F1 iv1 eq1 := fdF (p := pN) pr_p (by decide +kernel)
theorem iv1_pow (x : F1) : iv1 x = pwK x (pN - 2) := rfl

def RK1 (x : F1) (n : Nat) : Prop := RK (p := pN) rinvN x n
theorem exp_bits : bitsV expInv.bit 384 = pN - 2 := by decide +kernel
theorem rk1_one : RK1 (1 : F1) oneN := ⟨oneN_lt, Fin.ext (by decide +kernel)⟩
theorem rk1_zero : RK1 (0 : F1) 0 := rk_zero (p := pN) rinvN pN_pos
theorem rk1_add {x y : F1} {n m : Nat} (h : RK1 x n) (k : RK1 y m) : RK1 (x + y) (addN n m) := rk_add (p := pN) h k
theorem rk1_sub {x y : F1} {n m : Nat} (h : RK1 x n) (k : RK1 y m) : RK1 (x - y) (subN n m) := rk_sub (p := pN) h k
theorem rk1_mul {x y : F1} {n m : Nat} (h : RK1 x n) (k : RK1 y m) : RK1 (x * y) (mulN n m) := rk_mul (p := pN) h k
theorem rk1_neg {x : F1} {n : Nat} (h : RK1 x n) : RK1 (-x) (negN n) := rk_neg (p := pN) h
theorem rk1_eq {x y : F1} {n m : Nat} (h : RK1 x n) (k : RK1 y m) : eq1 x y = Nat.beq n m := rk_eq (p := pN) rinv_ok h k

theorem rk1_pow {x : F1} {n : Nat} (h : RK1 x n) (e : W6) : ∀ (k : Nat) {y : F1} {m : Nat}, RK1 y m → RK1 (pwB e.bit x k y) (powS n e k m)
  | 0, y, m, hm => hm
  | k + 1, y, m, hm => by
    simp only [powS, pwB, forceN_eq]
    apply rk1_pow h e k
    cases e.bit k
    · rw [cond_false, cond_false]; exact rk1_mul hm hm
    · rw [cond_true, cond_true]; exact rk1_mul (rk1_mul hm hm) h

theorem rk1_inv {x : F1} {n : Nat} (h : RK1 x n) : RK1 (iv1 x) (invN n) := by
  have h1 := rk1_pow h expInv 384 rk1_one
  rw [pwB_one exp_bits, ← iv1_pow] at h1
  exact h1

theorem foK_add {K : Type} [Rg K] {iv : K → K} (x y : K) : (foK iv).add x y = x + y := rfl
theorem foK_sub {K : Type} [Rg K] {iv : K → K} (x y : K) : (foK iv).sub x y = x - y := rfl
theorem foK_mul {K : Type} [Rg K] {iv : K → K} (x y : K) : (foK iv).mul x y = x * y := rfl
theorem foK_neg {K : Type} [Rg K] {iv : K → K} (x : K) : (foK iv).neg x = -x := rfl
theorem foK_inv {K : Type} [Rg K] {iv : K → K} (x : K) : (foK iv).inv x = iv x := rfl
theorem foK_zero {K : Type} [Rg K] {iv : K → K} : (foK iv).zero = (0 : K) := rfl

theorem relF : FRel RK1 (foK iv1) fN eq1 Nat.beq where
  add h k := by rw [foK_add, fN_add]; exact rk1_add h k
  sub h k := by rw [foK_sub, fN_sub]; exact rk1_sub h k
  mul h k := by rw [foK_mul, fN_mul]; exact rk1_mul h k
  neg h := by rw [foK_neg, fN_neg]; exact rk1_neg h
  inv h := by rw [foK_inv, fN_inv]; exact rk1_inv h
  zero := by rw [foK_zero]; exact rk1_zero
  eq h k := rk1_eq h k

theorem FRel.comp {A B C : Type} {R : A → B → Prop} {S : B → C → Prop} {o : FO A} {o' : FO B} {o'' : FO C} {e : A → A → Bool} {e' : B → B → Bool} {e'' : C → C → Bool} (h : FRel R o o' e e') (k : FRel S o' o'' e' e'') :
    FRel (fun a c => ∃ b, R a b ∧ S b c) o o'' e e'' where
  add := fun ⟨_, p1, p2⟩ ⟨_, q1, q2⟩ => ⟨_, h.add p1 q1, k.add p2 q2⟩
  sub := fun ⟨_, p1, p2⟩ ⟨_, q1, q2⟩ => ⟨_, h.sub p1 q1, k.sub p2 q2⟩
  mul := fun ⟨_, p1, p2⟩ ⟨_, q1, q2⟩ => ⟨_, h.mul p1 q1, k.mul p2 q2⟩
  neg := fun ⟨_, p1, p2⟩ => ⟨_, h.neg p1, k.neg p2⟩
  inv := fun ⟨_, p1, p2⟩ => ⟨_, h.inv p1, k.inv p2⟩
  zero := ⟨_, h.zero, k.zero⟩
  eq := fun ⟨_, p1, p2⟩ ⟨_, q1, q2⟩ => by rw [h.eq p1 q1, k.eq p2 q2]

/-- An element as the program keeps it. -/
def RM (x : F1) (w : W6) : Prop := ∃ n, RK1 x n ∧ Rep n w
/-- An element as it is told. -/
def RP (x : F1) (w : W6) : Prop := RV (p := pN) x w.val

theorem relM : FRel RM (foK iv1) fW eq1 eqW := relF.comp relW
theorem rm_one : RM 1 oneW := ⟨oneN, rk1_one, rep_one⟩
theorem rm_zero : RM 0 zeroW := ⟨0, rk1_zero, rep_zero⟩
theorem rp_lt {x : F1} {w : W6} (h : RP x w) : w.val < pN := RV.lt h
theorem rp_of {w : W6} (h : w.val < pN) : ∃ x, RP x w := ⟨(⟨w.val, h⟩ : Fin pN), RV.of h⟩
theorem rp_inj {x : F1} {v w : W6} (h : RP x v) (k : RP x w) : v = w := W6.val_inj (h.eq.trans k.eq.symm)
theorem rp_eq {x y : F1} {v w : W6} (h : RP x v) (k : RP y w) : eq1 x y = eqW v w := by
  have e : eq1 x y = Nat.beq v.val w.val := rv_eq (p := pN) h k
  rw [e, Bool.eq_iff_iff, Nat.beq_eq, eqW_iff]
  exact ⟨fun e => W6.val_inj e, fun e => by rw [e]⟩
theorem wide_one : wideN * rinvN * rinvN % pN = 1 := by decide +kernel
theorem rm_to {x : F1} {w : W6} (h : RP x w) : RM x (toW w) := ⟨toN w.val, rk_of_rv (p := pN) wide_one h, rep_to w⟩
theorem rp_from {x : F1} {w : W6} (h : RM x w) : RP x (fromW w) := by
  obtain ⟨n, h1, h2⟩ := h
  have h3 : RV (p := pN) x (backN n) := rv_of_rk h1
  rw [← rep_back h2] at h3
  exact h3
theorem rp_zero : RP 0 zeroW := ⟨by rw [zero_val]; exact (Nat.zero_mod pN).symm⟩
theorem rp_val {x : F1} {w : W6} {n : Nat} (h : RV (p := pN) x n) (e : w.val = n) : RP x w := by
  unfold RP
  rw [e]
  exact h
theorem rp_of_mul {x y : F1} {a b w : W6} (h : RP x a) (k : RP y b) (e : w.val = a.val * b.val % pN) : RP (x * y) w := rp_val (rv_mul (p := pN) h k) e
theorem rp_of_add {x y : F1} {a b w : W6} (h : RP x a) (k : RP y b) (e : w.val = (a.val + b.val) % pN) : RP (x + y) w := rp_val (rv_add (p := pN) h k) e
theorem rp_of_sub {x y : F1} {a b w : W6} (h : RP x a) (k : RP y b) (e : w.val = (a.val + (pN - b.val) % pN) % pN) : RP (x - y) w := rp_val (rv_sub (p := pN) h k) e
theorem rp_of_neg {x : F1} {a w : W6} (h : RP x a) (e : w.val = (pN - a.val) % pN) : RP (-x) w := rp_val (rv_neg (p := pN) h) e
theorem rp_of_one {w : W6} (e : w.val = 1) : RP 1 w := rp_val (n := 1) ⟨by decide +kernel⟩ e
end Go.Rq

/- The second field: pairs of the first's elements. -/
namespace Go.Rq
open Go

theorem DN.ext2 {V : Type} {x y : DN V} (h : x.a = y.a) (k : x.b = y.b) : x = y := by
  obtain ⟨a, b⟩ := x
  obtain ⟨c, d⟩ := y
  simp at h k
  rw [h, k]

section
variable {K : Type} [Rg K]

def mulD (x y : DN K) : DN K := ⟨x.a * y.a - x.b * y.b, x.a * y.b + x.b * y.a⟩
instance ringD : Rg (DN K) where
  add x y := ⟨x.a + y.a, x.b + y.b⟩
  mul := mulD
  neg x := ⟨-x.a, -x.b⟩
  sub x y := ⟨x.a - y.a, x.b - y.b⟩
  zero := ⟨0, 0⟩
  one := ⟨1, 0⟩
  add_zero x := DN.ext2 (Rg.add_zero x.a) (Rg.add_zero x.b)
  add_comm x y := DN.ext2 (Rg.add_comm x.a y.a) (Rg.add_comm x.b y.b)
  add_assoc x y z := DN.ext2 (Rg.add_assoc x.a y.a z.a) (Rg.add_assoc x.b y.b z.b)
  neg_add x := DN.ext2 (Rg.neg_add x.a) (Rg.neg_add x.b)
  sub_eq x y := DN.ext2 (Rg.sub_eq x.a y.a) (Rg.sub_eq x.b y.b)
  mul_assoc x y z := DN.ext2 (by show (x.a * y.a - x.b * y.b) * z.a - (x.a * y.b + x.b * y.a) * z.b = x.a * (y.a * z.a - y.b * z.b) - x.b * (y.a * z.b + y.b * z.a); exact rg [x.a, x.b, y.a, y.b, z.a, z.b])
    (by show (x.a * y.a - x.b * y.b) * z.b + (x.a * y.b + x.b * y.a) * z.a = x.a * (y.a * z.b + y.b * z.a) + x.b * (y.a * z.a - y.b * z.b); exact rg [x.a, x.b, y.a, y.b, z.a, z.b])
  mul_comm x y := DN.ext2 (by show x.a * y.a - x.b * y.b = y.a * x.a - y.b * x.b; exact rg [x.a, x.b, y.a, y.b]) (by show x.a * y.b + x.b * y.a = y.a * x.b + y.b * x.a; exact rg [x.a, x.b, y.a, y.b])
  mul_one x := DN.ext2 (by show x.a * 1 - x.b * 0 = x.a; exact rg [x.a, x.b]) (by show x.a * 0 + x.b * 1 = x.b; exact rg [x.a, x.b])
  mul_add x y z := DN.ext2 (by show x.a * (y.a + z.a) - x.b * (y.b + z.b) = (x.a * y.a - x.b * y.b) + (x.a * z.a - x.b * z.b); exact rg [x.a, x.b, y.a, y.b, z.a, z.b])
    (by show x.a * (y.b + z.b) + x.b * (y.a + z.a) = (x.a * y.b + x.b * y.a) + (x.a * z.b + x.b * z.a); exact rg [x.a, x.b, y.a, y.b, z.a, z.b])

theorem dn_add (x y : DN K) : x + y = ⟨x.a + y.a, x.b + y.b⟩ := rfl
theorem dn_sub (x y : DN K) : x - y = ⟨x.a - y.a, x.b - y.b⟩ := rfl
theorem dn_mul (x y : DN K) : x * y = ⟨x.a * y.a - x.b * y.b, x.a * y.b + x.b * y.a⟩ := rfl
theorem dn_neg (x : DN K) : -x = ⟨-x.a, -x.b⟩ := rfl
theorem dn_zero : (0 : DN K) = ⟨0, 0⟩ := rfl
theorem dn_one : (1 : DN K) = ⟨1, 0⟩ := rfl

variable {iv : K → K} {e : K → K → Bool}

/-- The inverse, by the norm. -/
def ivD (iv : K → K) (x : DN K) : DN K := ⟨x.a * iv (x.a * x.a + x.b * x.b), -(x.b * iv (x.a * x.a + x.b * x.b))⟩

theorem fdD (F : Fd K iv e) (hn : ∀ a b : K, a * a + b * b = 0 → a = 0 ∧ b = 0) : Fd (DN K) (ivD iv) (beqA e) where
  inv {x} hx := by
    have h0 : x.a * x.a + x.b * x.b ≠ 0 := fun h => hx (by
      obtain ⟨h1, h2⟩ := hn _ _ h
      rw [dn_zero]
      exact DN.ext2 h1 h2)
    have hi := F.inv h0
    rw [dn_mul, dn_one]
    unfold ivD
    generalize iv (x.a * x.a + x.b * x.b) = i at hi
    refine DN.ext2 ?_ ?_
    · show x.a * (x.a * i) - x.b * -(x.b * i) = 1
      exact rg1 [x.a, x.b, i] hi 1
    · show x.a * -(x.b * i) + x.b * (x.a * i) = 0
      exact rg [x.a, x.b, i]
  one h := by
    rw [dn_zero, dn_one] at h
    exact F.one (congrArg DN.a h)
  two {y} h := by
    rw [dn_zero, dn_add] at h
    rw [dn_zero]
    exact DN.ext2 (F.two (congrArg DN.a h)) (F.two (congrArg DN.b h))
  eq {x y} := by
    unfold beqA
    cases h1 : e x.a y.a with
    | false =>
      rw [cond_false]
      constructor
      · intro h; cases h
      · intro h
        rw [h, F.refl] at h1
        cases h1
    | true =>
      have h1 := F.eq.1 h1
      rw [cond_true, F.eq]
      constructor
      · intro h; exact DN.ext2 h1 h
      · intro h; rw [h]

/-- The operations go as they went. -/
theorem relPair {R : K → W6 → Prop} {o : FO W6} (h : FRel R (foK iv) o e eqW) :
    (∀ {a c : DN K} {b d : D6}, RD R a b → RD R c d → RD R (a * c) (mul2 o b d)) ∧ (∀ {a : DN K} {b : D6}, RD R a b → RD R (ivD iv a) (inv2 o b)) := by
  refine ⟨fun {a c b d} p q => ?_, fun {a b} p => ?_⟩
  · have := rd_mul h p q
    rw [show mulA (foK iv) a c = a * c from DN.ext2 rfl (by
      show (a.a + a.b) * (c.a + c.b) - a.a * c.a - a.b * c.b = a.a * c.b + a.b * c.a
      exact rg [a.a, a.b, c.a, c.b])] at this
    exact this
  · have := rd_inv h p
    rw [show invA (foK iv) a = ivD iv a from DN.ext2 rfl (by
      show -a.b * iv (a.a * a.a + a.b * a.b) = -(a.b * iv (a.a * a.a + a.b * a.b))
      exact rg_neg_mul _ _)] at this
    exact this

theorem relPairs {R : K → W6 → Prop} (h : FRel R (foK iv) fW e eqW) : FRel (RD R) (foK (K := DN K) (ivD iv)) fD (beqA e) eqD where
  add := fun p q => by rw [fD_add]; exact rd_add h p q
  sub := fun p q => by rw [fD_sub]; exact rd_sub h p q
  mul := fun p q => by rw [foK_mul, fD_mul]; exact (relPair h).1 p q
  neg := fun p => by rw [fD_neg]; exact rd_neg h p
  inv := fun p => by rw [foK_inv, fD_inv]; exact (relPair h).2 p
  zero := by rw [foK_zero, dn_zero]; exact ⟨h.zero, h.zero⟩
  eq := fun p q => rd_eq h p q

theorem pwK_sq (x : K) : ∀ n : Nat, pwK x (2 * n) = pwK (x * x) n
  | 0 => rfl
  | n + 1 => by
    show pwK x (2 * n + 1 + 1) = pwK (x * x) n * (x * x)
    simp only [pwK]
    rw [pwK_sq x n, Rg.mul_assoc]

theorem pwK_neg : ∀ n : Nat, pwK (-1 : K) (2 * n + 1) = -1
  | 0 => rg_one_mul _
  | n + 1 => by
    show pwK (-1 : K) (2 * n + 1 + 1 + 1) = -1
    rw [pwK, pwK, pwK_neg n]
    exact rg ([] : List K)

/-- Minus one is no square, if the number of elements is 3 above a multiple of four. -/
theorem norm_zero (F : Fd K iv e) {m : Nat} (hiv : ∀ x, iv x = pwK x (2 * (2 * m + 1) - 1)) (a b : K) (h : a * a + b * b = 0) : a = 0 ∧ b = 0 := by
  by_cases hb : b = 0
  · subst hb
    refine ⟨?_, rfl⟩
    rcases F.zero_or (show a * a = 0 from rg1 [a] h 1) with h | h <;> exact h
  · exfalso
    have hi := F.inv hb
    have ht : (a * iv b) * (a * iv b) = -1 := rg2 [a, b, iv b] h (iv b * iv b) hi (-(b * iv b + 1))
    generalize a * iv b = t at ht
    have ht0 : t ≠ 0 := by
      rintro rfl
      exact F.one (rg1 ([] : List K) ht 1)
    have h1 := F.inv ht0
    rw [hiv] at h1
    have h2 : pwK t (2 * (2 * m + 1)) = 1 := by
      have : pwK t (2 * (2 * m + 1) - 1 + 1) = 1 := by rw [Rg.mul_comm] at h1; exact h1
      rw [show 2 * (2 * m + 1) - 1 + 1 = 2 * (2 * m + 1) by omega] at this
      exact this
    rw [pwK_sq, ht, pwK_neg] at h2
    exact F.one (F.two (rg1 ([] : List K) h2 (-1)))
end

theorem norm1 (a b : F1) (h : a * a + b * b = 0) : a = 0 ∧ b = 0 :=
  norm_zero fd1 (m := (pN - 3) / 4) (fun x => by rw [iv1_pow, show pN - 2 = 2 * (2 * ((pN - 3) / 4) + 1) - 1 by decide +kernel]) a b h
theorem fd2 : Fd (DN F1) (ivD iv1) (beqA eq1) := fdD fd1 norm1
end Go.Rq

/- The points of a curve are a group: sums by the slope. -/
namespace Go.Rq
set_option synthInstance.maxSize 100000
set_option synthInstance.maxHeartbeats 400000

section
variable {K : Type} [Rg K] {iv : K → K} {e : K → K → Bool}

/-- A slope of the line by two points of a curve: of the chord, or of what touches it. -/
structure Sl (x1 y1 x2 y2 l : K) : Prop where
  a : y1 - y2 = l * (x1 - x2)
  b : x1 * x1 + x1 * x2 + x2 * x2 = l * (y1 + y2)

def On (b x y : K) : Prop := y * y = x * x * x + b

theorem On.neg {b x y : K} (h : On b x y) : On b x (-y) := by unfold On at *; exact rg1 [x, y, b] h 1

theorem Fd.ne_mul (F : Fd K iv e) {x y : K} (hx : x ≠ 0) (hy : y ≠ 0) : x * y ≠ 0 := fun h => by
  rcases F.zero_or h with h | h
  · exact hx h
  · exact hy h

theorem Fd.cancel (F : Fd K iv e) {x y z : K} (hz : z ≠ 0) (h : x * z = y * z) : x = y := by
  have := F.inv hz
  exact rg2 [x, y, z, iv z] h (iv z) this (y - x)

/-- There is one, if they are not opposite. -/
theorem slope_ex (F : Fd K iv e) {b x1 y1 x2 y2 : K} (h1 : On b x1 y1) (h2 : On b x2 y2) (hn : ¬ (x1 = x2 ∧ y1 = -y2)) : ∃ l, Sl x1 y1 x2 y2 l := by
  unfold On at h1 h2
  by_cases hx : x1 = x2
  · subst hx
    have hy : y1 = y2 := by
      have hs : (y1 - y2) * (y1 + y2) = 0 := rg2 [x1, y1, y2, b] h1 1 h2 (-1)
      rcases F.zero_or hs with h | h
      · exact rg1 [y1, y2] h 1
      · exact absurd ⟨rfl, rg1 [y1, y2] h 1⟩ hn
    subst hy
    have hz : y1 + y1 ≠ 0 := fun h => hn ⟨rfl, rg1 [y1] h 1⟩
    have hi := F.inv hz
    exact ⟨(x1 * x1 + x1 * x1 + x1 * x1) * iv (y1 + y1), rg [x1, y1, iv (y1 + y1)], rg1 [x1, y1, iv (y1 + y1)] hi (-(x1 * x1 + x1 * x1 + x1 * x1))⟩
  · have hz : x1 - x2 ≠ 0 := fun h => hx (rg1 [x1, x2] h 1)
    have hi := F.inv hz
    refine ⟨(y1 - y2) * iv (x1 - x2), rg1 [x1, y1, x2, y2, iv (x1 - x2)] hi (-(y1 - y2)), ?_⟩
    apply F.cancel hz
    exact rg3 [x1, y1, x2, y2, b, iv (x1 - x2)] h1 (-1) h2 1 hi (-((y1 - y2) * (y1 + y2)))

/-- There is but one. -/
theorem slope_one (F : Fd K iv e) {x1 y1 x2 y2 l m : K} (hn : ¬ (x1 = x2 ∧ y1 = -y2)) (h : Sl x1 y1 x2 y2 l) (k : Sl x1 y1 x2 y2 m) : l = m := by
  by_cases hx : x1 = x2
  · have hy : y1 + y2 ≠ 0 := fun h => hn ⟨hx, rg1 [y1, y2] h 1⟩
    apply F.cancel hy
    rw [← h.b, ← k.b]
  · have hz : x1 - x2 ≠ 0 := fun h => hx (rg1 [x1, x2] h 1)
    apply F.cancel hz
    rw [← h.a, ← k.a]

def pt (x y : K) : Ap K := ⟨x, y, false⟩

theorem eqA_iff (F : Fd K iv e) {a b : Ap K} : eqA e a b = true ↔ a = b := by
  obtain ⟨x, y, z⟩ := a
  obtain ⟨u, v, w⟩ := b
  simp [eqA, F.eq]

/-- The sum, by any slope. -/
theorem sum_by (F : Fd K iv e) {b x1 y1 x2 y2 l : K} (h1 : On b x1 y1) (h2 : On b x2 y2) (hn : ¬ (x1 = x2 ∧ y1 = -y2)) (h : Sl x1 y1 x2 y2 l) :
    sumA iv e (pt x1 y1) (pt x2 y2) = pt (l * l - x1 - x2) (l * (x1 - (l * l - x1 - x2)) - y1) := by
  have n1 : eqA e (pt x1 y1) (negK (pt x2 y2)) = false := by
    cases hb : eqA e (pt x1 y1) (negK (pt x2 y2)) with
    | false => rfl
    | true =>
      have := (eqA_iff F).1 hb
      unfold pt negK at this
      have := Ap.mk.inj this
      exact absurd ⟨this.1, this.2.1⟩ hn
  unfold sumA
  rw [n1]
  show (bif eqA e (pt x1 y1) (pt x2 y2) then chordK (pt x1 y1) (pt x2 y2) (slope1K iv (pt x1 y1)) else chordK (pt x1 y1) (pt x2 y2) (slope2K iv (pt x1 y1) (pt x2 y2))) = _
  unfold On at h1 h2
  cases hb : eqA e (pt x1 y1) (pt x2 y2) with
  | true =>
    have := Ap.mk.inj ((eqA_iff F).1 hb)
    obtain ⟨rfl, rfl, -⟩ := this
    have hz : y1 + y1 ≠ 0 := fun h => hn ⟨rfl, rg1 [y1] h 1⟩
    have hi := F.inv hz
    have : l = slope1K iv (pt x1 y1) := slope_one F hn h ⟨by simp only [slope1K, pt]; exact rg [x1, y1, iv (y1 + y1)], by simp only [slope1K, pt]; exact rg1 [x1, y1, iv (y1 + y1)] hi (-(x1 * x1 + x1 * x1 + x1 * x1))⟩
    rw [cond_true, ← this]
    rfl
  | false =>
    have hx : x1 ≠ x2 := by
      intro hx
      subst hx
      have hs : (y1 - y2) * (y1 + y2) = 0 := rg2 [x1, y1, y2, b] h1 1 h2 (-1)
      rcases F.zero_or hs with h | h
      · have : y1 = y2 := rg1 [y1, y2] h 1
        subst this
        rw [(eqA_iff F).2 rfl] at hb
        cases hb
      · exact hn ⟨rfl, rg1 [y1, y2] h 1⟩
    have hz : x2 - x1 ≠ 0 := fun h => hx (rg1 [x1, x2] h (-1))
    have hi := F.inv hz
    have : l = slope2K iv (pt x1 y1) (pt x2 y2) := by
      apply F.cancel hz
      have := h.a
      simp only [slope2K, pt]
      exact rg2 [x1, y1, x2, y2, l, iv (x2 - x1)] this 1 hi (-(y2 - y1))
    rw [cond_false, ← this]
    rfl

theorem sum_opp (F : Fd K iv e) {x y : K} : sumA iv e (pt x y) (pt x (-y)) = ⟨0, 0, true⟩ := by
  have : eqA e (pt x y) (negK (pt x (-y))) = true := by
    rw [eqA_iff F]
    unfold negK pt
    congr 1
    exact rg [y]
  unfold sumA
  rw [this]
  rfl

/-- A point of the curve: none, or two numbers. -/
inductive Pt (b : K) : Ap K → Prop
  | zero : Pt b ⟨0, 0, true⟩
  | of {x y : K} : On b x y → Pt b (pt x y)

theorem sum_zero_l {a : Ap K} : sumA iv e ⟨0, 0, true⟩ a = a := rfl
theorem sum_zero_r (a : Ap K) (ha : a.zero = true → a = ⟨0, 0, true⟩) : sumA iv e a ⟨0, 0, true⟩ = a := by
  unfold sumA
  cases hz : a.zero with
  | true => rw [cond_true]; exact (ha hz).symm
  | false => rfl
theorem Pt.z {b : K} {a : Ap K} (h : Pt b a) : a.zero = true → a = ⟨0, 0, true⟩ := by
  cases h with
  | zero => intro _; rfl
  | of => intro h; cases h
theorem Pt.add0 {b : K} {a : Ap K} (h : Pt b a) : sumA iv e a ⟨0, 0, true⟩ = a := sum_zero_r a h.z

/-- The sum's point lies on the curve. -/
theorem on_sum {b x1 y1 x2 y2 l : K} (h1 : On b x1 y1) (h : Sl x1 y1 x2 y2 l) : On b (l * l - x1 - x2) (l * (x1 - (l * l - x1 - x2)) - y1) := by
  have ha := h.a
  have hb := h.b
  unfold On at *
  exact rg3 [x1, y1, x2, y2, l, b] h1 1 ha (l * (l * l - x1 - x2 - x1)) hb (-(l * l - x1 - x2 - x1))

theorem neg_pt {b : K} {a : Ap K} (h : Pt b a) : Pt b (negK a) := by
  cases h with
  | zero =>
    have : negK (⟨0, 0, true⟩ : Ap K) = ⟨0, 0, true⟩ := by unfold negK; congr 1; exact rg_neg_zero
    rw [this]; exact .zero
  | of h =>
    rename_i x y
    exact .of (x := x) (y := -y) (by unfold On at *; exact rg1 [x, y, b] h 1)

theorem sum_pt (F : Fd K iv e) {b : K} {p q : Ap K} (hp : Pt b p) (hq : Pt b q) : Pt b (sumA iv e p q) := by
  cases hp with
  | zero => exact hq
  | of h1 =>
    cases hq with
    | zero => rw [sum_zero_r _ (fun h => by cases h)]; exact .of h1
    | of h2 =>
      rename_i x1 y1 x2 y2
      by_cases hn : x1 = x2 ∧ y1 = -y2
      · obtain ⟨rfl, rfl⟩ := hn
        have := sum_opp F (x := x1) (y := -y2)
        rw [show - -y2 = y2 from rg_neg_neg y2] at this
        rw [this]; exact .zero
      · obtain ⟨l, hl⟩ := slope_ex F h1 h2 hn
        rw [sum_by F h1 h2 hn hl]
        exact .of (on_sum h1 hl)

theorem sum_comm (F : Fd K iv e) {b : K} {p q : Ap K} (hp : Pt b p) (hq : Pt b q) : sumA iv e p q = sumA iv e q p := by
  cases hp with
  | zero => rw [hq.add0]; rfl
  | of h1 =>
    cases hq with
    | zero => rw [sum_zero_r _ (fun h => by cases h)]; rfl
    | of h2 =>
      rename_i x1 y1 x2 y2
      by_cases hn : x1 = x2 ∧ y1 = -y2
      · obtain ⟨rfl, rfl⟩ := hn
        have e1 := sum_opp F (x := x1) (y := -y2)
        rw [show - -y2 = y2 from rg_neg_neg y2] at e1
        rw [e1, sum_opp F]
      · obtain ⟨l, hl⟩ := slope_ex F h1 h2 hn
        have hl' : Sl x2 y2 x1 y1 l := ⟨by have := hl.a; exact rg1 [x1, y1, x2, y2, l] this (-1), by have := hl.b; exact rg1 [x1, y1, x2, y2, l] this 1⟩
        rw [sum_by F h1 h2 hn hl, sum_by F h2 h1 (fun h => hn ⟨h.1.symm, rg1 [y1, y2] h.2 1⟩) hl']
        have ha := hl.a
        unfold pt
        congr 1
        · exact rg [x1, x2, l]
        · exact rg1 [x1, y1, x2, y2, l] ha (-1)

/-- What is asked of a curve: no point is its own negated one. -/
structure Cv (F : Fd K iv e) (b : K) : Prop where
  y : ∀ {x y : K}, On b x y → y ≠ 0

theorem neg_neg_pt (a : Ap K) : negK (negK a) = a := by
  obtain ⟨x, y, z⟩ := a
  unfold negK
  congr 1
  exact rg_neg_neg y
theorem neg_zero_pt : negK (⟨0, 0, true⟩ : Ap K) = ⟨0, 0, true⟩ := by unfold negK; congr 1; exact rg_neg_zero
theorem neg_of (x y : K) : negK (pt x y) = pt x (-y) := rfl

theorem sum_neg (F : Fd K iv e) {b : K} {p : Ap K} (hp : Pt b p) : sumA iv e p (negK p) = ⟨0, 0, true⟩ := by
  cases hp with
  | zero => rw [neg_zero_pt]; rfl
  | of h => rw [neg_of, sum_opp F]

/-- The negated sum is the sum of the negated ones. -/
theorem neg_sum (F : Fd K iv e) {b : K} {p q : Ap K} (hp : Pt b p) (hq : Pt b q) : negK (sumA iv e p q) = sumA iv e (negK p) (negK q) := by
  cases hp with
  | zero => rw [neg_zero_pt]; rfl
  | of h1 =>
    cases hq with
    | zero => rw [neg_zero_pt, sum_zero_r _ (fun h => by cases h), sum_zero_r _ (fun h => by cases h)]
    | of h2 =>
      rename_i x1 y1 x2 y2
      rw [neg_of, neg_of]
      by_cases hn : x1 = x2 ∧ y1 = -y2
      · obtain ⟨rfl, rfl⟩ := hn
        have e1 := sum_opp F (x := x1) (y := -y2)
        rw [show - -y2 = y2 from rg_neg_neg y2] at e1 ⊢
        rw [e1, neg_zero_pt, sum_opp F]
      · obtain ⟨l, hl⟩ := slope_ex F h1 h2 hn
        have hl' : Sl x1 (-y1) x2 (-y2) (-l) := ⟨by have := hl.a; exact rg1 [x1, y1, x2, y2, l] this (-1), by have := hl.b; exact rg1 [x1, y1, x2, y2, l] this 1⟩
        have g1 := h1.neg
        have g2 := h2.neg
        rw [sum_by F h1 h2 hn hl, sum_by F g1 g2 (fun h => hn ⟨h.1, rg1 [y1, y2] h.2 (-1)⟩) hl', neg_of]
        congr 1
        · exact rg [x1, x2, l]
        · exact rg [x1, y1, x2, l]

/-- What was added is taken away again. -/
theorem sum_cancel (F : Fd K iv e) {b : K} (C : Cv F b) {p q : Ap K} (hp : Pt b p) (hq : Pt b q) : sumA iv e (sumA iv e p q) (negK q) = p := by
  cases hp with
  | zero => rw [sum_zero_l, sum_neg F hq]
  | of h1 =>
    cases hq with
    | zero => rw [neg_zero_pt, sum_zero_r _ (fun h => by cases h), sum_zero_r _ (fun h => by cases h)]
    | of h2 =>
      rename_i x1 y1 x2 y2
      rw [neg_of]
      by_cases hn : x1 = x2 ∧ y1 = -y2
      · obtain ⟨rfl, rfl⟩ := hn
        have e1 := sum_opp F (x := x1) (y := -y2)
        rw [show - -y2 = y2 from rg_neg_neg y2] at e1
        rw [e1, sum_zero_l]
      · obtain ⟨l, hl⟩ := slope_ex F h1 h2 hn
        have h4 := on_sum h1 hl
        have g2 := h2.neg
        rw [sum_by F h1 h2 hn hl]
        have ha := hl.a
        have hb := hl.b
        have hs : Sl (l * l - x1 - x2) (l * (x1 - (l * l - x1 - x2)) - y1) x2 (-y2) (-l) := ⟨rg1 [x1, y1, x2, y2, l] ha (-1), rg1 [x1, y1, x2, y2, l] hb 1⟩
        have hm : ¬ (l * l - x1 - x2 = x2 ∧ l * (x1 - (l * l - x1 - x2)) - y1 = - -y2) := by
          rintro ⟨k1, k2⟩
          have hy := C.y h2
          have : y2 + y2 = 0 := rg3 [x1, y1, x2, y2, l] k1 (-l) k2 (-1) ha (-1)
          exact hy (F.two this)
        rw [sum_by F h4 g2 hm hs]
        unfold pt
        congr 1
        · exact rg [x1, x2, l]
        · exact rg [x1, y1, x2, l]

/-! Brackets. The lines by the first two and by the last two points, l and m their slopes. -/
theorem br_a {x1 x2 x3 y2 l m : K} (h1 : x1 * x1 + x1 * x2 + x2 * x2 = l * (y2 + l * (x1 - x2) + y2)) (h2 : x2 * x2 + x2 * x3 + x3 * x3 = m * (y2 + (y2 + m * (x3 - x2)))) {x4 x5 y4 s : K}
    (e4 : x4 = l * l - x1 - x2) (e5 : x5 = m * m - x2 - x3) (f4 : y4 = l * (x2 - x4) - y2) (es : s = x1 + x5 - x3 - x4) :
    (l - m + (l - m)) * (y4 - (y2 + m * (x3 - x2))) = (s - (l - m) * (l - m)) * (x4 - x3) := by
  subst e4 e5 f4 es
  exact rg2 [x1, x2, x3, y2, l, m] h1 (1 + 1) h2 (-(1 + 1))

theorem br_b {x1 x2 x3 y2 l m : K} (h1 : x1 * x1 + x1 * x2 + x2 * x2 = l * (y2 + l * (x1 - x2) + y2)) (h2 : x2 * x2 + x2 * x3 + x3 * x3 = m * (y2 + (y2 + m * (x3 - x2)))) {x4 x5 y4 s : K}
    (e4 : x4 = l * l - x1 - x2) (e5 : x5 = m * m - x2 - x3) (f4 : y4 = l * (x2 - x4) - y2) (es : s = x1 + x5 - x3 - x4) :
    (l - m + (l - m)) * (x4 * x4 + x4 * x3 + x3 * x3) = (s - (l - m) * (l - m)) * (y4 + (y2 + m * (x3 - x2))) := by
  subst e4 e5 f4 es
  exact rg2 [x1, x2, x3, y2, l, m] h1 (-(m + m)) h2 (l + l)

theorem div_by {D i u N v : K} (hi : D * i = 1) (A : D * u = N * v) : u = N * i * v := rg2 [D, u, N, v, i] A i hi (-u)
theorem mv_a {y1 y2 l x1 x2 : K} (h : y1 - y2 = l * (x1 - x2)) : y1 = y2 + l * (x1 - x2) := rg1 [x1, x2, y1, y2, l] h 1
theorem mv_b {y2 y3 m x2 x3 : K} (h : y2 - y3 = m * (x2 - x3)) : y3 = y2 + m * (x3 - x2) := rg1 [x2, x3, y2, y3, m] h (-1)
theorem mv_c {y1 y2 y4 l x1 x2 x4 : K} (h : y4 = l * (x1 - x4) - y1) (f : y1 = y2 + l * (x1 - x2)) : y4 = l * (x2 - x4) - y2 := rg2 [x1, x2, x4, y1, y2, y4, l] h 1 f (-1)
theorem mv_d {a b c : K} (h : a * a + a * b + b * b = c) : b * b + b * a + a * a = c := rg1 [a, b, c] h 1
theorem mv_e {a b c d : K} (h : a = b - c - d) : a = b - d - c := rg1 [a, b, c, d] h 1
theorem mv_f {r n l m : K} (h : n + l = r + m) : r = n + l - m := rg1 [r, n, l, m] h (-1)
theorem mv_g {x2 x3 m y2 : K} (h : x2 * x2 + x2 * x3 + x3 * x3 = m * (y2 + (y2 + m * (x3 - x2)))) : x3 * x3 + x3 * x2 + x2 * x2 = m * (y2 + m * (x3 - x2) + y2) := rg1 [x2, x3, m, y2] h 1
theorem mv_h {x1 x2 l y2 : K} (h : x1 * x1 + x1 * x2 + x2 * x2 = l * (y2 + l * (x1 - x2) + y2)) : x2 * x2 + x2 * x1 + x1 * x1 = l * (y2 + (y2 + l * (x1 - x2))) := rg1 [x1, x2, l, y2] h 1
theorem mv_i {l m y1 y5 x1 x3 x4 x5 : K} (h : (m - l + (m - l)) * (y5 - y1) = (x3 + x4 - x1 - x5 - (m - l) * (m - l)) * (x5 - x1)) : (l - m + (l - m)) * (y1 - y5) = (x1 + x5 - x3 - x4 + (l - m) * (l - m)) * (x1 - x5) := rg1 [l, m, y1, y5, x1, x3, x4, x5] h 1
theorem mv_j {l m y1 y5 x1 x3 x4 x5 : K} (h : (m - l + (m - l)) * (x5 * x5 + x5 * x1 + x1 * x1) = (x3 + x4 - x1 - x5 - (m - l) * (m - l)) * (y5 + y1)) : (l - m + (l - m)) * (x1 * x1 + x1 * x5 + x5 * x5) = (x1 + x5 - x3 - x4 + (l - m) * (l - m)) * (y1 + y5) := rg1 [l, m, y1, y5, x1, x3, x4, x5] h (-1)
theorem br_y {x1 x2 x3 x4 y1 y2 y3 y4 n r l m X : K} (hX : X = n * n - x4 - x3) (e4 : x4 = l * l - x1 - x2) (g : y4 = y3 + n * (x4 - x3)) (e : r = n + l - m)
    (f1 : y1 = y2 + l * (x1 - x2)) (f3 : y3 = y2 + m * (x3 - x2)) (k : (l - m) * (n + l) = x1 - x3) : n * (x4 - X) - y4 = r * (x1 - X) - y1 := by
  subst e g f1 f3 hX e4
  exact rg1 [x1, x2, x3, y2, n, l, m] k (n - l)
theorem br_n {s d n D i : K} (hi : D * i = 1) (en : n = (s - d) * i) : D * n = s - d := rg2 [s, d, n, D, i] en D hi (s - d)
theorem br_r {s d n D i : K} (hi : D * i = 1) (en : n = (s + d) * i) : D * n = s + d := rg2 [s, d, n, D, i] en D hi (s + d)
theorem br_s {s x1 x2 x3 x4 x5 l m : K} (es : s = x1 + x5 - x3 - x4) (e4 : x4 = l * l - x1 - x2) (e5 : x5 = m * m - x2 - x3) : s = x1 - x3 + (x1 - x3) + m * m - l * l := rg3 [s, x1, x2, x3, x4, x5, l, m] es 1 e4 (-1) e5 1
theorem br_k {s n l m x1 x3 D : K} (q0 : D * n = s - (l - m) * (l - m)) (q1 : s = x1 - x3 + (x1 - x3) + m * m - l * l) (eD : D = l - m + (l - m)) :
    ((l - m) * (n + l) - (x1 - x3)) + ((l - m) * (n + l) - (x1 - x3)) = 0 := rg3 [s, n, l, m, x1, x3, D] q0 1 q1 1 eD (-n)
theorem br_d {s n r l m D : K} (q0 : D * n = s - (l - m) * (l - m)) (q1 : D * r = s + (l - m) * (l - m)) (eD : D = l - m + (l - m)) : (n + l) * D = (r + m) * D := rg3 [s, n, r, l, m, D] q0 1 q1 (-1) eD (l - m)
theorem br_e {s n r l m D : K} (q0 : D * n = s - (l - m) * (l - m)) (q1 : D * r = s + (l - m) * (l - m)) (eD : D = l - m + (l - m)) : ((n + r) * (l - m) - s) + ((n + r) * (l - m) - s) = 0 := rg3 [s, n, r, l, m, D] q0 1 q1 1 eD (-(n + r))
theorem br_x {s n r l m x1 x3 x4 x5 : K} (h : n + l = r + m) (k : (n + r) * (l - m) = s) (es : s = x1 + x5 - x3 - x4) : n * n - x4 - x3 = r * r - x1 - x5 := rg3 [s, n, r, l, m, x1, x3, x4, x5] h (n + r) k (-1) es (-1)
theorem sub_zero_eq {x y : K} (h : x - y = 0) : x = y := rg_sub_eq h

theorem assoc_gen (F : Fd K iv e) {b x1 y1 x2 y2 x3 y3 l m x4 y4 x5 y5 : K} (g1 : On b x1 y1) (g3 : On b x3 y3) (g4 : On b x4 y4) (g5 : On b x5 y5) (hl : Sl x1 y1 x2 y2 l) (hm : Sl x2 y2 x3 y3 m) (hd : l - m ≠ 0)
    (e4 : x4 = l * l - x1 - x2) (f4 : y4 = l * (x1 - x4) - y1) (e5 : x5 = m * m - x2 - x3) (f5 : y5 = m * (x2 - x5) - y2) (n4 : ¬ (x4 = x3 ∧ y4 = -y3)) (n5 : ¬ (x1 = x5 ∧ y1 = -y5)) :
    sumA iv e (pt x4 y4) (pt x3 y3) = sumA iv e (pt x1 y1) (pt x5 y5) := by
  obtain ⟨la, lb⟩ := hl
  obtain ⟨ma, mb⟩ := hm
  have f1 := mv_a la
  have f3 := mv_b ma
  have f4' := mv_c f4 f1
  have h1 : x1 * x1 + x1 * x2 + x2 * x2 = l * (y2 + l * (x1 - x2) + y2) := by rw [lb, ← f1]
  have h2 : x2 * x2 + x2 * x3 + x3 * x3 = m * (y2 + (y2 + m * (x3 - x2))) := by rw [mb, ← f3]
  have hD : l - m + (l - m) ≠ 0 := fun h => hd (F.two h)
  have hi := F.inv hD
  have A := br_a h1 h2 e4 e5 f4' (s := x1 + x5 - x3 - x4) rfl
  have B := br_b h1 h2 e4 e5 f4' (s := x1 + x5 - x3 - x4) rfl
  have A' := br_a (mv_g h2) (mv_h h1) (mv_e e5) (mv_e e4) f5 (s := x3 + x4 - x1 - x5) rfl
  have B' := br_b (mv_g h2) (mv_h h1) (mv_e e5) (mv_e e4) f5 (s := x3 + x4 - x1 - x5) rfl
  rw [← f3] at A B
  rw [← f1] at A' B'
  have A2 := mv_i A'
  have B2 := mv_j B'
  obtain ⟨D, eD⟩ : ∃ D, D = l - m + (l - m) := ⟨_, rfl⟩
  obtain ⟨i, ei⟩ : ∃ i, i = iv D := ⟨_, rfl⟩
  obtain ⟨s, es⟩ : ∃ s, s = x1 + x5 - x3 - x4 := ⟨_, rfl⟩
  rw [← eD, ← ei] at hi
  rw [← eD, ← es] at A B A2 B2
  have sn : Sl x4 y4 x3 y3 ((s - (l - m) * (l - m)) * i) := ⟨div_by hi A, div_by hi B⟩
  have sr : Sl x1 y1 x5 y5 ((s + (l - m) * (l - m)) * i) := ⟨div_by hi A2, div_by hi B2⟩
  rw [sum_by F g4 g3 n4 sn, sum_by F g1 g5 n5 sr]
  obtain ⟨n, en⟩ : ∃ n, n = (s - (l - m) * (l - m)) * i := ⟨_, rfl⟩
  obtain ⟨r, er⟩ : ∃ r, r = (s + (l - m) * (l - m)) * i := ⟨_, rfl⟩
  rw [← en] at sn ⊢
  rw [← er] at sr ⊢
  have q0 := br_n hi en
  have q1 := br_r hi er
  rw [← eD] at hD
  have hnr := F.cancel hD (br_d q0 q1 eD)
  have hX := br_x hnr (sub_zero_eq (F.two (br_e q0 q1 eD))) es
  have k := sub_zero_eq (F.two (br_k q0 (br_s es e4 e5) eD))
  have hY := br_y (X := n * n - x4 - x3) rfl e4 (mv_a sn.a) (mv_f hnr) f1 f3 k
  rw [← hX]
  unfold pt
  congr 1

theorem col_a {x1 x2 x3 x4 y2 l : K} (h1 : x1 * x1 + x1 * x2 + x2 * x2 = l * (y2 + l * (x1 - x2) + y2)) (h2 : x2 * x2 + x2 * x3 + x3 * x3 = l * (y2 + (y2 + l * (x3 - x2)))) (e4 : x4 = l * l - x1 - x2) : (x3 - x1) * (x3 - x4) = 0 := by
  subst e4
  exact rg2 [x1, x2, x3, y2, l] h1 (-1) h2 1
theorem col_b {x3 x4 y2 y3 y4 l x2 : K} (f4 : y4 = l * (x2 - x4) - y2) (f3 : y3 = y2 + l * (x3 - x2)) (h : x3 - x4 = 0) : y4 = -y3 := rg3 [x2, x3, x4, y2, y3, y4, l] f4 1 f3 1 h l
theorem col_c {x1 x2 x3 y1 y2 y3 l : K} (f1 : y1 = y2 + l * (x1 - x2)) (f3 : y3 = y2 + l * (x3 - x2)) (h : x3 - x1 = 0) : y3 = y1 := rg3 [x1, x2, x3, y1, y2, y3, l] f1 (-1) f3 1 h l

/-- Brackets may be put otherwise. -/
theorem sum_assoc (F : Fd K iv e) {b : K} (C : Cv F b) {p q r : Ap K} (hp : Pt b p) (hq : Pt b q) (hr : Pt b r) : sumA iv e (sumA iv e p q) r = sumA iv e p (sumA iv e q r) := by
  -- p + (-p + r) = r
  have back : ∀ {p r : Ap K}, Pt b p → Pt b r → sumA iv e p (sumA iv e (negK p) r) = r := fun {p r} hp hr => by
    rw [sum_comm F (neg_pt hp) hr, sum_comm F hp (sum_pt F hr (neg_pt hp))]
    have := sum_cancel F C hr (neg_pt hp)
    rw [neg_neg_pt] at this
    exact this
  by_cases pq : q = negK p
  · subst pq
    rw [sum_neg F hp, sum_zero_l, back hp hr]
  by_cases qr : r = negK q
  · subst qr
    rw [sum_neg F hq, hp.add0, sum_cancel F C hp hq]
  by_cases pqr : r = negK (sumA iv e p q)
  · have hpq := sum_pt F hp hq
    subst pqr
    rw [sum_neg F hpq]
    have h1 := sum_cancel F C hp hq
    have h2 := neg_sum F hpq (neg_pt hq)
    rw [h1, neg_neg_pt] at h2
    rw [sum_comm F hq (neg_pt hpq), ← h2, sum_neg F hp]
  by_cases qrp : sumA iv e q r = negK p
  · rw [qrp, sum_neg F hp]
    -- r = -(p + q)
    exfalso
    apply pqr
    rw [neg_sum F hp hq, ← qrp, sum_comm F hq hr, sum_cancel F C hr hq]
  cases hp with
  | zero => rw [sum_zero_l, sum_zero_l]
  | of g1 =>
    cases hq with
    | zero => rw [sum_zero_r _ (fun h => by cases h), sum_zero_l]
    | of g2 =>
      cases hr with
      | zero => rw [(sum_pt F (.of g1) (.of g2)).add0, sum_zero_r _ (fun h => by cases h)]
      | of g3 =>
        rename_i x1 y1 x2 y2 x3 y3
        have n1 : ¬ (x1 = x2 ∧ y1 = -y2) := fun h => pq (by
          rw [neg_of]; unfold pt; rw [h.1, h.2]; congr 1; exact (rg_neg_neg _).symm)
        have n2 : ¬ (x2 = x3 ∧ y2 = -y3) := fun h => qr (by
          rw [neg_of]; unfold pt; rw [h.1, h.2]; congr 1; exact (rg_neg_neg _).symm)
        obtain ⟨l, hl⟩ := slope_ex F g1 g2 n1
        obtain ⟨m, hm⟩ := slope_ex F g2 g3 n2
        have s1 := sum_by F g1 g2 n1 hl
        have s2 := sum_by F g2 g3 n2 hm
        have g4 := on_sum g1 hl
        have g5 := on_sum g2 hm
        rw [s1] at pqr ⊢
        rw [s2] at qrp ⊢
        obtain ⟨x4, e4⟩ : ∃ x4, x4 = l * l - x1 - x2 := ⟨_, rfl⟩
        rw [← e4] at g4 pqr ⊢
        obtain ⟨y4, f4⟩ : ∃ y4, y4 = l * (x1 - x4) - y1 := ⟨_, rfl⟩
        rw [← f4] at g4 pqr ⊢
        obtain ⟨x5, e5⟩ : ∃ x5, x5 = m * m - x2 - x3 := ⟨_, rfl⟩
        rw [← e5] at g5 qrp ⊢
        obtain ⟨y5, f5⟩ : ∃ y5, y5 = m * (x2 - x5) - y2 := ⟨_, rfl⟩
        rw [← f5] at g5 qrp ⊢
        have n4 : ¬ (x4 = x3 ∧ y4 = -y3) := fun h => pqr (by
          rw [neg_of]; unfold pt; rw [h.1, h.2]; congr 1; exact (rg_neg_neg _).symm)
        have n5 : ¬ (x1 = x5 ∧ y1 = -y5) := fun h => qrp (by
          rw [neg_of]; unfold pt; rw [h.1, h.2]; congr 1; exact (rg_neg_neg _).symm)
        by_cases hd : l - m = 0
        · have : l = m := sub_zero_eq hd
          subst this
          have f1 := mv_a hl.a
          have f3 := mv_b hm.a
          have f4' := mv_c f4 f1
          have h1 : x1 * x1 + x1 * x2 + x2 * x2 = l * (y2 + l * (x1 - x2) + y2) := by rw [hl.b, ← f1]
          have h2 : x2 * x2 + x2 * x3 + x3 * x3 = l * (y2 + (y2 + l * (x3 - x2))) := by rw [hm.b, ← f3]
          rcases F.zero_or (col_a h1 h2 e4) with h | h
          · have hy := col_c f1 f3 h
            have hx := sub_zero_eq h
            subst hx hy
            have : x5 = x4 := by rw [e4, e5]; exact mv_e rfl
            subst this
            have : y5 = y4 := by rw [f4', f5]
            subst this
            exact sum_comm F (.of g4) (.of g3)
          · exact absurd ⟨(sub_zero_eq h).symm, col_b f4' f3 h⟩ n4
        · exact assoc_gen F g1 g3 g4 g5 hl hm hd e4 f4 e5 f5 n4 n5
end
end Go.Rq
