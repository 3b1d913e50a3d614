/- The points of a curve are a group: sums by the slope. -/
import Derived.Test.YtbamkkbefjgeoaaGreatDoorRq12
import Derived.Test.YtbamkkbefjgeoaaGreatDoorRq11
namespace Go.Rq
set_option synthInstance.maxSize 100000
set_option synthInstance.maxHeartbeats 400000

section
variable {K : Type} [Rg K] {iv : K → K} {e : K → K → Bool}

/-- A slope of the line by two points of a curve: of the chord, or of what touches it. -/
structure Sl (x1 y1 x2 y2 l : K) : Prop where
  a : y1 - y2 = l * (x1 - x2)
  b : x1 * x1 + x1 * x2 + x2 * x2 = l * (y1 + y2)

def On (b x y : K) : Prop := y * y = x * x * x + b

theorem On.neg {b x y : K} (h : On b x y) : On b x (-y) := by unfold On at *; exact rg1 [x, y, b] h 1

theorem Fd.ne_mul (F : Fd K iv e) {x y : K} (hx : x ≠ 0) (hy : y ≠ 0) : x * y ≠ 0 := fun h => by
  rcases F.zero_or h with h | h
  · exact hx h
  · exact hy h

theorem Fd.cancel (F : Fd K iv e) {x y z : K} (hz : z ≠ 0) (h : x * z = y * z) : x = y := by
  have := F.inv hz
  exact rg2 [x, y, z, iv z] h (iv z) this (y - x)

/-- There is one, if they are not opposite. -/
theorem slope_ex (F : Fd K iv e) {b x1 y1 x2 y2 : K} (h1 : On b x1 y1) (h2 : On b x2 y2) (hn : ¬ (x1 = x2 ∧ y1 = -y2)) : ∃ l, Sl x1 y1 x2 y2 l := by
  unfold On at h1 h2
  by_cases hx : x1 = x2
  · subst hx
    have hy : y1 = y2 := by
      have hs : (y1 - y2) * (y1 + y2) = 0 := rg2 [x1, y1, y2, b] h1 1 h2 (-1)
      rcases F.zero_or hs with h | h
      · exact rg1 [y1, y2] h 1
      · exact absurd ⟨rfl, rg1 [y1, y2] h 1⟩ hn
    subst hy
    have hz : y1 + y1 ≠ 0 := fun h => hn ⟨rfl, rg1 [y1] h 1⟩
    have hi := F.inv hz
    exact ⟨(x1 * x1 + x1 * x1 + x1 * x1) * iv (y1 + y1), rg [x1, y1, iv (y1 + y1)], rg1 [x1, y1, iv (y1 + y1)] hi (-(x1 * x1 + x1 * x1 + x1 * x1))⟩
  · have hz : x1 - x2 ≠ 0 := fun h => hx (rg1 [x1, x2] h 1)
    have hi := F.inv hz
    refine ⟨(y1 - y2) * iv (x1 - x2), rg1 [x1, y1, x2, y2, iv (x1 - x2)] hi (-(y1 - y2)), ?_⟩
    apply F.cancel hz
    exact rg3 [x1, y1, x2, y2, b, iv (x1 - x2)] h1 (-1) h2 1 hi (-((y1 - y2) * (y1 + y2)))

/-- There is but one. -/
theorem slope_one (F : Fd K iv e) {x1 y1 x2 y2 l m : K} (hn : ¬ (x1 = x2 ∧ y1 = -y2)) (h : Sl x1 y1 x2 y2 l) (k : Sl x1 y1 x2 y2 m) : l = m := by
  by_cases hx : x1 = x2
  · have hy : y1 + y2 ≠ 0 := fun h => hn ⟨hx, rg1 [y1, y2] h 1⟩
    apply F.cancel hy
    rw [← h.b, ← k.b]
  · have hz : x1 - x2 ≠ 0 := fun h => hx (rg1 [x1, x2] h 1)
    apply F.cancel hz
    rw [← h.a, ← k.a]

def pt (x y : K) : Ap K := ⟨x, y, false⟩

theorem eqA_iff (F : Fd K iv e) {a b : Ap K} : eqA e a b = true ↔ a = b := by
  obtain ⟨x, y, z⟩ := a
  obtain ⟨u, v, w⟩ := b
  simp [eqA, F.eq]

/-- The sum, by any slope. -/
theorem sum_by (F : Fd K iv e) {b x1 y1 x2 y2 l : K} (h1 : On b x1 y1) (h2 : On b x2 y2) (hn : ¬ (x1 = x2 ∧ y1 = -y2)) (h : Sl x1 y1 x2 y2 l) :
    sumA iv e (pt x1 y1) (pt x2 y2) = pt (l * l - x1 - x2) (l * (x1 - (l * l - x1 - x2)) - y1) := by
  have n1 : eqA e (pt x1 y1) (negK (pt x2 y2)) = false := by
    cases hb : eqA e (pt x1 y1) (negK (pt x2 y2)) with
    | false => rfl
    | true =>
      have := (eqA_iff F).1 hb
      unfold pt negK at this
      have := Ap.mk.inj this
      exact absurd ⟨this.1, this.2.1⟩ hn
  unfold sumA
  rw [n1]
  show (bif eqA e (pt x1 y1) (pt x2 y2) then chordK (pt x1 y1) (pt x2 y2) (slope1K iv (pt x1 y1)) else chordK (pt x1 y1) (pt x2 y2) (slope2K iv (pt x1 y1) (pt x2 y2))) = _
  unfold On at h1 h2
  cases hb : eqA e (pt x1 y1) (pt x2 y2) with
  | true =>
    have := Ap.mk.inj ((eqA_iff F).1 hb)
    obtain ⟨rfl, rfl, -⟩ := this
    have hz : y1 + y1 ≠ 0 := fun h => hn ⟨rfl, rg1 [y1] h 1⟩
    have hi := F.inv hz
    have : l = slope1K iv (pt x1 y1) := slope_one F hn h ⟨by simp only [slope1K, pt]; exact rg [x1, y1, iv (y1 + y1)], by simp only [slope1K, pt]; exact rg1 [x1, y1, iv (y1 + y1)] hi (-(x1 * x1 + x1 * x1 + x1 * x1))⟩
    rw [cond_true, ← this]
    rfl
  | false =>
    have hx : x1 ≠ x2 := by
      intro hx
      subst hx
      have hs : (y1 - y2) * (y1 + y2) = 0 := rg2 [x1, y1, y2, b] h1 1 h2 (-1)
      rcases F.zero_or hs with h | h
      · have : y1 = y2 := rg1 [y1, y2] h 1
        subst this
        rw [(eqA_iff F).2 rfl] at hb
        cases hb
      · exact hn ⟨rfl, rg1 [y1, y2] h 1⟩
    have hz : x2 - x1 ≠ 0 := fun h => hx (rg1 [x1, x2] h (-1))
    have hi := F.inv hz
    have : l = slope2K iv (pt x1 y1) (pt x2 y2) := by
      apply F.cancel hz
      have := h.a
      simp only [slope2K, pt]
      exact rg2 [x1, y1, x2, y2, l, iv (x2 - x1)] this 1 hi (-(y2 - y1))
    rw [cond_false, ← this]
    rfl

theorem sum_opp (F : Fd K iv e) {x y : K} : sumA iv e (pt x y) (pt x (-y)) = ⟨0, 0, true⟩ := by
  have : eqA e (pt x y) (negK (pt x (-y))) = true := by
    rw [eqA_iff F]
    unfold negK pt
    congr 1
    exact rg [y]
  unfold sumA
  rw [this]
  rfl

/-- A point of the curve: none, or two numbers. -/
inductive Pt (b : K) : Ap K → Prop
  | zero : Pt b ⟨0, 0, true⟩
  | of {x y : K} : On b x y → Pt b (pt x y)

theorem sum_zero_l {a : Ap K} : sumA iv e ⟨0, 0, true⟩ a = a := rfl
theorem sum_zero_r (a : Ap K) (ha : a.zero = true → a = ⟨0, 0, true⟩) : sumA iv e a ⟨0, 0, true⟩ = a := by
  unfold sumA
  cases hz : a.zero with
  | true => rw [cond_true]; exact (ha hz).symm
  | false => rfl
theorem Pt.z {b : K} {a : Ap K} (h : Pt b a) : a.zero = true → a = ⟨0, 0, true⟩ := by
  cases h with
  | zero => intro _; rfl
  | of => intro h; cases h
theorem Pt.add0 {b : K} {a : Ap K} (h : Pt b a) : sumA iv e a ⟨0, 0, true⟩ = a := sum_zero_r a h.z

/-- The sum's point lies on the curve. -/
theorem on_sum {b x1 y1 x2 y2 l : K} (h1 : On b x1 y1) (h : Sl x1 y1 x2 y2 l) : On b (l * l - x1 - x2) (l * (x1 - (l * l - x1 - x2)) - y1) := by
  have ha := h.a
  have hb := h.b
  unfold On at *
  exact rg3 [x1, y1, x2, y2, l, b] h1 1 ha (l * (l * l - x1 - x2 - x1)) hb (-(l * l - x1 - x2 - x1))

theorem neg_pt {b : K} {a : Ap K} (h : Pt b a) : Pt b (negK a) := by
  cases h with
  | zero =>
    have : negK (⟨0, 0, true⟩ : Ap K) = ⟨0, 0, true⟩ := by unfold negK; congr 1; exact rg_neg_zero
    rw [this]; exact .zero
  | of h =>
    rename_i x y
    exact .of (x := x) (y := -y) (by unfold On at *; exact rg1 [x, y, b] h 1)

theorem sum_pt (F : Fd K iv e) {b : K} {p q : Ap K} (hp : Pt b p) (hq : Pt b q) : Pt b (sumA iv e p q) := by
  cases hp with
  | zero => exact hq
  | of h1 =>
    cases hq with
    | zero => rw [sum_zero_r _ (fun h => by cases h)]; exact .of h1
    | of h2 =>
      rename_i x1 y1 x2 y2
      by_cases hn : x1 = x2 ∧ y1 = -y2
      · obtain ⟨rfl, rfl⟩ := hn
        have := sum_opp F (x := x1) (y := -y2)
        rw [show - -y2 = y2 from rg_neg_neg y2] at this
        rw [this]; exact .zero
      · obtain ⟨l, hl⟩ := slope_ex F h1 h2 hn
        rw [sum_by F h1 h2 hn hl]
        exact .of (on_sum h1 hl)

theorem sum_comm (F : Fd K iv e) {b : K} {p q : Ap K} (hp : Pt b p) (hq : Pt b q) : sumA iv e p q = sumA iv e q p := by
  cases hp with
  | zero => rw [hq.add0]; rfl
  | of h1 =>
    cases hq with
    | zero => rw [sum_zero_r _ (fun h => by cases h)]; rfl
    | of h2 =>
      rename_i x1 y1 x2 y2
      by_cases hn : x1 = x2 ∧ y1 = -y2
      · obtain ⟨rfl, rfl⟩ := hn
        have e1 := sum_opp F (x := x1) (y := -y2)
        rw [show - -y2 = y2 from rg_neg_neg y2] at e1
        rw [e1, sum_opp F]
      · obtain ⟨l, hl⟩ := slope_ex F h1 h2 hn
        have hl' : Sl x2 y2 x1 y1 l := ⟨by have := hl.a; exact rg1 [x1, y1, x2, y2, l] this (-1), by have := hl.b; exact rg1 [x1, y1, x2, y2, l] this 1⟩
        rw [sum_by F h1 h2 hn hl, sum_by F h2 h1 (fun h => hn ⟨h.1.symm, rg1 [y1, y2] h.2 1⟩) hl']
        have ha := hl.a
        unfold pt
        congr 1
        · exact rg [x1, x2, l]
        · exact rg1 [x1, y1, x2, y2, l] ha (-1)

/-- What is asked of a curve: no point is its own negated one. -/
structure Cv (F : Fd K iv e) (b : K) : Prop where
  y : ∀ {x y : K}, On b x y → y ≠ 0

theorem neg_neg_pt (a : Ap K) : negK (negK a) = a := by
  obtain ⟨x, y, z⟩ := a
  unfold negK
  congr 1
  exact rg_neg_neg y
theorem neg_zero_pt : negK (⟨0, 0, true⟩ : Ap K) = ⟨0, 0, true⟩ := by unfold negK; congr 1; exact rg_neg_zero
theorem neg_of (x y : K) : negK (pt x y) = pt x (-y) := rfl

theorem sum_neg (F : Fd K iv e) {b : K} {p : Ap K} (hp : Pt b p) : sumA iv e p (negK p) = ⟨0, 0, true⟩ := by
  cases hp with
  | zero => rw [neg_zero_pt]; rfl
  | of h => rw [neg_of, sum_opp F]

/-- The negated sum is the sum of the negated ones. -/
theorem neg_sum (F : Fd K iv e) {b : K} {p q : Ap K} (hp : Pt b p) (hq : Pt b q) : negK (sumA iv e p q) = sumA iv e (negK p) (negK q) := by
  cases hp with
  | zero => rw [neg_zero_pt]; rfl
  | of h1 =>
    cases hq with
    | zero => rw [neg_zero_pt, sum_zero_r _ (fun h => by cases h), sum_zero_r _ (fun h => by cases h)]
    | of h2 =>
      rename_i x1 y1 x2 y2
      rw [neg_of, neg_of]
      by_cases hn : x1 = x2 ∧ y1 = -y2
      · obtain ⟨rfl, rfl⟩ := hn
        have e1 := sum_opp F (x := x1) (y := -y2)
        rw [show - -y2 = y2 from rg_neg_neg y2] at e1 ⊢
        rw [e1, neg_zero_pt, sum_opp F]
      · obtain ⟨l, hl⟩ := slope_ex F h1 h2 hn
        have hl' : Sl x1 (-y1) x2 (-y2) (-l) := ⟨by have := hl.a; exact rg1 [x1, y1, x2, y2, l] this (-1), by have := hl.b; exact rg1 [x1, y1, x2, y2, l] this 1⟩
        have g1 := h1.neg
        have g2 := h2.neg
        rw [sum_by F h1 h2 hn hl, sum_by F g1 g2 (fun h => hn ⟨h.1, rg1 [y1, y2] h.2 (-1)⟩) hl', neg_of]
        congr 1
        · exact rg [x1, x2, l]
        · exact rg [x1, y1, x2, l]

/-- What was added is taken away again. -/
theorem sum_cancel (F : Fd K iv e) {b : K} (C : Cv F b) {p q : Ap K} (hp : Pt b p) (hq : Pt b q) : sumA iv e (sumA iv e p q) (negK q) = p := by
  cases hp with
  | zero => rw [sum_zero_l, sum_neg F hq]
  | of h1 =>
    cases hq with
    | zero => rw [neg_zero_pt, sum_zero_r _ (fun h => by cases h), sum_zero_r _ (fun h => by cases h)]
    | of h2 =>
      rename_i x1 y1 x2 y2
      rw [neg_of]
      by_cases hn : x1 = x2 ∧ y1 = -y2
      · obtain ⟨rfl, rfl⟩ := hn
        have e1 := sum_opp F (x := x1) (y := -y2)
        rw [show - -y2 = y2 from rg_neg_neg y2] at e1
        rw [e1, sum_zero_l]
      · obtain ⟨l, hl⟩ := slope_ex F h1 h2 hn
        have h4 := on_sum h1 hl
        have g2 := h2.neg
        rw [sum_by F h1 h2 hn hl]
        have ha := hl.a
        have hb := hl.b
        have hs : Sl (l * l - x1 - x2) (l * (x1 - (l * l - x1 - x2)) - y1) x2 (-y2) (-l) := ⟨rg1 [x1, y1, x2, y2, l] ha (-1), rg1 [x1, y1, x2, y2, l] hb 1⟩
        have hm : ¬ (l * l - x1 - x2 = x2 ∧ l * (x1 - (l * l - x1 - x2)) - y1 = - -y2) := by
          rintro ⟨k1, k2⟩
          have hy := C.y h2
          have : y2 + y2 = 0 := rg3 [x1, y1, x2, y2, l] k1 (-l) k2 (-1) ha (-1)
          exact hy (F.two this)
        rw [sum_by F h4 g2 hm hs]
        unfold pt
        congr 1
        · exact rg [x1, x2, l]
        · exact rg [x1, y1, x2, l]

/-! Brackets. The lines by the first two and by the last two points, l and m their slopes. -/
theorem br_a {x1 x2 x3 y2 l m : K} (h1 : x1 * x1 + x1 * x2 + x2 * x2 = l * (y2 + l * (x1 - x2) + y2)) (h2 : x2 * x2 + x2 * x3 + x3 * x3 = m * (y2 + (y2 + m * (x3 - x2)))) {x4 x5 y4 s : K}
    (e4 : x4 = l * l - x1 - x2) (e5 : x5 = m * m - x2 - x3) (f4 : y4 = l * (x2 - x4) - y2) (es : s = x1 + x5 - x3 - x4) :
    (l - m + (l - m)) * (y4 - (y2 + m * (x3 - x2))) = (s - (l - m) * (l - m)) * (x4 - x3) := by
  subst e4 e5 f4 es
  exact rg2 [x1, x2, x3, y2, l, m] h1 (1 + 1) h2 (-(1 + 1))

theorem br_b {x1 x2 x3 y2 l m : K} (h1 : x1 * x1 + x1 * x2 + x2 * x2 = l * (y2 + l * (x1 - x2) + y2)) (h2 : x2 * x2 + x2 * x3 + x3 * x3 = m * (y2 + (y2 + m * (x3 - x2)))) {x4 x5 y4 s : K}
    (e4 : x4 = l * l - x1 - x2) (e5 : x5 = m * m - x2 - x3) (f4 : y4 = l * (x2 - x4) - y2) (es : s = x1 + x5 - x3 - x4) :
    (l - m + (l - m)) * (x4 * x4 + x4 * x3 + x3 * x3) = (s - (l - m) * (l - m)) * (y4 + (y2 + m * (x3 - x2))) := by
  subst e4 e5 f4 es
  exact rg2 [x1, x2, x3, y2, l, m] h1 (-(m + m)) h2 (l + l)

theorem div_by {D i u N v : K} (hi : D * i = 1) (A : D * u = N * v) : u = N * i * v := rg2 [D, u, N, v, i] A i hi (-u)
theorem mv_a {y1 y2 l x1 x2 : K} (h : y1 - y2 = l * (x1 - x2)) : y1 = y2 + l * (x1 - x2) := rg1 [x1, x2, y1, y2, l] h 1
theorem mv_b {y2 y3 m x2 x3 : K} (h : y2 - y3 = m * (x2 - x3)) : y3 = y2 + m * (x3 - x2) := rg1 [x2, x3, y2, y3, m] h (-1)
theorem mv_c {y1 y2 y4 l x1 x2 x4 : K} (h : y4 = l * (x1 - x4) - y1) (f : y1 = y2 + l * (x1 - x2)) : y4 = l * (x2 - x4) - y2 := rg2 [x1, x2, x4, y1, y2, y4, l] h 1 f (-1)
theorem mv_e {a b c d : K} (h : a = b - c - d) : a = b - d - c := rg1 [a, b, c, d] h 1
theorem mv_f {r n l m : K} (h : n + l = r + m) : r = n + l - m := rg1 [r, n, l, m] h (-1)
theorem mv_g {x2 x3 m y2 : K} (h : x2 * x2 + x2 * x3 + x3 * x3 = m * (y2 + (y2 + m * (x3 - x2)))) : x3 * x3 + x3 * x2 + x2 * x2 = m * (y2 + m * (x3 - x2) + y2) := rg1 [x2, x3, m, y2] h 1
theorem mv_h {x1 x2 l y2 : K} (h : x1 * x1 + x1 * x2 + x2 * x2 = l * (y2 + l * (x1 - x2) + y2)) : x2 * x2 + x2 * x1 + x1 * x1 = l * (y2 + (y2 + l * (x1 - x2))) := rg1 [x1, x2, l, y2] h 1
theorem mv_i {l m y1 y5 x1 x3 x4 x5 : K} (h : (m - l + (m - l)) * (y5 - y1) = (x3 + x4 - x1 - x5 - (m - l) * (m - l)) * (x5 - x1)) : (l - m + (l - m)) * (y1 - y5) = (x1 + x5 - x3 - x4 + (l - m) * (l - m)) * (x1 - x5) := rg1 [l, m, y1, y5, x1, x3, x4, x5] h 1
theorem mv_j {l m y1 y5 x1 x3 x4 x5 : K} (h : (m - l + (m - l)) * (x5 * x5 + x5 * x1 + x1 * x1) = (x3 + x4 - x1 - x5 - (m - l) * (m - l)) * (y5 + y1)) : (l - m + (l - m)) * (x1 * x1 + x1 * x5 + x5 * x5) = (x1 + x5 - x3 - x4 + (l - m) * (l - m)) * (y1 + y5) := rg1 [l, m, y1, y5, x1, x3, x4, x5] h (-1)
theorem br_y {x1 x2 x3 x4 y1 y2 y3 y4 n r l m X : K} (hX : X = n * n - x4 - x3) (e4 : x4 = l * l - x1 - x2) (g : y4 = y3 + n * (x4 - x3)) (e : r = n + l - m)
    (f1 : y1 = y2 + l * (x1 - x2)) (f3 : y3 = y2 + m * (x3 - x2)) (k : (l - m) * (n + l) = x1 - x3) : n * (x4 - X) - y4 = r * (x1 - X) - y1 := by
  subst e g f1 f3 hX e4
  exact rg1 [x1, x2, x3, y2, n, l, m] k (n - l)
theorem br_n {s d n D i : K} (hi : D * i = 1) (en : n = (s - d) * i) : D * n = s - d := rg2 [s, d, n, D, i] en D hi (s - d)
theorem br_r {s d n D i : K} (hi : D * i = 1) (en : n = (s + d) * i) : D * n = s + d := rg2 [s, d, n, D, i] en D hi (s + d)
theorem br_s {s x1 x2 x3 x4 x5 l m : K} (es : s = x1 + x5 - x3 - x4) (e4 : x4 = l * l - x1 - x2) (e5 : x5 = m * m - x2 - x3) : s = x1 - x3 + (x1 - x3) + m * m - l * l := rg3 [s, x1, x2, x3, x4, x5, l, m] es 1 e4 (-1) e5 1
theorem br_k {s n l m x1 x3 D : K} (q0 : D * n = s - (l - m) * (l - m)) (q1 : s = x1 - x3 + (x1 - x3) + m * m - l * l) (eD : D = l - m + (l - m)) :
    ((l - m) * (n + l) - (x1 - x3)) + ((l - m) * (n + l) - (x1 - x3)) = 0 := rg3 [s, n, l, m, x1, x3, D] q0 1 q1 1 eD (-n)
theorem br_d {s n r l m D : K} (q0 : D * n = s - (l - m) * (l - m)) (q1 : D * r = s + (l - m) * (l - m)) (eD : D = l - m + (l - m)) : (n + l) * D = (r + m) * D := rg3 [s, n, r, l, m, D] q0 1 q1 (-1) eD (l - m)
theorem br_e {s n r l m D : K} (q0 : D * n = s - (l - m) * (l - m)) (q1 : D * r = s + (l - m) * (l - m)) (eD : D = l - m + (l - m)) : ((n + r) * (l - m) - s) + ((n + r) * (l - m) - s) = 0 := rg3 [s, n, r, l, m, D] q0 1 q1 1 eD (-(n + r))
theorem br_x {s n r l m x1 x3 x4 x5 : K} (h : n + l = r + m) (k : (n + r) * (l - m) = s) (es : s = x1 + x5 - x3 - x4) : n * n - x4 - x3 = r * r - x1 - x5 := rg3 [s, n, r, l, m, x1, x3, x4, x5] h (n + r) k (-1) es (-1)
theorem sub_zero_eq {x y : K} (h : x - y = 0) : x = y := rg_sub_eq h

theorem assoc_gen (F : Fd K iv e) {b x1 y1 x2 y2 x3 y3 l m x4 y4 x5 y5 : K} (g1 : On b x1 y1) (g3 : On b x3 y3) (g4 : On b x4 y4) (g5 : On b x5 y5) (hl : Sl x1 y1 x2 y2 l) (hm : Sl x2 y2 x3 y3 m) (hd : l - m ≠ 0)
    (e4 : x4 = l * l - x1 - x2) (f4 : y4 = l * (x1 - x4) - y1) (e5 : x5 = m * m - x2 - x3) (f5 : y5 = m * (x2 - x5) - y2) (n4 : ¬ (x4 = x3 ∧ y4 = -y3)) (n5 : ¬ (x1 = x5 ∧ y1 = -y5)) :
    sumA iv e (pt x4 y4) (pt x3 y3) = sumA iv e (pt x1 y1) (pt x5 y5) := by
  obtain ⟨la, lb⟩ := hl
  obtain ⟨ma, mb⟩ := hm
  have f1 := mv_a la
  have f3 := mv_b ma
  have f4' := mv_c f4 f1
  have h1 : x1 * x1 + x1 * x2 + x2 * x2 = l * (y2 + l * (x1 - x2) + y2) := by rw [lb, ← f1]
  have h2 : x2 * x2 + x2 * x3 + x3 * x3 = m * (y2 + (y2 + m * (x3 - x2))) := by rw [mb, ← f3]
  have hD : l - m + (l - m) ≠ 0 := fun h => hd (F.two h)
  have hi := F.inv hD
  have A := br_a h1 h2 e4 e5 f4' (s := x1 + x5 - x3 - x4) rfl
  have B := br_b h1 h2 e4 e5 f4' (s := x1 + x5 - x3 - x4) rfl
  have A' := br_a (mv_g h2) (mv_h h1) (mv_e e5) (mv_e e4) f5 (s := x3 + x4 - x1 - x5) rfl
  have B' := br_b (mv_g h2) (mv_h h1) (mv_e e5) (mv_e e4) f5 (s := x3 + x4 - x1 - x5) rfl
  rw [← f3] at A B
  rw [← f1] at A' B'
  have A2 := mv_i A'
  have B2 := mv_j B'
  obtain ⟨D, eD⟩ : ∃ D, D = l - m + (l - m) := ⟨_, rfl⟩
  obtain ⟨i, ei⟩ : ∃ i, i = iv D := ⟨_, rfl⟩
  obtain ⟨s, es⟩ : ∃ s, s = x1 + x5 - x3 - x4 := ⟨_, rfl⟩
  rw [← eD, ← ei] at hi
  rw [← eD, ← es] at A B A2 B2
  have sn : Sl x4 y4 x3 y3 ((s - (l - m) * (l - m)) * i) := ⟨div_by hi A, div_by hi B⟩
  have sr : Sl x1 y1 x5 y5 ((s + (l - m) * (l - m)) * i) := ⟨div_by hi A2, div_by hi B2⟩
  rw [sum_by F g4 g3 n4 sn, sum_by F g1 g5 n5 sr]
  obtain ⟨n, en⟩ : ∃ n, n = (s - (l - m) * (l - m)) * i := ⟨_, rfl⟩
  obtain ⟨r, er⟩ : ∃ r, r = (s + (l - m) * (l - m)) * i := ⟨_, rfl⟩
  rw [← en] at sn ⊢
  rw [← er] at sr ⊢
  have q0 := br_n hi en
  have q1 := br_r hi er
  rw [← eD] at hD
  have hnr := F.cancel hD (br_d q0 q1 eD)
  have hX := br_x hnr (sub_zero_eq (F.two (br_e q0 q1 eD))) es
  have k := sub_zero_eq (F.two (br_k q0 (br_s es e4 e5) eD))
  have hY := br_y (X := n * n - x4 - x3) rfl e4 (mv_a sn.a) (mv_f hnr) f1 f3 k
  rw [← hX]
  unfold pt
  congr 1

theorem col_a {x1 x2 x3 x4 y2 l : K} (h1 : x1 * x1 + x1 * x2 + x2 * x2 = l * (y2 + l * (x1 - x2) + y2)) (h2 : x2 * x2 + x2 * x3 + x3 * x3 = l * (y2 + (y2 + l * (x3 - x2)))) (e4 : x4 = l * l - x1 - x2) : (x3 - x1) * (x3 - x4) = 0 := by
  subst e4
  exact rg2 [x1, x2, x3, y2, l] h1 (-1) h2 1
theorem col_b {x3 x4 y2 y3 y4 l x2 : K} (f4 : y4 = l * (x2 - x4) - y2) (f3 : y3 = y2 + l * (x3 - x2)) (h : x3 - x4 = 0) : y4 = -y3 := rg3 [x2, x3, x4, y2, y3, y4, l] f4 1 f3 1 h l
theorem col_c {x1 x2 x3 y1 y2 y3 l : K} (f1 : y1 = y2 + l * (x1 - x2)) (f3 : y3 = y2 + l * (x3 - x2)) (h : x3 - x1 = 0) : y3 = y1 := rg3 [x1, x2, x3, y1, y2, y3, l] f1 (-1) f3 1 h l

/-- Brackets may be put otherwise. -/
theorem sum_assoc (F : Fd K iv e) {b : K} (C : Cv F b) {p q r : Ap K} (hp : Pt b p) (hq : Pt b q) (hr : Pt b r) : sumA iv e (sumA iv e p q) r = sumA iv e p (sumA iv e q r) := by
  -- p + (-p + r) = r
  have back : ∀ {p r : Ap K}, Pt b p → Pt b r → sumA iv e p (sumA iv e (negK p) r) = r := fun {p r} hp hr => by
    rw [sum_comm F (neg_pt hp) hr, sum_comm F hp (sum_pt F hr (neg_pt hp))]
    have := sum_cancel F C hr (neg_pt hp)
    rw [neg_neg_pt] at this
    exact this
  by_cases pq : q = negK p
  · subst pq
    rw [sum_neg F hp, sum_zero_l, back hp hr]
  by_cases qr : r = negK q
  · subst qr
    rw [sum_neg F hq, hp.add0, sum_cancel F C hp hq]
  by_cases pqr : r = negK (sumA iv e p q)
  · have hpq := sum_pt F hp hq
    subst pqr
    rw [sum_neg F hpq]
    have h1 := sum_cancel F C hp hq
    have h2 := neg_sum F hpq (neg_pt hq)
    rw [h1, neg_neg_pt] at h2
    rw [sum_comm F hq (neg_pt hpq), ← h2, sum_neg F hp]
  by_cases qrp : sumA iv e q r = negK p
  · rw [qrp, sum_neg F hp]
    -- r = -(p + q)
    exfalso
    apply pqr
    rw [neg_sum F hp hq, ← qrp, sum_comm F hq hr, sum_cancel F C hr hq]
  cases hp with
  | zero => rw [sum_zero_l, sum_zero_l]
  | of g1 =>
    cases hq with
    | zero => rw [sum_zero_r _ (fun h => by cases h), sum_zero_l]
    | of g2 =>
      cases hr with
      | zero => rw [(sum_pt F (.of g1) (.of g2)).add0, sum_zero_r _ (fun h => by cases h)]
      | of g3 =>
        rename_i x1 y1 x2 y2 x3 y3
        have n1 : ¬ (x1 = x2 ∧ y1 = -y2) := fun h => pq (by
          rw [neg_of]; unfold pt; rw [h.1, h.2]; congr 1; exact (rg_neg_neg _).symm)
        have n2 : ¬ (x2 = x3 ∧ y2 = -y3) := fun h => qr (by
          rw [neg_of]; unfold pt; rw [h.1, h.2]; congr 1; exact (rg_neg_neg _).symm)
        obtain ⟨l, hl⟩ := slope_ex F g1 g2 n1
        obtain ⟨m, hm⟩ := slope_ex F g2 g3 n2
        have s1 := sum_by F g1 g2 n1 hl
        have s2 := sum_by F g2 g3 n2 hm
        have g4 := on_sum g1 hl
        have g5 := on_sum g2 hm
        rw [s1] at pqr ⊢
        rw [s2] at qrp ⊢
        obtain ⟨x4, e4⟩ : ∃ x4, x4 = l * l - x1 - x2 := ⟨_, rfl⟩
        rw [← e4] at g4 pqr ⊢
        obtain ⟨y4, f4⟩ : ∃ y4, y4 = l * (x1 - x4) - y1 := ⟨_, rfl⟩
        rw [← f4] at g4 pqr ⊢
        obtain ⟨x5, e5⟩ : ∃ x5, x5 = m * m - x2 - x3 := ⟨_, rfl⟩
        rw [← e5] at g5 qrp ⊢
        obtain ⟨y5, f5⟩ : ∃ y5, y5 = m * (x2 - x5) - y2 := ⟨_, rfl⟩
        rw [← f5] at g5 qrp ⊢
        have n4 : ¬ (x4 = x3 ∧ y4 = -y3) := fun h => pqr (by
          rw [neg_of]; unfold pt; rw [h.1, h.2]; congr 1; exact (rg_neg_neg _).symm)
        have n5 : ¬ (x1 = x5 ∧ y1 = -y5) := fun h => qrp (by
          rw [neg_of]; unfold pt; rw [h.1, h.2]; congr 1; exact (rg_neg_neg _).symm)
        by_cases hd : l - m = 0
        · have : l = m := sub_zero_eq hd
          subst this
          have f1 := mv_a hl.a
          have f3 := mv_b hm.a
          have f4' := mv_c f4 f1
          have h1 : x1 * x1 + x1 * x2 + x2 * x2 = l * (y2 + l * (x1 - x2) + y2) := by rw [hl.b, ← f1]
          have h2 : x2 * x2 + x2 * x3 + x3 * x3 = l * (y2 + (y2 + l * (x3 - x2))) := by rw [hm.b, ← f3]
          rcases F.zero_or (col_a h1 h2 e4) with h | h
          · have hy := col_c f1 f3 h
            have hx := sub_zero_eq h
            subst hx hy
            have : x5 = x4 := by rw [e4, e5]; exact mv_e rfl
            subst this
            have : y5 = y4 := by rw [f4', f5]
            subst this
            exact sum_comm F (.of g4) (.of g3)
          · exact absurd ⟨(sub_zero_eq h).symm, col_b f4' f3 h⟩ n4
        · exact assoc_gen F g1 g3 g4 g5 hl hm hd e4 f4 e5 f5 n4 n5
end
end Go.Rq

/- The points of the curve y y = x x x + x are a group: sums by the slope. -/
namespace Go.Rq.Cw
set_option synthInstance.maxSize 100000
set_option synthInstance.maxHeartbeats 400000

section
variable {K : Type} [Rg K] {iv : K → K} {e : K → K → Bool}

def slope1W (iv : K → K) (a : Ap K) : K := (a.x * a.x + a.x * a.x + a.x * a.x + 1) * iv (a.y + a.y)
def sumW (iv : K → K) (e : K → K → Bool) (a b : Ap K) : Ap K := bif a.zero then b else bif b.zero then a else bif eqA e a (negK b) then ⟨0, 0, true⟩ else bif eqA e a b then chordK a b (slope1W iv a) else chordK a b (slope2K iv a b)

/-- A slope of the line by two points of a curve: of the chord, or of what touches it. -/
structure Sl (x1 y1 x2 y2 l : K) : Prop where
  a : y1 - y2 = l * (x1 - x2)
  b : x1 * x1 + x1 * x2 + x2 * x2 + 1 = l * (y1 + y2)

def On (x y : K) : Prop := y * y = x * x * x + x

theorem On.neg {x y : K} (h : On x y) : On x (-y) := by unfold On at *; exact rg1 [x, y] h 1

/-- There is one, if they are not opposite. -/
theorem slope_ex (F : Fd K iv e) {x1 y1 x2 y2 : K} (h1 : On x1 y1) (h2 : On x2 y2) (hn : ¬ (x1 = x2 ∧ y1 = -y2)) : ∃ l, Sl x1 y1 x2 y2 l := by
  unfold On at h1 h2
  by_cases hx : x1 = x2
  · subst hx
    have hy : y1 = y2 := by
      have hs : (y1 - y2) * (y1 + y2) = 0 := rg2 [x1, y1, y2] h1 1 h2 (-1)
      rcases F.zero_or hs with h | h
      · exact rg1 [y1, y2] h 1
      · exact absurd ⟨rfl, rg1 [y1, y2] h 1⟩ hn
    subst hy
    have hz : y1 + y1 ≠ 0 := fun h => hn ⟨rfl, rg1 [y1] h 1⟩
    have hi := F.inv hz
    exact ⟨(x1 * x1 + x1 * x1 + x1 * x1 + 1) * iv (y1 + y1), rg [x1, y1, iv (y1 + y1)], rg1 [x1, y1, iv (y1 + y1)] hi (-(x1 * x1 + x1 * x1 + x1 * x1 + 1))⟩
  · have hz : x1 - x2 ≠ 0 := fun h => hx (rg1 [x1, x2] h 1)
    have hi := F.inv hz
    refine ⟨(y1 - y2) * iv (x1 - x2), rg1 [x1, y1, x2, y2, iv (x1 - x2)] hi (-(y1 - y2)), ?_⟩
    apply F.cancel hz
    exact rg3 [x1, y1, x2, y2, iv (x1 - x2)] h1 (-1) h2 1 hi (-((y1 - y2) * (y1 + y2)))

/-- There is but one. -/
theorem slope_one (F : Fd K iv e) {x1 y1 x2 y2 l m : K} (hn : ¬ (x1 = x2 ∧ y1 = -y2)) (h : Sl x1 y1 x2 y2 l) (k : Sl x1 y1 x2 y2 m) : l = m := by
  by_cases hx : x1 = x2
  · have hy : y1 + y2 ≠ 0 := fun h => hn ⟨hx, rg1 [y1, y2] h 1⟩
    apply F.cancel hy
    rw [← h.b, ← k.b]
  · have hz : x1 - x2 ≠ 0 := fun h => hx (rg1 [x1, x2] h 1)
    apply F.cancel hz
    rw [← h.a, ← k.a]

def pt (x y : K) : Ap K := ⟨x, y, false⟩

theorem eqA_iff (F : Fd K iv e) {a b : Ap K} : eqA e a b = true ↔ a = b := by
  obtain ⟨x, y, z⟩ := a
  obtain ⟨u, v, w⟩ := b
  simp [eqA, F.eq]

/-- The sum, by any slope. -/
theorem sum_by (F : Fd K iv e) {x1 y1 x2 y2 l : K} (h1 : On x1 y1) (h2 : On x2 y2) (hn : ¬ (x1 = x2 ∧ y1 = -y2)) (h : Sl x1 y1 x2 y2 l) :
    sumW iv e (pt x1 y1) (pt x2 y2) = pt (l * l - x1 - x2) (l * (x1 - (l * l - x1 - x2)) - y1) := by
  have n1 : eqA e (pt x1 y1) (negK (pt x2 y2)) = false := by
    cases hb : eqA e (pt x1 y1) (negK (pt x2 y2)) with
    | false => rfl
    | true =>
      have := (eqA_iff F).1 hb
      unfold pt negK at this
      have := Ap.mk.inj this
      exact absurd ⟨this.1, this.2.1⟩ hn
  unfold sumW
  rw [n1]
  show (bif eqA e (pt x1 y1) (pt x2 y2) then chordK (pt x1 y1) (pt x2 y2) (slope1W iv (pt x1 y1)) else chordK (pt x1 y1) (pt x2 y2) (slope2K iv (pt x1 y1) (pt x2 y2))) = _
  unfold On at h1 h2
  cases hb : eqA e (pt x1 y1) (pt x2 y2) with
  | true =>
    have := Ap.mk.inj ((eqA_iff F).1 hb)
    obtain ⟨rfl, rfl, -⟩ := this
    have hz : y1 + y1 ≠ 0 := fun h => hn ⟨rfl, rg1 [y1] h 1⟩
    have hi := F.inv hz
    have : l = slope1W iv (pt x1 y1) := slope_one F hn h ⟨by simp only [slope1W, pt]; exact rg [x1, y1, iv (y1 + y1)], by simp only [slope1W, pt]; exact rg1 [x1, y1, iv (y1 + y1)] hi (-(x1 * x1 + x1 * x1 + x1 * x1 + 1))⟩
    rw [cond_true, ← this]
    rfl
  | false =>
    have hx : x1 ≠ x2 := by
      intro hx
      subst hx
      have hs : (y1 - y2) * (y1 + y2) = 0 := rg2 [x1, y1, y2] h1 1 h2 (-1)
      rcases F.zero_or hs with h | h
      · have : y1 = y2 := rg1 [y1, y2] h 1
        subst this
        rw [(eqA_iff F).2 rfl] at hb
        cases hb
      · exact hn ⟨rfl, rg1 [y1, y2] h 1⟩
    have hz : x2 - x1 ≠ 0 := fun h => hx (rg1 [x1, x2] h (-1))
    have hi := F.inv hz
    have : l = slope2K iv (pt x1 y1) (pt x2 y2) := by
      apply F.cancel hz
      have := h.a
      simp only [slope2K, pt]
      exact rg2 [x1, y1, x2, y2, l, iv (x2 - x1)] this 1 hi (-(y2 - y1))
    rw [cond_false, ← this]
    rfl

theorem sum_opp (F : Fd K iv e) {x y : K} : sumW iv e (pt x y) (pt x (-y)) = ⟨0, 0, true⟩ := by
  have : eqA e (pt x y) (negK (pt x (-y))) = true := by
    rw [eqA_iff F]
    unfold negK pt
    congr 1
    exact rg [y]
  unfold sumW
  rw [this]
  rfl

/-- A point of the curve: none, or two numbers. -/
inductive Pt : Ap K → Prop
  | zero : Pt ⟨0, 0, true⟩
  | of {x y : K} : On x y → Pt (pt x y)

theorem sum_zero_l {a : Ap K} : sumW iv e ⟨0, 0, true⟩ a = a := rfl
theorem sum_zero_r (a : Ap K) (ha : a.zero = true → a = ⟨0, 0, true⟩) : sumW iv e a ⟨0, 0, true⟩ = a := by
  unfold sumW
  cases hz : a.zero with
  | true => rw [cond_true]; exact (ha hz).symm
  | false => rfl
theorem Pt.z {a : Ap K} (h : Pt a) : a.zero = true → a = ⟨0, 0, true⟩ := by
  cases h with
  | zero => intro _; rfl
  | of => intro h; cases h
theorem Pt.add0 {a : Ap K} (h : Pt a) : sumW iv e a ⟨0, 0, true⟩ = a := sum_zero_r a h.z

/-- The sum's point lies on the curve. -/
theorem on_sum {x1 y1 x2 y2 l : K} (h1 : On x1 y1) (h : Sl x1 y1 x2 y2 l) : On (l * l - x1 - x2) (l * (x1 - (l * l - x1 - x2)) - y1) := by
  have ha := h.a
  have hb := h.b
  unfold On at *
  exact rg3 [x1, y1, x2, y2, l] h1 1 ha (l * (l * l - x1 - x2 - x1)) hb (-(l * l - x1 - x2 - x1))

theorem neg_pt {a : Ap K} (h : Pt a) : Pt (negK a) := by
  cases h with
  | zero =>
    have : negK (⟨0, 0, true⟩ : Ap K) = ⟨0, 0, true⟩ := by unfold negK; congr 1; exact rg_neg_zero
    rw [this]; exact .zero
  | of h =>
    rename_i x y
    exact .of (x := x) (y := -y) (by unfold On at *; exact rg1 [x, y] h 1)

theorem sum_pt (F : Fd K iv e) {p q : Ap K} (hp : Pt p) (hq : Pt q) : Pt (sumW iv e p q) := by
  cases hp with
  | zero => exact hq
  | of h1 =>
    cases hq with
    | zero => rw [sum_zero_r _ (fun h => by cases h)]; exact .of h1
    | of h2 =>
      rename_i x1 y1 x2 y2
      by_cases hn : x1 = x2 ∧ y1 = -y2
      · obtain ⟨rfl, rfl⟩ := hn
        have := sum_opp F (x := x1) (y := -y2)
        rw [show - -y2 = y2 from rg_neg_neg y2] at this
        rw [this]; exact .zero
      · obtain ⟨l, hl⟩ := slope_ex F h1 h2 hn
        rw [sum_by F h1 h2 hn hl]
        exact .of (on_sum h1 hl)

theorem sum_comm (F : Fd K iv e) {p q : Ap K} (hp : Pt p) (hq : Pt q) : sumW iv e p q = sumW iv e q p := by
  cases hp with
  | zero => rw [hq.add0]; rfl
  | of h1 =>
    cases hq with
    | zero => rw [sum_zero_r _ (fun h => by cases h)]; rfl
    | of h2 =>
      rename_i x1 y1 x2 y2
      by_cases hn : x1 = x2 ∧ y1 = -y2
      · obtain ⟨rfl, rfl⟩ := hn
        have e1 := sum_opp F (x := x1) (y := -y2)
        rw [show - -y2 = y2 from rg_neg_neg y2] at e1
        rw [e1, sum_opp F]
      · obtain ⟨l, hl⟩ := slope_ex F h1 h2 hn
        have hl' : Sl x2 y2 x1 y1 l := ⟨by have := hl.a; exact rg1 [x1, y1, x2, y2, l] this (-1), by have := hl.b; exact rg1 [x1, y1, x2, y2, l] this 1⟩
        rw [sum_by F h1 h2 hn hl, sum_by F h2 h1 (fun h => hn ⟨h.1.symm, rg1 [y1, y2] h.2 1⟩) hl']
        have ha := hl.a
        unfold pt
        congr 1
        · exact rg [x1, x2, l]
        · exact rg1 [x1, y1, x2, y2, l] ha (-1)

/-- No point is double. -/
theorem smooth (F : Fd K iv e) {x : K} (h : On x 0) : x * x + x * x + x * x + 1 ≠ 0 := by
  intro hz
  unfold On at h
  have hf : x * (x * x + 1) = 0 := rg1 [x] h (-1)
  rcases F.zero_or hf with h0 | h0
  · subst h0
    exact F.one (rg1 [] hz 1)
  · have h1 : (1 : K) + 1 = 0 := rg2 [x] h0 (1 + 1 + 1) hz (-1)
    exact F.one (F.two h1)

theorem neg_neg_pt (a : Ap K) : negK (negK a) = a := by
  obtain ⟨x, y, z⟩ := a
  unfold negK
  congr 1
  exact rg_neg_neg y
theorem neg_zero_pt : negK (⟨0, 0, true⟩ : Ap K) = ⟨0, 0, true⟩ := by unfold negK; congr 1; exact rg_neg_zero
theorem neg_of (x y : K) : negK (pt x y) = pt x (-y) := rfl

theorem sum_neg (F : Fd K iv e) {p : Ap K} (hp : Pt p) : sumW iv e p (negK p) = ⟨0, 0, true⟩ := by
  cases hp with
  | zero => rw [neg_zero_pt]; rfl
  | of h => rw [neg_of, sum_opp F]

/-- The negated sum is the sum of the negated ones. -/
theorem neg_sum (F : Fd K iv e) {p q : Ap K} (hp : Pt p) (hq : Pt q) : negK (sumW iv e p q) = sumW iv e (negK p) (negK q) := by
  cases hp with
  | zero => rw [neg_zero_pt]; rfl
  | of h1 =>
    cases hq with
    | zero => rw [neg_zero_pt, sum_zero_r _ (fun h => by cases h), sum_zero_r _ (fun h => by cases h)]
    | of h2 =>
      rename_i x1 y1 x2 y2
      rw [neg_of, neg_of]
      by_cases hn : x1 = x2 ∧ y1 = -y2
      · obtain ⟨rfl, rfl⟩ := hn
        have e1 := sum_opp F (x := x1) (y := -y2)
        rw [show - -y2 = y2 from rg_neg_neg y2] at e1 ⊢
        rw [e1, neg_zero_pt, sum_opp F]
      · obtain ⟨l, hl⟩ := slope_ex F h1 h2 hn
        have hl' : Sl x1 (-y1) x2 (-y2) (-l) := ⟨by have := hl.a; exact rg1 [x1, y1, x2, y2, l] this (-1), by have := hl.b; exact rg1 [x1, y1, x2, y2, l] this 1⟩
        have g1 := h1.neg
        have g2 := h2.neg
        rw [sum_by F h1 h2 hn hl, sum_by F g1 g2 (fun h => hn ⟨h.1, rg1 [y1, y2] h.2 (-1)⟩) hl', neg_of]
        congr 1
        · exact rg [x1, x2, l]
        · exact rg [x1, y1, x2, l]

/-- What was added is taken away again. -/
theorem sum_cancel (F : Fd K iv e) {p q : Ap K} (hp : Pt p) (hq : Pt q) : sumW iv e (sumW iv e p q) (negK q) = p := by
  cases hp with
  | zero => rw [sum_zero_l, sum_neg F hq]
  | of h1 =>
    cases hq with
    | zero => rw [neg_zero_pt, sum_zero_r _ (fun h => by cases h), sum_zero_r _ (fun h => by cases h)]
    | of h2 =>
      rename_i x1 y1 x2 y2
      rw [neg_of]
      by_cases hn : x1 = x2 ∧ y1 = -y2
      · obtain ⟨rfl, rfl⟩ := hn
        have e1 := sum_opp F (x := x1) (y := -y2)
        rw [show - -y2 = y2 from rg_neg_neg y2] at e1
        rw [e1, sum_zero_l]
      · obtain ⟨l, hl⟩ := slope_ex F h1 h2 hn
        have h4 := on_sum h1 hl
        have g2 := h2.neg
        rw [sum_by F h1 h2 hn hl]
        have ha := hl.a
        have hb := hl.b
        have hs : Sl (l * l - x1 - x2) (l * (x1 - (l * l - x1 - x2)) - y1) x2 (-y2) (-l) := ⟨rg1 [x1, y1, x2, y2, l] ha (-1), rg1 [x1, y1, x2, y2, l] hb 1⟩
        have hm : ¬ (l * l - x1 - x2 = x2 ∧ l * (x1 - (l * l - x1 - x2)) - y1 = - -y2) := by
          rintro ⟨k1, k2⟩
          have hy0 : y2 = 0 := F.two (rg3 [x1, y1, x2, y2, l] k1 (-l) k2 (-1) ha (-1))
          subst hy0
          exact smooth F h2 (rg3 [x1, y1, x2, l] hb 1 ha l k1 (x1 - x2))
        rw [sum_by F h4 g2 hm hs]
        unfold pt
        congr 1
        · exact rg [x1, x2, l]
        · exact rg [x1, y1, x2, l]

/-! Brackets. The lines by the first two and by the last two points, l and m their slopes. -/
theorem br_a {x1 x2 x3 y2 l m : K} (h1 : x1 * x1 + x1 * x2 + x2 * x2 + 1 = l * (y2 + l * (x1 - x2) + y2)) (h2 : x2 * x2 + x2 * x3 + x3 * x3 + 1 = m * (y2 + (y2 + m * (x3 - x2)))) {x4 x5 y4 s : K}
    (e4 : x4 = l * l - x1 - x2) (e5 : x5 = m * m - x2 - x3) (f4 : y4 = l * (x2 - x4) - y2) (es : s = x1 + x5 - x3 - x4) :
    (l - m + (l - m)) * (y4 - (y2 + m * (x3 - x2))) = (s - (l - m) * (l - m)) * (x4 - x3) := by
  subst e4 e5 f4 es
  exact rg2 [x1, x2, x3, y2, l, m] h1 (1 + 1) h2 (-(1 + 1))

theorem br_b {x1 x2 x3 y2 l m : K} (h1 : x1 * x1 + x1 * x2 + x2 * x2 + 1 = l * (y2 + l * (x1 - x2) + y2)) (h2 : x2 * x2 + x2 * x3 + x3 * x3 + 1 = m * (y2 + (y2 + m * (x3 - x2)))) {x4 x5 y4 s : K}
    (e4 : x4 = l * l - x1 - x2) (e5 : x5 = m * m - x2 - x3) (f4 : y4 = l * (x2 - x4) - y2) (es : s = x1 + x5 - x3 - x4) :
    (l - m + (l - m)) * (x4 * x4 + x4 * x3 + x3 * x3 + 1) = (s - (l - m) * (l - m)) * (y4 + (y2 + m * (x3 - x2))) := by
  subst e4 e5 f4 es
  exact rg2 [x1, x2, x3, y2, l, m] h1 (-(m + m)) h2 (l + l)

theorem div_by {D i u N v : K} (hi : D * i = 1) (A : D * u = N * v) : u = N * i * v := rg2 [D, u, N, v, i] A i hi (-u)
theorem mv_a {y1 y2 l x1 x2 : K} (h : y1 - y2 = l * (x1 - x2)) : y1 = y2 + l * (x1 - x2) := rg1 [x1, x2, y1, y2, l] h 1
theorem mv_b {y2 y3 m x2 x3 : K} (h : y2 - y3 = m * (x2 - x3)) : y3 = y2 + m * (x3 - x2) := rg1 [x2, x3, y2, y3, m] h (-1)
theorem mv_c {y1 y2 y4 l x1 x2 x4 : K} (h : y4 = l * (x1 - x4) - y1) (f : y1 = y2 + l * (x1 - x2)) : y4 = l * (x2 - x4) - y2 := rg2 [x1, x2, x4, y1, y2, y4, l] h 1 f (-1)
theorem mv_e {a b c d : K} (h : a = b - c - d) : a = b - d - c := rg1 [a, b, c, d] h 1
theorem mv_f {r n l m : K} (h : n + l = r + m) : r = n + l - m := rg1 [r, n, l, m] h (-1)
theorem mv_g {x2 x3 m y2 : K} (h : x2 * x2 + x2 * x3 + x3 * x3 + 1 = m * (y2 + (y2 + m * (x3 - x2)))) : x3 * x3 + x3 * x2 + x2 * x2 + 1 = m * (y2 + m * (x3 - x2) + y2) := rg1 [x2, x3, m, y2] h 1
theorem mv_h {x1 x2 l y2 : K} (h : x1 * x1 + x1 * x2 + x2 * x2 + 1 = l * (y2 + l * (x1 - x2) + y2)) : x2 * x2 + x2 * x1 + x1 * x1 + 1 = l * (y2 + (y2 + l * (x1 - x2))) := rg1 [x1, x2, l, y2] h 1
theorem mv_i {l m y1 y5 x1 x3 x4 x5 : K} (h : (m - l + (m - l)) * (y5 - y1) = (x3 + x4 - x1 - x5 - (m - l) * (m - l)) * (x5 - x1)) : (l - m + (l - m)) * (y1 - y5) = (x1 + x5 - x3 - x4 + (l - m) * (l - m)) * (x1 - x5) := rg1 [l, m, y1, y5, x1, x3, x4, x5] h 1
theorem mv_j {l m y1 y5 x1 x3 x4 x5 : K} (h : (m - l + (m - l)) * (x5 * x5 + x5 * x1 + x1 * x1 + 1) = (x3 + x4 - x1 - x5 - (m - l) * (m - l)) * (y5 + y1)) : (l - m + (l - m)) * (x1 * x1 + x1 * x5 + x5 * x5 + 1) = (x1 + x5 - x3 - x4 + (l - m) * (l - m)) * (y1 + y5) := rg1 [l, m, y1, y5, x1, x3, x4, x5] h (-1)
theorem br_y {x1 x2 x3 x4 y1 y2 y3 y4 n r l m X : K} (hX : X = n * n - x4 - x3) (e4 : x4 = l * l - x1 - x2) (g : y4 = y3 + n * (x4 - x3)) (e : r = n + l - m)
    (f1 : y1 = y2 + l * (x1 - x2)) (f3 : y3 = y2 + m * (x3 - x2)) (k : (l - m) * (n + l) = x1 - x3) : n * (x4 - X) - y4 = r * (x1 - X) - y1 := by
  subst e g f1 f3 hX e4
  exact rg1 [x1, x2, x3, y2, n, l, m] k (n - l)
theorem br_n {s d n D i : K} (hi : D * i = 1) (en : n = (s - d) * i) : D * n = s - d := rg2 [s, d, n, D, i] en D hi (s - d)
theorem br_r {s d n D i : K} (hi : D * i = 1) (en : n = (s + d) * i) : D * n = s + d := rg2 [s, d, n, D, i] en D hi (s + d)
theorem br_s {s x1 x2 x3 x4 x5 l m : K} (es : s = x1 + x5 - x3 - x4) (e4 : x4 = l * l - x1 - x2) (e5 : x5 = m * m - x2 - x3) : s = x1 - x3 + (x1 - x3) + m * m - l * l := rg3 [s, x1, x2, x3, x4, x5, l, m] es 1 e4 (-1) e5 1
theorem br_k {s n l m x1 x3 D : K} (q0 : D * n = s - (l - m) * (l - m)) (q1 : s = x1 - x3 + (x1 - x3) + m * m - l * l) (eD : D = l - m + (l - m)) :
    ((l - m) * (n + l) - (x1 - x3)) + ((l - m) * (n + l) - (x1 - x3)) = 0 := rg3 [s, n, l, m, x1, x3, D] q0 1 q1 1 eD (-n)
theorem br_d {s n r l m D : K} (q0 : D * n = s - (l - m) * (l - m)) (q1 : D * r = s + (l - m) * (l - m)) (eD : D = l - m + (l - m)) : (n + l) * D = (r + m) * D := rg3 [s, n, r, l, m, D] q0 1 q1 (-1) eD (l - m)
theorem br_e {s n r l m D : K} (q0 : D * n = s - (l - m) * (l - m)) (q1 : D * r = s + (l - m) * (l - m)) (eD : D = l - m + (l - m)) : ((n + r) * (l - m) - s) + ((n + r) * (l - m) - s) = 0 := rg3 [s, n, r, l, m, D] q0 1 q1 1 eD (-(n + r))
theorem br_x {s n r l m x1 x3 x4 x5 : K} (h : n + l = r + m) (k : (n + r) * (l - m) = s) (es : s = x1 + x5 - x3 - x4) : n * n - x4 - x3 = r * r - x1 - x5 := rg3 [s, n, r, l, m, x1, x3, x4, x5] h (n + r) k (-1) es (-1)
theorem sub_zero_eq {x y : K} (h : x - y = 0) : x = y := rg_sub_eq h

theorem assoc_gen (F : Fd K iv e) {x1 y1 x2 y2 x3 y3 l m x4 y4 x5 y5 : K} (g1 : On x1 y1) (g3 : On x3 y3) (g4 : On x4 y4) (g5 : On x5 y5) (hl : Sl x1 y1 x2 y2 l) (hm : Sl x2 y2 x3 y3 m) (hd : l - m ≠ 0)
    (e4 : x4 = l * l - x1 - x2) (f4 : y4 = l * (x1 - x4) - y1) (e5 : x5 = m * m - x2 - x3) (f5 : y5 = m * (x2 - x5) - y2) (n4 : ¬ (x4 = x3 ∧ y4 = -y3)) (n5 : ¬ (x1 = x5 ∧ y1 = -y5)) :
    sumW iv e (pt x4 y4) (pt x3 y3) = sumW iv e (pt x1 y1) (pt x5 y5) := by
  obtain ⟨la, lb⟩ := hl
  obtain ⟨ma, mb⟩ := hm
  have f1 := mv_a la
  have f3 := mv_b ma
  have f4' := mv_c f4 f1
  have h1 : x1 * x1 + x1 * x2 + x2 * x2 + 1 = l * (y2 + l * (x1 - x2) + y2) := by rw [lb, ← f1]
  have h2 : x2 * x2 + x2 * x3 + x3 * x3 + 1 = m * (y2 + (y2 + m * (x3 - x2))) := by rw [mb, ← f3]
  have hD : l - m + (l - m) ≠ 0 := fun h => hd (F.two h)
  have hi := F.inv hD
  have A := br_a h1 h2 e4 e5 f4' (s := x1 + x5 - x3 - x4) rfl
  have B := br_b h1 h2 e4 e5 f4' (s := x1 + x5 - x3 - x4) rfl
  have A' := br_a (mv_g h2) (mv_h h1) (mv_e e5) (mv_e e4) f5 (s := x3 + x4 - x1 - x5) rfl
  have B' := br_b (mv_g h2) (mv_h h1) (mv_e e5) (mv_e e4) f5 (s := x3 + x4 - x1 - x5) rfl
  rw [← f3] at A B
  rw [← f1] at A' B'
  have A2 := mv_i A'
  have B2 := mv_j B'
  obtain ⟨D, eD⟩ : ∃ D, D = l - m + (l - m) := ⟨_, rfl⟩
  obtain ⟨i, ei⟩ : ∃ i, i = iv D := ⟨_, rfl⟩
  obtain ⟨s, es⟩ : ∃ s, s = x1 + x5 - x3 - x4 := ⟨_, rfl⟩
  rw [← eD, ← ei] at hi
  rw [← eD, ← es] at A B A2 B2
  have sn : Sl x4 y4 x3 y3 ((s - (l - m) * (l - m)) * i) := ⟨div_by hi A, div_by hi B⟩
  have sr : Sl x1 y1 x5 y5 ((s + (l - m) * (l - m)) * i) := ⟨div_by hi A2, div_by hi B2⟩
  rw [sum_by F g4 g3 n4 sn, sum_by F g1 g5 n5 sr]
  obtain ⟨n, en⟩ : ∃ n, n = (s - (l - m) * (l - m)) * i := ⟨_, rfl⟩
  obtain ⟨r, er⟩ : ∃ r, r = (s + (l - m) * (l - m)) * i := ⟨_, rfl⟩
  rw [← en] at sn ⊢
  rw [← er] at sr ⊢
  have q0 := br_n hi en
  have q1 := br_r hi er
  rw [← eD] at hD
  have hnr := F.cancel hD (br_d q0 q1 eD)
  have hX := br_x hnr (sub_zero_eq (F.two (br_e q0 q1 eD))) es
  have k := sub_zero_eq (F.two (br_k q0 (br_s es e4 e5) eD))
  have hY := br_y (X := n * n - x4 - x3) rfl e4 (mv_a sn.a) (mv_f hnr) f1 f3 k
  rw [← hX]
  unfold pt
  congr 1

theorem col_a {x1 x2 x3 x4 y2 l : K} (h1 : x1 * x1 + x1 * x2 + x2 * x2 + 1 = l * (y2 + l * (x1 - x2) + y2)) (h2 : x2 * x2 + x2 * x3 + x3 * x3 + 1 = l * (y2 + (y2 + l * (x3 - x2)))) (e4 : x4 = l * l - x1 - x2) : (x3 - x1) * (x3 - x4) = 0 := by
  subst e4
  exact rg2 [x1, x2, x3, y2, l] h1 (-1) h2 1
theorem col_b {x3 x4 y2 y3 y4 l x2 : K} (f4 : y4 = l * (x2 - x4) - y2) (f3 : y3 = y2 + l * (x3 - x2)) (h : x3 - x4 = 0) : y4 = -y3 := rg3 [x2, x3, x4, y2, y3, y4, l] f4 1 f3 1 h l
theorem col_c {x1 x2 x3 y1 y2 y3 l : K} (f1 : y1 = y2 + l * (x1 - x2)) (f3 : y3 = y2 + l * (x3 - x2)) (h : x3 - x1 = 0) : y3 = y1 := rg3 [x1, x2, x3, y1, y2, y3, l] f1 (-1) f3 1 h l

/-- Brackets may be put otherwise. -/
theorem sum_assoc (F : Fd K iv e) {p q r : Ap K} (hp : Pt p) (hq : Pt q) (hr : Pt r) : sumW iv e (sumW iv e p q) r = sumW iv e p (sumW iv e q r) := by
  -- p + (-p + r) = r
  have back : ∀ {p r : Ap K}, Pt p → Pt r → sumW iv e p (sumW iv e (negK p) r) = r := fun {p r} hp hr => by
    rw [sum_comm F (neg_pt hp) hr, sum_comm F hp (sum_pt F hr (neg_pt hp))]
    have := sum_cancel F hr (neg_pt hp)
    rw [neg_neg_pt] at this
    exact this
  by_cases pq : q = negK p
  · subst pq
    rw [sum_neg F hp, sum_zero_l, back hp hr]
  by_cases qr : r = negK q
  · subst qr
    rw [sum_neg F hq, hp.add0, sum_cancel F hp hq]
  by_cases pqr : r = negK (sumW iv e p q)
  · have hpq := sum_pt F hp hq
    subst pqr
    rw [sum_neg F hpq]
    have h1 := sum_cancel F hp hq
    have h2 := neg_sum F hpq (neg_pt hq)
    rw [h1, neg_neg_pt] at h2
    rw [sum_comm F hq (neg_pt hpq), ← h2, sum_neg F hp]
  by_cases qrp : sumW iv e q r = negK p
  · rw [qrp, sum_neg F hp]
    -- r = -(p + q)
    exfalso
    apply pqr
    rw [neg_sum F hp hq, ← qrp, sum_comm F hq hr, sum_cancel F hr hq]
  cases hp with
  | zero => rw [sum_zero_l, sum_zero_l]
  | of g1 =>
    cases hq with
    | zero => rw [sum_zero_r _ (fun h => by cases h), sum_zero_l]
    | of g2 =>
      cases hr with
      | zero => rw [(sum_pt F (.of g1) (.of g2)).add0, sum_zero_r _ (fun h => by cases h)]
      | of g3 =>
        rename_i x1 y1 x2 y2 x3 y3
        have n1 : ¬ (x1 = x2 ∧ y1 = -y2) := fun h => pq (by
          rw [neg_of]; unfold pt; rw [h.1, h.2]; congr 1; exact (rg_neg_neg _).symm)
        have n2 : ¬ (x2 = x3 ∧ y2 = -y3) := fun h => qr (by
          rw [neg_of]; unfold pt; rw [h.1, h.2]; congr 1; exact (rg_neg_neg _).symm)
        obtain ⟨l, hl⟩ := slope_ex F g1 g2 n1
        obtain ⟨m, hm⟩ := slope_ex F g2 g3 n2
        have s1 := sum_by F g1 g2 n1 hl
        have s2 := sum_by F g2 g3 n2 hm
        have g4 := on_sum g1 hl
        have g5 := on_sum g2 hm
        rw [s1] at pqr ⊢
        rw [s2] at qrp ⊢
        obtain ⟨x4, e4⟩ : ∃ x4, x4 = l * l - x1 - x2 := ⟨_, rfl⟩
        rw [← e4] at g4 pqr ⊢
        obtain ⟨y4, f4⟩ : ∃ y4, y4 = l * (x1 - x4) - y1 := ⟨_, rfl⟩
        rw [← f4] at g4 pqr ⊢
        obtain ⟨x5, e5⟩ : ∃ x5, x5 = m * m - x2 - x3 := ⟨_, rfl⟩
        rw [← e5] at g5 qrp ⊢
        obtain ⟨y5, f5⟩ : ∃ y5, y5 = m * (x2 - x5) - y2 := ⟨_, rfl⟩
        rw [← f5] at g5 qrp ⊢
        have n4 : ¬ (x4 = x3 ∧ y4 = -y3) := fun h => pqr (by
          rw [neg_of]; unfold pt; rw [h.1, h.2]; congr 1; exact (rg_neg_neg _).symm)
        have n5 : ¬ (x1 = x5 ∧ y1 = -y5) := fun h => qrp (by
          rw [neg_of]; unfold pt; rw [h.1, h.2]; congr 1; exact (rg_neg_neg _).symm)
        by_cases hd : l - m = 0
        · have : l = m := sub_zero_eq hd
          subst this
          have f1 := mv_a hl.a
          have f3 := mv_b hm.a
          have f4' := mv_c f4 f1
          have h1 : x1 * x1 + x1 * x2 + x2 * x2 + 1 = l * (y2 + l * (x1 - x2) + y2) := by rw [hl.b, ← f1]
          have h2 : x2 * x2 + x2 * x3 + x3 * x3 + 1 = l * (y2 + (y2 + l * (x3 - x2))) := by rw [hm.b, ← f3]
          rcases F.zero_or (col_a h1 h2 e4) with h | h
          · have hy := col_c f1 f3 h
            have hx := sub_zero_eq h
            subst hx hy
            have : x5 = x4 := by rw [e4, e5]; exact mv_e rfl
            subst this
            have : y5 = y4 := by rw [f4', f5]
            subst this
            exact sum_comm F (.of g4) (.of g3)
          · exact absurd ⟨(sub_zero_eq h).symm, col_b f4' f3 h⟩ n4
        · exact assoc_gen F g1 g3 g4 g5 hl hm hd e4 f4 e5 f5 n4 n5
end
end Go.Rq.Cw

/- Multiples of points of the curve y y = x x x + x; points of a prime order. -/
namespace Go.Rq.Cw
set_option synthInstance.maxSize 100000
set_option synthInstance.maxHeartbeats 400000

section
variable {K : Type} [Rg K] {iv : K → K} {e : K → K → Bool}

/-! Multiples. -/
def nsm (iv : K → K) (e : K → K → Bool) (A : Ap K) : Nat → Ap K
  | 0 => ⟨0, 0, true⟩
  | n + 1 => sumW iv e (nsm iv e A n) A

theorem nsm_pt (F : Fd K iv e) {A : Ap K} (hA : Pt A) : ∀ n : Nat, Pt (nsm iv e A n)
  | 0 => .zero
  | n + 1 => sum_pt F (nsm_pt F hA n) hA

theorem nsm_add (F : Fd K iv e) {A : Ap K} (hA : Pt A) (m : Nat) : ∀ n : Nat, nsm iv e A (m + n) = sumW iv e (nsm iv e A m) (nsm iv e A n)
  | 0 => (nsm_pt F hA m).add0.symm
  | n + 1 => by
    show sumW iv e (nsm iv e A (m + n)) A = sumW iv e (nsm iv e A m) (sumW iv e (nsm iv e A n) A)
    rw [nsm_add F hA m n, sum_assoc F (nsm_pt F hA m) (nsm_pt F hA n) hA]

theorem nsm_mul (F : Fd K iv e) {A : Ap K} (hA : Pt A) (m : Nat) : ∀ n : Nat, nsm iv e A (m * n) = nsm iv e (nsm iv e A m) n
  | 0 => rfl
  | n + 1 => by
    show nsm iv e A (m * n + m) = sumW iv e (nsm iv e (nsm iv e A m) n) (nsm iv e A m)
    rw [nsm_add F hA, nsm_mul F hA m n]

theorem nsm_zero (n : Nat) : nsm iv e (⟨0, 0, true⟩ : Ap K) n = ⟨0, 0, true⟩ := by
  induction n with
  | zero => rfl
  | succ n ih =>
    show sumW iv e (nsm iv e (⟨0, 0, true⟩ : Ap K) n) ⟨0, 0, true⟩ = _
    rw [ih]; rfl

/-! Points of a prime order. -/
theorem nsm_mod (F : Fd K iv e) {A : Ap K} (hA : Pt A) {r : Nat} (hr : nsm iv e A r = ⟨0, 0, true⟩) (n : Nat) : nsm iv e A n = nsm iv e A (n % r) := by
  have h := Nat.div_add_mod n r
  have h1 : nsm iv e A (r * (n / r) + n % r) = nsm iv e A (n % r) := by
    rw [nsm_add F hA, nsm_mul F hA, hr, nsm_zero]
    rfl
  rw [h] at h1
  exact h1

theorem nsm_gcd (F : Fd K iv e) {A : Ap K} (hA : Pt A) (x y : Nat) : nsm iv e A x = ⟨0, 0, true⟩ → nsm iv e A y = ⟨0, 0, true⟩ → nsm iv e A (Nat.gcd x y) = ⟨0, 0, true⟩ := by
  induction x, y using Nat.gcd.induction with
  | H0 y => intro _ hy; rw [Nat.gcd_zero_left]; exact hy
  | H1 x y hx ih =>
    intro h1 h2
    rw [Nat.gcd_rec]
    exact ih (by rw [← nsm_mod F hA h1]; exact h2) h1

theorem nsm_one (A : Ap K) : nsm iv e A 1 = A := by
  show sumW iv e ⟨0, 0, true⟩ A = A
  exact sum_zero_l

/-- A multiple is none just if the order divides the number. -/
theorem nsm_none (F : Fd K iv e) {A : Ap K} (hA : Pt A) {r : Nat} (hp : Pr r) (hr : nsm iv e A r = ⟨0, 0, true⟩) (h0 : A.zero = false) (n : Nat) : (nsm iv e A n).zero = decide (n % r = 0) := by
  by_cases h : n % r = 0
  · rw [nsm_mod F hA hr, h, decide_eq_true rfl]
    rfl
  · rw [decide_eq_false h]
    cases hz : (nsm iv e A n).zero with
    | false => rfl
    | true =>
      exfalso
      have h1 := (nsm_pt F hA n).z hz
      have h2 := nsm_gcd F hA r n hr h1
      have hc : Nat.Coprime r n := hp.coprime (fun hd => h (Nat.mod_eq_zero_of_dvd hd))
      rw [hc, nsm_one] at h2
      rw [h2] at h0
      cases h0
end
end Go.Rq.Cw

/- The little curves' primes. -/
namespace Go.Rq

theorem pr_786251 : Pr 786251 := Pr.of_trial (k := 890) (by decide +kernel) (by decide +kernel) (by decide +kernel)
theorem pr_65521 : Pr 65521 := Pr.of_trial (k := 260) (by decide +kernel) (by decide +kernel) (by decide +kernel)
theorem pr_6868571 : Pr 6868571 := Pr.of_trial (k := 2700) (by decide +kernel) (by decide +kernel) (by decide +kernel)
theorem pr_10056583 : Pr 10056583 := Pr.of_trial (k := 3200) (by decide +kernel) (by decide +kernel) (by decide +kernel)
theorem pr_192153584101141037 : Pr 192153584101141037 := pr_pock (a := 2) 44 (by decide +kernel) (by decide +kernel) pr_10056583 (by decide +kernel) (by decide +kernel) (by decide +kernel)
theorem pr_1152921504606846223 : Pr 1152921504606846223 := pr_pock (a := 2) 0 (by decide +kernel) (by decide +kernel) pr_192153584101141037 (by decide +kernel) (by decide +kernel) (by decide +kernel)
theorem pr_72057594037927889 : Pr 72057594037927889 := pr_pock (a := 2) 40 (by decide +kernel) (by decide +kernel) pr_6868571 (by decide +kernel) (by decide +kernel) (by decide +kernel)
end Go.Rq
