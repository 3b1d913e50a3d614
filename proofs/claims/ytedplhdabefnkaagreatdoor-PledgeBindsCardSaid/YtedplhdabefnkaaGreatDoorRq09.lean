import Derived.Test.YtedplhdabefnkaaGreatDoorRq08
import Derived.Test.YtedplhdabefnkaaGreatDoorRq07
import Derived.Test.YtedplhdabefnkaaGreatDoorRq06
namespace Go.Rq.Cw
set_option synthInstance.maxSize 100000
set_option synthInstance.maxHeartbeats 400000
section
variable {K : Type} [Rg K] {iv : K -> K} {e : K -> K -> Bool}
def slope1W (iv : K -> K) (a : Ap K) : K := (a.x * a.x + a.x * a.x + a.x * a.x + 1) * iv (a.y + a.y)
def sumW (iv : K -> K) (e : K -> K -> Bool) (a b : Ap K) : Ap K := bif a.zero then b else bif b.zero then a else bif eqA e a (negK b) then ⟨0, 0, true⟩ else bif eqA e a b then chordK a b (slope1W iv a) else chordK a b (slope2K iv a b)
structure Sl (x1 y1 x2 y2 l : K) : Prop where
 a : y1 - y2 = l * (x1 - x2)
 b : x1 * x1 + x1 * x2 + x2 * x2 + 1 = l * (y1 + y2)
def On (x y : K) : Prop := y * y = x * x * x + x
theorem On.neg {x y : K} (h : On x y) : On x (-y) := by unfold On at *; exact rg1 [x, y] h 1
theorem slope_ex (F : Fd K iv e) {x1 y1 x2 y2 : K} (h1 : On x1 y1) (h2 : On x2 y2) (hn : ¬ (x1 = x2 /\ y1 = -y2)) : ∃ l, Sl x1 y1 x2 y2 l := by
 unfold On at h1 h2
 by_cases hx : x1 = x2
 . subst hx
   have hy : y1 = y2 := by
    have hs : (y1 - y2) * (y1 + y2) = 0 := rg2 [x1, y1, y2] h1 1 h2 (-1)
    rcases F.zero_or hs with h | h
    . exact rg1 [y1, y2] h 1
    . exact absurd ⟨rfl, rg1 [y1, y2] h 1⟩ hn
   subst hy
   have hz : y1 + y1 ≠ 0 := fun h => hn ⟨rfl, rg1 [y1] h 1⟩
   have hi := F.inv hz
   exact ⟨(x1 * x1 + x1 * x1 + x1 * x1 + 1) * iv (y1 + y1), rg [x1, y1, iv (y1 + y1)], rg1 [x1, y1, iv (y1 + y1)] hi (-(x1 * x1 + x1 * x1 + x1 * x1 + 1))⟩
 . have hz : x1 - x2 ≠ 0 := fun h => hx (rg1 [x1, x2] h 1)
   have hi := F.inv hz
   refine ⟨(y1 - y2) * iv (x1 - x2), rg1 [x1, y1, x2, y2, iv (x1 - x2)] hi (-(y1 - y2)), ?_⟩
   apply F.cancel hz
   exact rg3 [x1, y1, x2, y2, iv (x1 - x2)] h1 (-1) h2 1 hi (-((y1 - y2) * (y1 + y2)))
theorem slope_one (F : Fd K iv e) {x1 y1 x2 y2 l m : K} (hn : ¬ (x1 = x2 /\ y1 = -y2)) (h : Sl x1 y1 x2 y2 l) (k : Sl x1 y1 x2 y2 m) : l = m := by
 by_cases hx : x1 = x2
 . have hy : y1 + y2 ≠ 0 := fun h => hn ⟨hx, rg1 [y1, y2] h 1⟩
   apply F.cancel hy
   rw [<- h.b, <- k.b]
 . have hz : x1 - x2 ≠ 0 := fun h => hx (rg1 [x1, x2] h 1)
   apply F.cancel hz
   rw [<- h.a, <- k.a]
def pt (x y : K) : Ap K := ⟨x, y, false⟩
theorem eqA_iff (F : Fd K iv e) {a b : Ap K} : eqA e a b = true ↔ a = b := by
 obtain ⟨x, y, z⟩ := a
 obtain ⟨u, v, w⟩ := b
 simp [eqA, F.eq]
theorem sum_by (F : Fd K iv e) {x1 y1 x2 y2 l : K} (h1 : On x1 y1) (h2 : On x2 y2) (hn : ¬ (x1 = x2 /\ y1 = -y2)) (h : Sl x1 y1 x2 y2 l) :
 sumW iv e (pt x1 y1) (pt x2 y2) = pt (l * l - x1 - x2) (l * (x1 - (l * l - x1 - x2)) - y1) := by
 have n1 : eqA e (pt x1 y1) (negK (pt x2 y2)) = false := by
  cases hb : eqA e (pt x1 y1) (negK (pt x2 y2)) with
  | false => rfl
  | true =>
   have := (eqA_iff F).1 hb
   unfold pt negK at this
   have := Ap.mk.inj this
   exact absurd ⟨this.1, this.2.1⟩ hn
 unfold sumW
 rw [n1]
 show (bif eqA e (pt x1 y1) (pt x2 y2) then chordK (pt x1 y1) (pt x2 y2) (slope1W iv (pt x1 y1)) else chordK (pt x1 y1) (pt x2 y2) (slope2K iv (pt x1 y1) (pt x2 y2))) = _
 unfold On at h1 h2
 cases hb : eqA e (pt x1 y1) (pt x2 y2) with
 | true =>
  have := Ap.mk.inj ((eqA_iff F).1 hb)
  obtain ⟨rfl, rfl, -⟩ := this
  have hz : y1 + y1 ≠ 0 := fun h => hn ⟨rfl, rg1 [y1] h 1⟩
  have hi := F.inv hz
  have : l = slope1W iv (pt x1 y1) := slope_one F hn h ⟨by simp only [slope1W, pt]; exact rg [x1, y1, iv (y1 + y1)], by simp only [slope1W, pt]; exact rg1 [x1, y1, iv (y1 + y1)] hi (-(x1 * x1 + x1 * x1 + x1 * x1 + 1))⟩
  rw [cond_true, <- this]
  rfl
 | false =>
  have hx : x1 ≠ x2 := by
   intro hx
   subst hx
   have hs : (y1 - y2) * (y1 + y2) = 0 := rg2 [x1, y1, y2] h1 1 h2 (-1)
   rcases F.zero_or hs with h | h
   . have : y1 = y2 := rg1 [y1, y2] h 1
     subst this
     rw [(eqA_iff F).2 rfl] at hb
     cases hb
   . exact hn ⟨rfl, rg1 [y1, y2] h 1⟩
  have hz : x2 - x1 ≠ 0 := fun h => hx (rg1 [x1, x2] h (-1))
  have hi := F.inv hz
  have : l = slope2K iv (pt x1 y1) (pt x2 y2) := by
   apply F.cancel hz
   have := h.a
   simp only [slope2K, pt]
   exact rg2 [x1, y1, x2, y2, l, iv (x2 - x1)] this 1 hi (-(y2 - y1))
  rw [cond_false, <- this]
  rfl
theorem sum_opp (F : Fd K iv e) {x y : K} : sumW iv e (pt x y) (pt x (-y)) = ⟨0, 0, true⟩ := by
 have : eqA e (pt x y) (negK (pt x (-y))) = true := by
  rw [eqA_iff F]
  unfold negK pt
  congr 1
  exact rg [y]
 unfold sumW
 rw [this]
 rfl
inductive Pt : Ap K -> Prop
 | zero : Pt ⟨0, 0, true⟩
 | of {x y : K} : On x y -> Pt (pt x y)
theorem sum_zero_l {a : Ap K} : sumW iv e ⟨0, 0, true⟩ a = a := rfl
theorem sum_zero_r (a : Ap K) (ha : a.zero = true -> a = ⟨0, 0, true⟩) : sumW iv e a ⟨0, 0, true⟩ = a := by
 unfold sumW
 cases hz : a.zero with
 | true => rw [cond_true]; exact (ha hz).symm
 | false => rfl
theorem Pt.z {a : Ap K} (h : Pt a) : a.zero = true -> a = ⟨0, 0, true⟩ := by
 cases h with
 | zero => intro _; rfl
 | of => intro h; cases h
theorem Pt.add0 {a : Ap K} (h : Pt a) : sumW iv e a ⟨0, 0, true⟩ = a := sum_zero_r a h.z
theorem on_sum {x1 y1 x2 y2 l : K} (h1 : On x1 y1) (h : Sl x1 y1 x2 y2 l) : On (l * l - x1 - x2) (l * (x1 - (l * l - x1 - x2)) - y1) := by
 have ha := h.a
 have hb := h.b
 unfold On at *
 exact rg3 [x1, y1, x2, y2, l] h1 1 ha (l * (l * l - x1 - x2 - x1)) hb (-(l * l - x1 - x2 - x1))
theorem neg_pt {a : Ap K} (h : Pt a) : Pt (negK a) := by
 cases h with
 | zero =>
  have : negK (⟨0, 0, true⟩ : Ap K) = ⟨0, 0, true⟩ := by unfold negK; congr 1; exact rg_neg_zero
  rw [this]; exact .zero
 | of h =>
  rename_i x y
  exact .of (x := x) (y := -y) (by unfold On at *; exact rg1 [x, y] h 1)
theorem sum_pt (F : Fd K iv e) {p q : Ap K} (hp : Pt p) (hq : Pt q) : Pt (sumW iv e p q) := by
 cases hp with
 | zero => exact hq
 | of h1 =>
  cases hq with
  | zero => rw [sum_zero_r _ (fun h => by cases h)]; exact .of h1
  | of h2 =>
   rename_i x1 y1 x2 y2
   by_cases hn : x1 = x2 /\ y1 = -y2
   . obtain ⟨rfl, rfl⟩ := hn
     have := sum_opp F (x := x1) (y := -y2)
     rw [show - -y2 = y2 from rg_neg_neg y2] at this
     rw [this]; exact .zero
   . obtain ⟨l, hl⟩ := slope_ex F h1 h2 hn
     rw [sum_by F h1 h2 hn hl]
     exact .of (on_sum h1 hl)
theorem sum_comm (F : Fd K iv e) {p q : Ap K} (hp : Pt p) (hq : Pt q) : sumW iv e p q = sumW iv e q p := by
 cases hp with
 | zero => rw [hq.add0]; rfl
 | of h1 =>
  cases hq with
  | zero => rw [sum_zero_r _ (fun h => by cases h)]; rfl
  | of h2 =>
   rename_i x1 y1 x2 y2
   by_cases hn : x1 = x2 /\ y1 = -y2
   . obtain ⟨rfl, rfl⟩ := hn
     have e1 := sum_opp F (x := x1) (y := -y2)
     rw [show - -y2 = y2 from rg_neg_neg y2] at e1
     rw [e1, sum_opp F]
   . obtain ⟨l, hl⟩ := slope_ex F h1 h2 hn
     have hl' : Sl x2 y2 x1 y1 l := ⟨by have := hl.a; exact rg1 [x1, y1, x2, y2, l] this (-1), by have := hl.b; exact rg1 [x1, y1, x2, y2, l] this 1⟩
     rw [sum_by F h1 h2 hn hl, sum_by F h2 h1 (fun h => hn ⟨h.1.symm, rg1 [y1, y2] h.2 1⟩) hl']
     have ha := hl.a
     unfold pt
     congr 1
     . exact rg [x1, x2, l]
     . exact rg1 [x1, y1, x2, y2, l] ha (-1)
theorem smooth (F : Fd K iv e) {x : K} (h : On x 0) : x * x + x * x + x * x + 1 ≠ 0 := by
 intro hz
 unfold On at h
 have hf : x * (x * x + 1) = 0 := rg1 [x] h (-1)
 rcases F.zero_or hf with h0 | h0
 . subst h0
   exact F.one (rg1 [] hz 1)
 . have h1 : (1 : K) + 1 = 0 := rg2 [x] h0 (1 + 1 + 1) hz (-1)
   exact F.one (F.two h1)
theorem neg_neg_pt (a : Ap K) : negK (negK a) = a := by
 obtain ⟨x, y, z⟩ := a
 unfold negK
 congr 1
 exact rg_neg_neg y
theorem neg_zero_pt : negK (⟨0, 0, true⟩ : Ap K) = ⟨0, 0, true⟩ := by unfold negK; congr 1; exact rg_neg_zero
theorem neg_of (x y : K) : negK (pt x y) = pt x (-y) := rfl
theorem sum_neg (F : Fd K iv e) {p : Ap K} (hp : Pt p) : sumW iv e p (negK p) = ⟨0, 0, true⟩ := by
 cases hp with
 | zero => rw [neg_zero_pt]; rfl
 | of h => rw [neg_of, sum_opp F]
theorem neg_sum (F : Fd K iv e) {p q : Ap K} (hp : Pt p) (hq : Pt q) : negK (sumW iv e p q) = sumW iv e (negK p) (negK q) := by
 cases hp with
 | zero => rw [neg_zero_pt]; rfl
 | of h1 =>
  cases hq with
  | zero => rw [neg_zero_pt, sum_zero_r _ (fun h => by cases h), sum_zero_r _ (fun h => by cases h)]
  | of h2 =>
   rename_i x1 y1 x2 y2
   rw [neg_of, neg_of]
   by_cases hn : x1 = x2 /\ y1 = -y2
   . obtain ⟨rfl, rfl⟩ := hn
     have e1 := sum_opp F (x := x1) (y := -y2)
     rw [show - -y2 = y2 from rg_neg_neg y2] at e1 ⊢
     rw [e1, neg_zero_pt, sum_opp F]
   . obtain ⟨l, hl⟩ := slope_ex F h1 h2 hn
     have hl' : Sl x1 (-y1) x2 (-y2) (-l) := ⟨by have := hl.a; exact rg1 [x1, y1, x2, y2, l] this (-1), by have := hl.b; exact rg1 [x1, y1, x2, y2, l] this 1⟩
     have g1 := h1.neg
     have g2 := h2.neg
     rw [sum_by F h1 h2 hn hl, sum_by F g1 g2 (fun h => hn ⟨h.1, rg1 [y1, y2] h.2 (-1)⟩) hl', neg_of]
     congr 1
     . exact rg [x1, x2, l]
     . exact rg [x1, y1, x2, l]
theorem sum_cancel (F : Fd K iv e) {p q : Ap K} (hp : Pt p) (hq : Pt q) : sumW iv e (sumW iv e p q) (negK q) = p := by
 cases hp with
 | zero => rw [sum_zero_l, sum_neg F hq]
 | of h1 =>
  cases hq with
  | zero => rw [neg_zero_pt, sum_zero_r _ (fun h => by cases h), sum_zero_r _ (fun h => by cases h)]
  | of h2 =>
   rename_i x1 y1 x2 y2
   rw [neg_of]
   by_cases hn : x1 = x2 /\ y1 = -y2
   . obtain ⟨rfl, rfl⟩ := hn
     have e1 := sum_opp F (x := x1) (y := -y2)
     rw [show - -y2 = y2 from rg_neg_neg y2] at e1
     rw [e1, sum_zero_l]
   . obtain ⟨l, hl⟩ := slope_ex F h1 h2 hn
     have h4 := on_sum h1 hl
     have g2 := h2.neg
     rw [sum_by F h1 h2 hn hl]
     have ha := hl.a
     have hb := hl.b
     have hs : Sl (l * l - x1 - x2) (l * (x1 - (l * l - x1 - x2)) - y1) x2 (-y2) (-l) := ⟨rg1 [x1, y1, x2, y2, l] ha (-1), rg1 [x1, y1, x2, y2, l] hb 1⟩
     have hm : ¬ (l * l - x1 - x2 = x2 /\ l * (x1 - (l * l - x1 - x2)) - y1 = - -y2) := by
      rintro ⟨k1, k2⟩
      have hy0 : y2 = 0 := F.two (rg3 [x1, y1, x2, y2, l] k1 (-l) k2 (-1) ha (-1))
      subst hy0
      exact smooth F h2 (rg3 [x1, y1, x2, l] hb 1 ha l k1 (x1 - x2))
     rw [sum_by F h4 g2 hm hs]
     unfold pt
     congr 1
     . exact rg [x1, x2, l]
     . exact rg [x1, y1, x2, l]
theorem br_a {x1 x2 x3 y2 l m : K} (h1 : x1 * x1 + x1 * x2 + x2 * x2 + 1 = l * (y2 + l * (x1 - x2) + y2)) (h2 : x2 * x2 + x2 * x3 + x3 * x3 + 1 = m * (y2 + (y2 + m * (x3 - x2)))) {x4 x5 y4 s : K}
 (e4 : x4 = l * l - x1 - x2) (e5 : x5 = m * m - x2 - x3) (f4 : y4 = l * (x2 - x4) - y2) (es : s = x1 + x5 - x3 - x4) :
 (l - m + (l - m)) * (y4 - (y2 + m * (x3 - x2))) = (s - (l - m) * (l - m)) * (x4 - x3) := by
 subst e4 e5 f4 es
 exact rg2 [x1, x2, x3, y2, l, m] h1 (1 + 1) h2 (-(1 + 1))
theorem br_b {x1 x2 x3 y2 l m : K} (h1 : x1 * x1 + x1 * x2 + x2 * x2 + 1 = l * (y2 + l * (x1 - x2) + y2)) (h2 : x2 * x2 + x2 * x3 + x3 * x3 + 1 = m * (y2 + (y2 + m * (x3 - x2)))) {x4 x5 y4 s : K}
 (e4 : x4 = l * l - x1 - x2) (e5 : x5 = m * m - x2 - x3) (f4 : y4 = l * (x2 - x4) - y2) (es : s = x1 + x5 - x3 - x4) :
 (l - m + (l - m)) * (x4 * x4 + x4 * x3 + x3 * x3 + 1) = (s - (l - m) * (l - m)) * (y4 + (y2 + m * (x3 - x2))) := by
 subst e4 e5 f4 es
 exact rg2 [x1, x2, x3, y2, l, m] h1 (-(m + m)) h2 (l + l)
theorem div_by {D i u N v : K} (hi : D * i = 1) (A : D * u = N * v) : u = N * i * v := rg2 [D, u, N, v, i] A i hi (-u)
theorem mv_a {y1 y2 l x1 x2 : K} (h : y1 - y2 = l * (x1 - x2)) : y1 = y2 + l * (x1 - x2) := rg1 [x1, x2, y1, y2, l] h 1
theorem mv_b {y2 y3 m x2 x3 : K} (h : y2 - y3 = m * (x2 - x3)) : y3 = y2 + m * (x3 - x2) := rg1 [x2, x3, y2, y3, m] h (-1)
theorem mv_c {y1 y2 y4 l x1 x2 x4 : K} (h : y4 = l * (x1 - x4) - y1) (f : y1 = y2 + l * (x1 - x2)) : y4 = l * (x2 - x4) - y2 := rg2 [x1, x2, x4, y1, y2, y4, l] h 1 f (-1)
theorem mv_e {a b c d : K} (h : a = b - c - d) : a = b - d - c := rg1 [a, b, c, d] h 1
theorem mv_f {r n l m : K} (h : n + l = r + m) : r = n + l - m := rg1 [r, n, l, m] h (-1)
theorem mv_g {x2 x3 m y2 : K} (h : x2 * x2 + x2 * x3 + x3 * x3 + 1 = m * (y2 + (y2 + m * (x3 - x2)))) : x3 * x3 + x3 * x2 + x2 * x2 + 1 = m * (y2 + m * (x3 - x2) + y2) := rg1 [x2, x3, m, y2] h 1
theorem mv_h {x1 x2 l y2 : K} (h : x1 * x1 + x1 * x2 + x2 * x2 + 1 = l * (y2 + l * (x1 - x2) + y2)) : x2 * x2 + x2 * x1 + x1 * x1 + 1 = l * (y2 + (y2 + l * (x1 - x2))) := rg1 [x1, x2, l, y2] h 1
theorem mv_i {l m y1 y5 x1 x3 x4 x5 : K} (h : (m - l + (m - l)) * (y5 - y1) = (x3 + x4 - x1 - x5 - (m - l) * (m - l)) * (x5 - x1)) : (l - m + (l - m)) * (y1 - y5) = (x1 + x5 - x3 - x4 + (l - m) * (l - m)) * (x1 - x5) := rg1 [l, m, y1, y5, x1, x3, x4, x5] h 1
theorem mv_j {l m y1 y5 x1 x3 x4 x5 : K} (h : (m - l + (m - l)) * (x5 * x5 + x5 * x1 + x1 * x1 + 1) = (x3 + x4 - x1 - x5 - (m - l) * (m - l)) * (y5 + y1)) : (l - m + (l - m)) * (x1 * x1 + x1 * x5 + x5 * x5 + 1) = (x1 + x5 - x3 - x4 + (l - m) * (l - m)) * (y1 + y5) := rg1 [l, m, y1, y5, x1, x3, x4, x5] h (-1)
theorem br_y {x1 x2 x3 x4 y1 y2 y3 y4 n r l m X : K} (hX : X = n * n - x4 - x3) (e4 : x4 = l * l - x1 - x2) (g : y4 = y3 + n * (x4 - x3)) (e : r = n + l - m)
 (f1 : y1 = y2 + l * (x1 - x2)) (f3 : y3 = y2 + m * (x3 - x2)) (k : (l - m) * (n + l) = x1 - x3) : n * (x4 - X) - y4 = r * (x1 - X) - y1 := by
 subst e g f1 f3 hX e4
 exact rg1 [x1, x2, x3, y2, n, l, m] k (n - l)
theorem br_n {s d n D i : K} (hi : D * i = 1) (en : n = (s - d) * i) : D * n = s - d := rg2 [s, d, n, D, i] en D hi (s - d)
theorem br_r {s d n D i : K} (hi : D * i = 1) (en : n = (s + d) * i) : D * n = s + d := rg2 [s, d, n, D, i] en D hi (s + d)
theorem br_s {s x1 x2 x3 x4 x5 l m : K} (es : s = x1 + x5 - x3 - x4) (e4 : x4 = l * l - x1 - x2) (e5 : x5 = m * m - x2 - x3) : s = x1 - x3 + (x1 - x3) + m * m - l * l := rg3 [s, x1, x2, x3, x4, x5, l, m] es 1 e4 (-1) e5 1
theorem br_k {s n l m x1 x3 D : K} (q0 : D * n = s - (l - m) * (l - m)) (q1 : s = x1 - x3 + (x1 - x3) + m * m - l * l) (eD : D = l - m + (l - m)) :
 ((l - m) * (n + l) - (x1 - x3)) + ((l - m) * (n + l) - (x1 - x3)) = 0 := rg3 [s, n, l, m, x1, x3, D] q0 1 q1 1 eD (-n)
theorem br_d {s n r l m D : K} (q0 : D * n = s - (l - m) * (l - m)) (q1 : D * r = s + (l - m) * (l - m)) (eD : D = l - m + (l - m)) : (n + l) * D = (r + m) * D := rg3 [s, n, r, l, m, D] q0 1 q1 (-1) eD (l - m)
theorem br_e {s n r l m D : K} (q0 : D * n = s - (l - m) * (l - m)) (q1 : D * r = s + (l - m) * (l - m)) (eD : D = l - m + (l - m)) : ((n + r) * (l - m) - s) + ((n + r) * (l - m) - s) = 0 := rg3 [s, n, r, l, m, D] q0 1 q1 1 eD (-(n + r))
theorem br_x {s n r l m x1 x3 x4 x5 : K} (h : n + l = r + m) (k : (n + r) * (l - m) = s) (es : s = x1 + x5 - x3 - x4) : n * n - x4 - x3 = r * r - x1 - x5 := rg3 [s, n, r, l, m, x1, x3, x4, x5] h (n + r) k (-1) es (-1)
theorem sub_zero_eq {x y : K} (h : x - y = 0) : x = y := rg_sub_eq h
theorem assoc_gen (F : Fd K iv e) {x1 y1 x2 y2 x3 y3 l m x4 y4 x5 y5 : K} (g1 : On x1 y1) (g3 : On x3 y3) (g4 : On x4 y4) (g5 : On x5 y5) (hl : Sl x1 y1 x2 y2 l) (hm : Sl x2 y2 x3 y3 m) (hd : l - m ≠ 0)
 (e4 : x4 = l * l - x1 - x2) (f4 : y4 = l * (x1 - x4) - y1) (e5 : x5 = m * m - x2 - x3) (f5 : y5 = m * (x2 - x5) - y2) (n4 : ¬ (x4 = x3 /\ y4 = -y3)) (n5 : ¬ (x1 = x5 /\ y1 = -y5)) :
 sumW iv e (pt x4 y4) (pt x3 y3) = sumW iv e (pt x1 y1) (pt x5 y5) := by
 obtain ⟨la, lb⟩ := hl
 obtain ⟨ma, mb⟩ := hm
 have f1 := mv_a la
 have f3 := mv_b ma
 have f4' := mv_c f4 f1
 have h1 : x1 * x1 + x1 * x2 + x2 * x2 + 1 = l * (y2 + l * (x1 - x2) + y2) := by rw [lb, <- f1]
 have h2 : x2 * x2 + x2 * x3 + x3 * x3 + 1 = m * (y2 + (y2 + m * (x3 - x2))) := by rw [mb, <- f3]
 have hD : l - m + (l - m) ≠ 0 := fun h => hd (F.two h)
 have hi := F.inv hD
 have A := br_a h1 h2 e4 e5 f4' (s := x1 + x5 - x3 - x4) rfl
 have B := br_b h1 h2 e4 e5 f4' (s := x1 + x5 - x3 - x4) rfl
 have A' := br_a (mv_g h2) (mv_h h1) (mv_e e5) (mv_e e4) f5 (s := x3 + x4 - x1 - x5) rfl
 have B' := br_b (mv_g h2) (mv_h h1) (mv_e e5) (mv_e e4) f5 (s := x3 + x4 - x1 - x5) rfl
 rw [<- f3] at A B
 rw [<- f1] at A' B'
 have A2 := mv_i A'
 have B2 := mv_j B'
 obtain ⟨D, eD⟩ : ∃ D, D = l - m + (l - m) := ⟨_, rfl⟩
 obtain ⟨i, ei⟩ : ∃ i, i = iv D := ⟨_, rfl⟩
 obtain ⟨s, es⟩ : ∃ s, s = x1 + x5 - x3 - x4 := ⟨_, rfl⟩
 rw [<- eD, <- ei] at hi
 rw [<- eD, <- es] at A B A2 B2
 have sn : Sl x4 y4 x3 y3 ((s - (l - m) * (l - m)) * i) := ⟨div_by hi A, div_by hi B⟩
 have sr : Sl x1 y1 x5 y5 ((s + (l - m) * (l - m)) * i) := ⟨div_by hi A2, div_by hi B2⟩
 rw [sum_by F g4 g3 n4 sn, sum_by F g1 g5 n5 sr]
 obtain ⟨n, en⟩ : ∃ n, n = (s - (l - m) * (l - m)) * i := ⟨_, rfl⟩
 obtain ⟨r, er⟩ : ∃ r, r = (s + (l - m) * (l - m)) * i := ⟨_, rfl⟩
 rw [<- en] at sn ⊢
 rw [<- er] at sr ⊢
 have q0 := br_n hi en
 have q1 := br_r hi er
 rw [<- eD] at hD
 have hnr := F.cancel hD (br_d q0 q1 eD)
 have hX := br_x hnr (sub_zero_eq (F.two (br_e q0 q1 eD))) es
 have k := sub_zero_eq (F.two (br_k q0 (br_s es e4 e5) eD))
 have hY := br_y (X := n * n - x4 - x3) rfl e4 (mv_a sn.a) (mv_f hnr) f1 f3 k
 rw [<- hX]
 unfold pt
 congr 1
theorem col_a {x1 x2 x3 x4 y2 l : K} (h1 : x1 * x1 + x1 * x2 + x2 * x2 + 1 = l * (y2 + l * (x1 - x2) + y2)) (h2 : x2 * x2 + x2 * x3 + x3 * x3 + 1 = l * (y2 + (y2 + l * (x3 - x2)))) (e4 : x4 = l * l - x1 - x2) : (x3 - x1) * (x3 - x4) = 0 := by
 subst e4
 exact rg2 [x1, x2, x3, y2, l] h1 (-1) h2 1
theorem col_b {x3 x4 y2 y3 y4 l x2 : K} (f4 : y4 = l * (x2 - x4) - y2) (f3 : y3 = y2 + l * (x3 - x2)) (h : x3 - x4 = 0) : y4 = -y3 := rg3 [x2, x3, x4, y2, y3, y4, l] f4 1 f3 1 h l
theorem col_c {x1 x2 x3 y1 y2 y3 l : K} (f1 : y1 = y2 + l * (x1 - x2)) (f3 : y3 = y2 + l * (x3 - x2)) (h : x3 - x1 = 0) : y3 = y1 := rg3 [x1, x2, x3, y1, y2, y3, l] f1 (-1) f3 1 h l
theorem sum_assoc (F : Fd K iv e) {p q r : Ap K} (hp : Pt p) (hq : Pt q) (hr : Pt r) : sumW iv e (sumW iv e p q) r = sumW iv e p (sumW iv e q r) := by
 have back : ∀ {p r : Ap K}, Pt p -> Pt r -> sumW iv e p (sumW iv e (negK p) r) = r := fun {p r} hp hr => by
  rw [sum_comm F (neg_pt hp) hr, sum_comm F hp (sum_pt F hr (neg_pt hp))]
  have := sum_cancel F hr (neg_pt hp)
  rw [neg_neg_pt] at this
  exact this
 by_cases pq : q = negK p
 . subst pq
   rw [sum_neg F hp, sum_zero_l, back hp hr]
 by_cases qr : r = negK q
 . subst qr
   rw [sum_neg F hq, hp.add0, sum_cancel F hp hq]
 by_cases pqr : r = negK (sumW iv e p q)
 . have hpq := sum_pt F hp hq
   subst pqr
   rw [sum_neg F hpq]
   have h1 := sum_cancel F hp hq
   have h2 := neg_sum F hpq (neg_pt hq)
   rw [h1, neg_neg_pt] at h2
   rw [sum_comm F hq (neg_pt hpq), <- h2, sum_neg F hp]
 by_cases qrp : sumW iv e q r = negK p
 . rw [qrp, sum_neg F hp]
   exfalso
   apply pqr
   rw [neg_sum F hp hq, <- qrp, sum_comm F hq hr, sum_cancel F hr hq]
 cases hp with
 | zero => rw [sum_zero_l, sum_zero_l]
 | of g1 =>
  cases hq with
  | zero => rw [sum_zero_r _ (fun h => by cases h), sum_zero_l]
  | of g2 =>
   cases hr with
   | zero => rw [(sum_pt F (.of g1) (.of g2)).add0, sum_zero_r _ (fun h => by cases h)]
   | of g3 =>
    rename_i x1 y1 x2 y2 x3 y3
    have n1 : ¬ (x1 = x2 /\ y1 = -y2) := fun h => pq (by
     rw [neg_of]; unfold pt; rw [h.1, h.2]; congr 1; exact (rg_neg_neg _).symm)
    have n2 : ¬ (x2 = x3 /\ y2 = -y3) := fun h => qr (by
     rw [neg_of]; unfold pt; rw [h.1, h.2]; congr 1; exact (rg_neg_neg _).symm)
    obtain ⟨l, hl⟩ := slope_ex F g1 g2 n1
    obtain ⟨m, hm⟩ := slope_ex F g2 g3 n2
    have s1 := sum_by F g1 g2 n1 hl
    have s2 := sum_by F g2 g3 n2 hm
    have g4 := on_sum g1 hl
    have g5 := on_sum g2 hm
    rw [s1] at pqr ⊢
    rw [s2] at qrp ⊢
    obtain ⟨x4, e4⟩ : ∃ x4, x4 = l * l - x1 - x2 := ⟨_, rfl⟩
    rw [<- e4] at g4 pqr ⊢
    obtain ⟨y4, f4⟩ : ∃ y4, y4 = l * (x1 - x4) - y1 := ⟨_, rfl⟩
    rw [<- f4] at g4 pqr ⊢
    obtain ⟨x5, e5⟩ : ∃ x5, x5 = m * m - x2 - x3 := ⟨_, rfl⟩
    rw [<- e5] at g5 qrp ⊢
    obtain ⟨y5, f5⟩ : ∃ y5, y5 = m * (x2 - x5) - y2 := ⟨_, rfl⟩
    rw [<- f5] at g5 qrp ⊢
    have n4 : ¬ (x4 = x3 /\ y4 = -y3) := fun h => pqr (by
     rw [neg_of]; unfold pt; rw [h.1, h.2]; congr 1; exact (rg_neg_neg _).symm)
    have n5 : ¬ (x1 = x5 /\ y1 = -y5) := fun h => qrp (by
     rw [neg_of]; unfold pt; rw [h.1, h.2]; congr 1; exact (rg_neg_neg _).symm)
    by_cases hd : l - m = 0
    . have : l = m := sub_zero_eq hd
      subst this
      have f1 := mv_a hl.a
      have f3 := mv_b hm.a
      have f4' := mv_c f4 f1
      have h1 : x1 * x1 + x1 * x2 + x2 * x2 + 1 = l * (y2 + l * (x1 - x2) + y2) := by rw [hl.b, <- f1]
      have h2 : x2 * x2 + x2 * x3 + x3 * x3 + 1 = l * (y2 + (y2 + l * (x3 - x2))) := by rw [hm.b, <- f3]
      rcases F.zero_or (col_a h1 h2 e4) with h | h
      . have hy := col_c f1 f3 h
        have hx := sub_zero_eq h
        subst hx hy
        have : x5 = x4 := by rw [e4, e5]; exact mv_e rfl
        subst this
        have : y5 = y4 := by rw [f4', f5]
        subst this
        exact sum_comm F (.of g4) (.of g3)
      . exact absurd ⟨(sub_zero_eq h).symm, col_b f4' f3 h⟩ n4
    . exact assoc_gen F g1 g3 g4 g5 hl hm hd e4 f4 e5 f5 n4 n5
end
end Go.Rq.Cw

namespace Go.Rq.Cw
set_option synthInstance.maxSize 100000
set_option synthInstance.maxHeartbeats 400000
section
variable {K : Type} [Rg K] {iv : K -> K} {e : K -> K -> Bool}
def nsm (iv : K -> K) (e : K -> K -> Bool) (A : Ap K) : Nat -> Ap K
 | 0 => ⟨0, 0, true⟩
 | n + 1 => sumW iv e (nsm iv e A n) A
theorem nsm_pt (F : Fd K iv e) {A : Ap K} (hA : Pt A) : ∀ n : Nat, Pt (nsm iv e A n)
 | 0 => .zero
 | n + 1 => sum_pt F (nsm_pt F hA n) hA
theorem nsm_add (F : Fd K iv e) {A : Ap K} (hA : Pt A) (m : Nat) : ∀ n : Nat, nsm iv e A (m + n) = sumW iv e (nsm iv e A m) (nsm iv e A n)
 | 0 => (nsm_pt F hA m).add0.symm
 | n + 1 => by
  show sumW iv e (nsm iv e A (m + n)) A = sumW iv e (nsm iv e A m) (sumW iv e (nsm iv e A n) A)
  rw [nsm_add F hA m n, sum_assoc F (nsm_pt F hA m) (nsm_pt F hA n) hA]
theorem nsm_mul (F : Fd K iv e) {A : Ap K} (hA : Pt A) (m : Nat) : ∀ n : Nat, nsm iv e A (m * n) = nsm iv e (nsm iv e A m) n
 | 0 => rfl
 | n + 1 => by
  show nsm iv e A (m * n + m) = sumW iv e (nsm iv e (nsm iv e A m) n) (nsm iv e A m)
  rw [nsm_add F hA, nsm_mul F hA m n]
theorem nsm_zero (n : Nat) : nsm iv e (⟨0, 0, true⟩ : Ap K) n = ⟨0, 0, true⟩ := by
 induction n with
 | zero => rfl
 | succ n ih =>
  show sumW iv e (nsm iv e (⟨0, 0, true⟩ : Ap K) n) ⟨0, 0, true⟩ = _
  rw [ih]; rfl
theorem nsm_mod (F : Fd K iv e) {A : Ap K} (hA : Pt A) {r : Nat} (hr : nsm iv e A r = ⟨0, 0, true⟩) (n : Nat) : nsm iv e A n = nsm iv e A (n % r) := by
 have h := Nat.div_add_mod n r
 have h1 : nsm iv e A (r * (n / r) + n % r) = nsm iv e A (n % r) := by
  rw [nsm_add F hA, nsm_mul F hA, hr, nsm_zero]
  rfl
 rw [h] at h1
 exact h1
theorem nsm_gcd (F : Fd K iv e) {A : Ap K} (hA : Pt A) (x y : Nat) : nsm iv e A x = ⟨0, 0, true⟩ -> nsm iv e A y = ⟨0, 0, true⟩ -> nsm iv e A (Nat.gcd x y) = ⟨0, 0, true⟩ := by
 induction x, y using Nat.gcd.induction with
 | H0 y => intro _ hy; rw [Nat.gcd_zero_left]; exact hy
 | H1 x y hx ih =>
  intro h1 h2
  rw [Nat.gcd_rec]
  exact ih (by rw [<- nsm_mod F hA h1]; exact h2) h1
theorem nsm_one (A : Ap K) : nsm iv e A 1 = A := by
 show sumW iv e ⟨0, 0, true⟩ A = A
 exact sum_zero_l
theorem nsm_none (F : Fd K iv e) {A : Ap K} (hA : Pt A) {r : Nat} (hp : Pr r) (hr : nsm iv e A r = ⟨0, 0, true⟩) (h0 : A.zero = false) (n : Nat) : (nsm iv e A n).zero = decide (n % r = 0) := by
 by_cases h : n % r = 0
 . rw [nsm_mod F hA hr, h, decide_eq_true rfl]
   rfl
 . rw [decide_eq_false h]
   cases hz : (nsm iv e A n).zero with
   | false => rfl
   | true =>
    exfalso
    have h1 := (nsm_pt F hA n).z hz
    have h2 := nsm_gcd F hA r n hr h1
    have hc : Nat.Coprime r n := hp.coprime (fun hd => h (Nat.mod_eq_zero_of_dvd hd))
    rw [hc, nsm_one] at h2
    rw [h2] at h0
    cases h0
end
end Go.Rq.Cw

namespace Go.Rq
theorem pr_786251 : Pr 786251 := Pr.of_trial (k := 890) (by decide +kernel) (by decide +kernel) (by decide +kernel)
theorem pr_65521 : Pr 65521 := Pr.of_trial (k := 260) (by decide +kernel) (by decide +kernel) (by decide +kernel)
theorem pr_6868571 : Pr 6868571 := Pr.of_trial (k := 2700) (by decide +kernel) (by decide +kernel) (by decide +kernel)
theorem pr_10056583 : Pr 10056583 := Pr.of_trial (k := 3200) (by decide +kernel) (by decide +kernel) (by decide +kernel)
theorem pr_192153584101141037 : Pr 192153584101141037 := pr_pock (a := 2) 44 (by decide +kernel) (by decide +kernel) pr_10056583 (by decide +kernel) (by decide +kernel) (by decide +kernel)
theorem pr_1152921504606846223 : Pr 1152921504606846223 := pr_pock (a := 2) 0 (by decide +kernel) (by decide +kernel) pr_192153584101141037 (by decide +kernel) (by decide +kernel) (by decide +kernel)
theorem pr_72057594037927889 : Pr 72057594037927889 := pr_pock (a := 2) 40 (by decide +kernel) (by decide +kernel) pr_6868571 (by decide +kernel) (by decide +kernel) (by decide +kernel)
end Go.Rq

namespace Go.Rq
set_option synthInstance.maxSize 100000
set_option synthInstance.maxHeartbeats 400000
section
variable {K : Type} [Rg K] {iv : K -> K} {e : K -> K -> Bool}
inductive Jr : Jp K -> Ap K -> Prop
 | none {u : Jp K} (h : u.z = 0) : Jr u ⟨0, 0, true⟩
 | of {u : Jp K} {x y : K} (hz : u.z ≠ 0) (hx : u.x = x * (u.z * u.z)) (hy : u.y = y * (u.z * u.z * u.z)) : Jr u (pt x y)
theorem jl_x {x z i ux : K} (hi : z * i = 1) (h : ux = x * (z * z)) : ux * (i * i) = x := rg2 [x, z, i, ux] h (i * i) hi (x * (z * i + 1))
theorem jl_y {y z i uy : K} (hi : z * i = 1) (h : uy = y * (z * z * z)) : uy * (i * i * i) = y := rg2 [y, z, i, uy] h (i * i * i) hi (y * (z * i * (z * i) + z * i + 1))
theorem jr_low (F : Fd K iv e) {u : Jp K} {A : Ap K} (h : Jr u A) : lowerE (foK iv) e u = A := by
 unfold lowerE
 rw [show (foK iv).zero = (0 : K) from rfl]
 cases h with
 | none h => rw [F.eq.2 h]; rfl
 | of hz hx hy =>
  have hi := F.inv hz
  rw [F.ne hz, cond_false]
  exact Ap.ext3 (jl_x hi hx) (jl_y hi hy) rfl
theorem jt_x {x y z l : K} (hb : x * x + x * x + x * x = l * (y + y)) {ux uy : K} (hx : ux = x * (z * z)) (hy : uy = y * (z * z * z)) :
 (ux * ux + ux * ux + ux * ux) * (ux * ux + ux * ux + ux * ux) - (ux * (uy * uy) + ux * (uy * uy) + (ux * (uy * uy) + ux * (uy * uy)) + (ux * (uy * uy) + ux * (uy * uy) + (ux * (uy * uy) + ux * (uy * uy)))) = (l * l - x - x) * ((uy * z + uy * z) * (uy * z + uy * z)) := by
 subst hx hy
 have h1 : x * (z * z) * (x * (z * z)) + x * (z * z) * (x * (z * z)) + x * (z * z) * (x * (z * z)) = l * (y + y) * (z * z * z * z) := by rw [<- hb]; exact rg [x, y, z]
 rw [h1]
 exact rg [x, y, z, l]
theorem jt_y {x y z l : K} (hb : x * x + x * x + x * x = l * (y + y)) {ux uy X : K} (hx : ux = x * (z * z)) (hy : uy = y * (z * z * z)) (hX : X = (l * l - x - x) * ((uy * z + uy * z) * (uy * z + uy * z))) :
 (ux * ux + ux * ux + ux * ux) * (ux * (uy * uy) + ux * (uy * uy) + (ux * (uy * uy) + ux * (uy * uy)) - X) - (uy * uy * (uy * uy) + uy * uy * (uy * uy) + (uy * uy * (uy * uy) + uy * uy * (uy * uy)) + (uy * uy * (uy * uy) + uy * uy * (uy * uy) + (uy * uy * (uy * uy) + uy * uy * (uy * uy)))) =
  (l * (x - (l * l - x - x)) - y) * ((uy * z + uy * z) * (uy * z + uy * z) * (uy * z + uy * z)) := by
 subst hx hy hX
 have h1 : x * (z * z) * (x * (z * z)) + x * (z * z) * (x * (z * z)) + x * (z * z) * (x * (z * z)) = l * (y + y) * (z * z * z * z) := by rw [<- hb]; exact rg [x, y, z]
 rw [h1]
 exact rg [x, y, z, l]
theorem jr_twice (F : Fd K iv e) {b : K} (C : Cv F b) {u : Jp K} {A : Ap K} (h : Jr u A) (hA : Pt b A) : Jr (twiceJ (foK iv) u) (sumA iv e A A) := by
 cases h with
 | none h => exact .none (by rw [twice_z, h]; exact rg [u.y])
 | of hz hx hy =>
  rename_i x y
  have hon : On b x y := by
   generalize hg : pt x y = A at hA
   cases hA with
   | zero => cases hg
   | of h =>
    have := Ap.mk.inj hg
    obtain ⟨rfl, rfl, -⟩ := this
    exact h
  have hy0 := C.y hon
  have hn : ¬ (x = x /\ y = -y) := fun h => hy0 (F.two (by have := h.2; exact rg1 [y] this 1))
  obtain ⟨l, hl⟩ := slope_ex F hon hon hn
  rw [sum_by F hon hon hn hl]
  have hx' := jt_x hl.b hx hy
  have hy' := jt_y hl.b hx hy hx'
  refine .of ?_ hx' hy'
  rw [twice_z, hy]
  intro h0
  have h1 := F.two h0
  exact F.ne_mul (F.ne_mul hy0 (F.ne_mul (F.ne_mul hz hz) hz)) hz h1
theorem js_h {x1 x2 z1 z2 : K} {u v : K} (hu : u = x1 * (z1 * z1)) (hv : v = x2 * (z2 * z2)) : v * (z1 * z1) - u * (z2 * z2) = (x2 - x1) * ((z1 * z1) * (z2 * z2)) := by subst hu hv; exact rg [x1, x2, z1, z2]
theorem js_r {y1 y2 z1 z2 : K} {u v : K} (hu : u = y1 * (z1 * z1 * z1)) (hv : v = y2 * (z2 * z2 * z2)) : v * ((z1 * z1) * z1) - u * ((z2 * z2) * z2) = (y2 - y1) * ((z1 * z1 * z1) * (z2 * z2 * z2)) := by subst hu hv; exact rg [y1, y2, z1, z2]
theorem js_x {x1 x2 y1 y2 z1 z2 l h r w3 u : K} (hh : h = (x2 - x1) * ((z1 * z1) * (z2 * z2))) (hr : r = (y2 - y1) * ((z1 * z1 * z1) * (z2 * z2 * z2))) (ha : y1 - y2 = l * (x1 - x2)) (hu : u = x1 * (z1 * z1) * (z2 * z2)) (hw : w3 = h * (z1 * z2)) :
 (r * r - h * h * h) - (u * (h * h) + u * (h * h)) = (l * l - x1 - x2) * (w3 * w3) := by
 have h1 : r = l * w3 := by
  subst hr hw hh
  have : y2 - y1 = l * (x2 - x1) := rg1 [x1, x2, y1, y2, l] ha (-1)
  rw [this]
  exact rg [x1, x2, z1, z2, l]
 subst h1 hu
 have h2 : h * h * h = (x2 - x1) * (w3 * w3) := by subst hw hh; exact rg [x1, x2, z1, z2]
 have h3 : x1 * (z1 * z1) * (z2 * z2) * (h * h) = x1 * (w3 * w3) := by subst hw; exact rg [x1, z1, z2, h]
 rw [h2, h3]
 exact rg [x1, x2, l, w3]
theorem js_y {x1 x2 y1 y2 z1 z2 l h r w3 u s X : K} (hh : h = (x2 - x1) * ((z1 * z1) * (z2 * z2))) (hr : r = (y2 - y1) * ((z1 * z1 * z1) * (z2 * z2 * z2))) (ha : y1 - y2 = l * (x1 - x2)) (hu : u = x1 * (z1 * z1) * (z2 * z2)) (hs : s = y1 * (z1 * z1 * z1) * (z2 * z2 * z2)) (hw : w3 = h * (z1 * z2))
 (hX : X = (l * l - x1 - x2) * (w3 * w3)) : r * (u * (h * h) - X) - s * (h * h * h) = (l * (x1 - (l * l - x1 - x2)) - y1) * (w3 * w3 * w3) := by
 have h1 : r = l * w3 := by
  subst hr hw hh
  have : y2 - y1 = l * (x2 - x1) := rg1 [x1, x2, y1, y2, l] ha (-1)
  rw [this]
  exact rg [x1, x2, z1, z2, l]
 have h3 : u * (h * h) = x1 * (w3 * w3) := by subst hw hu; exact rg [x1, z1, z2, h]
 have h4 : s * (h * h * h) = y1 * (w3 * w3 * w3) := by subst hw hs; exact rg [y1, z1, z2, h]
 rw [h1, h3, h4, hX]
 exact rg [x1, x2, y1, l, w3]
theorem jr_sum (F : Fd K iv e) {b : K} (C : Cv F b) (f : Fl K) {u v : Jp K} {A B : Ap K} (h : Jr u A) (k : Jr v B) (hA : Pt b A) (hB : Pt b B) : Jr (sumE (foK iv) e f u v) (sumA iv e A B) := by
 have z0 : (foK iv).zero = (0 : K) := rfl
 cases h with
 | none h =>
  unfold sumE
  rw [z0, F.eq.2 h, cond_true]
  exact k
 | of hz hx hy =>
  rename_i x1 y1
  have pt_of : ∀ {x y : K}, Pt b (pt x y) -> On b x y := fun {x y} hA => by
   generalize hg : pt x y = A at hA
   cases hA with
   | zero => cases hg
   | of h =>
    have := Ap.mk.inj hg
    obtain ⟨rfl, rfl, -⟩ := this
    exact h
  cases k with
  | none k =>
   unfold sumE
   rw [z0, F.ne hz, F.eq.2 k, cond_false, cond_true, sum_zero_r _ (fun h => by cases h)]
   exact .of hz hx hy
  | of kz kx ky =>
   rename_i x2 y2
   have hj : hJ (foK iv) u v = (x2 - x1) * ((u.z * u.z) * (v.z * v.z)) := js_h hx kx
   have rj : rJ (foK iv) u v = (y2 - y1) * ((u.z * u.z * u.z) * (v.z * v.z * v.z)) := js_r hy ky
   have hzz := F.ne_mul (F.ne_mul hz hz) (F.ne_mul kz kz)
   have hzzz := F.ne_mul (F.ne_mul (F.ne_mul hz hz) hz) (F.ne_mul (F.ne_mul kz kz) kz)
   have g1 := pt_of hA
   have g2 := pt_of hB
   have se : sumE (foK iv) e f u v = bif e (hJ (foK iv) u v) 0 then (bif e (rJ (foK iv) u v) 0 then twiceJ (foK iv) u else ⟨f.one, f.one, 0⟩) else sumJ (foK iv) u v := by
    unfold sumE
    rw [z0, F.ne hz, F.ne kz]
    rfl
   rw [se]
   by_cases hx12 : x1 = x2
   . subst hx12
     rw [F.eq.2 (show hJ (foK iv) u v = 0 by rw [hj]; exact rg [x1, u.z, v.z]), cond_true]
     by_cases hy12 : y1 = y2
     . subst hy12
       rw [F.eq.2 (show rJ (foK iv) u v = 0 by rw [rj]; exact rg [y1, u.z, v.z]), cond_true]
       exact jr_twice F C (.of hz hx hy) hA
     . rw [F.ne (show rJ (foK iv) u v ≠ 0 by rw [rj]; exact F.ne_mul (fun h => hy12 (sub_zero_eq h).symm) hzzz), cond_false]
       have : y1 = -y2 := by
        unfold On at g1 g2
        have hs : (y1 - y2) * (y1 + y2) = 0 := rg2 [x1, y1, y2, b] g1 1 g2 (-1)
        rcases F.zero_or hs with h | h
        . exact absurd (sub_zero_eq h) hy12
        . exact rg1 [y1, y2] h 1
       subst this
       have e1 := sum_opp F (x := x1) (y := -y2)
       rw [show - -y2 = y2 from rg_neg_neg y2] at e1
       rw [e1]
       exact .none rfl
   . have hh : hJ (foK iv) u v ≠ 0 := by
      rw [hj]
      exact F.ne_mul (fun h => hx12 (sub_zero_eq h).symm) hzz
     rw [F.ne hh, cond_false]
     have hn : ¬ (x1 = x2 /\ y1 = -y2) := fun h => hx12 h.1
     obtain ⟨l, hl⟩ := slope_ex F g1 g2 hn
     rw [sum_by F g1 g2 hn hl]
     have hu : u.x * (v.z * v.z) = x1 * (u.z * u.z) * (v.z * v.z) := by rw [hx]
     have hs : u.y * (v.z * v.z * v.z) = y1 * (u.z * u.z * u.z) * (v.z * v.z * v.z) := by rw [hy]
     have X := js_x hj rj hl.a hu (w3 := hJ (foK iv) u v * (u.z * v.z)) rfl
     have Y := js_y hj rj hl.a hu hs (w3 := hJ (foK iv) u v * (u.z * v.z)) rfl X
     exact .of (F.ne_mul hh (F.ne_mul hz kz)) X Y
def nsm (iv : K -> K) (e : K -> K -> Bool) (A : Ap K) : Nat -> Ap K
 | 0 => ⟨0, 0, true⟩
 | n + 1 => sumA iv e (nsm iv e A n) A
theorem nsm_pt (F : Fd K iv e) {b : K} {A : Ap K} (hA : Pt b A) : ∀ n : Nat, Pt b (nsm iv e A n)
 | 0 => .zero
 | n + 1 => sum_pt F (nsm_pt F hA n) hA
theorem nsm_add (F : Fd K iv e) {b : K} (C : Cv F b) {A : Ap K} (hA : Pt b A) (m : Nat) : ∀ n : Nat, nsm iv e A (m + n) = sumA iv e (nsm iv e A m) (nsm iv e A n)
 | 0 => (nsm_pt F hA m).add0.symm
 | n + 1 => by
  show sumA iv e (nsm iv e A (m + n)) A = sumA iv e (nsm iv e A m) (sumA iv e (nsm iv e A n) A)
  rw [nsm_add F C hA m n, sum_assoc F C (nsm_pt F hA m) (nsm_pt F hA n) hA]
theorem nsm_mul (F : Fd K iv e) {b : K} (C : Cv F b) {A : Ap K} (hA : Pt b A) (m : Nat) : ∀ n : Nat, nsm iv e A (m * n) = nsm iv e (nsm iv e A m) n
 | 0 => rfl
 | n + 1 => by
  show nsm iv e A (m * n + m) = sumA iv e (nsm iv e (nsm iv e A m) n) (nsm iv e A m)
  rw [nsm_add F C hA, nsm_mul F C hA m n]
theorem nsm_zero (n : Nat) : nsm iv e (⟨0, 0, true⟩ : Ap K) n = ⟨0, 0, true⟩ := by
 induction n with
 | zero => rfl
 | succ n ih =>
  show sumA iv e (nsm iv e (⟨0, 0, true⟩ : Ap K) n) ⟨0, 0, true⟩ = _
  rw [ih]; rfl
end
end Go.Rq

namespace Go.Rq
open Go
theorem bitsV_mod (x : Nat) : ∀ k : Nat, bitsV (fun i => Nat.testBit x i) k = x % 2 ^ k
 | 0 => by simp [bitsV, Nat.mod_one]
 | k + 1 => by
  simp only [bitsV]
  rw [bitsV_mod x k, Nat.mod_pow_succ]
  have e : Nat.testBit x k = decide (x / 2 ^ k % 2 = 1) := Nat.testBit_eq_decide_div_mod_eq
  rw [e]
  rcases Nat.mod_two_eq_zero_or_one (x / 2 ^ k) with h | h
  . rw [h]; simp
  . rw [h]; simp
theorem bitsV_congr {b c : Nat -> Bool} (h : ∀ i, b i = c i) : ∀ k : Nat, bitsV b k = bitsV c k
 | 0 => rfl
 | k + 1 => by simp only [bitsV, h, bitsV_congr h k]
theorem word_test (w : BitVec 64) (j : Nat) : (((w >>> j) &&& 1#64) == 1#64) = Nat.testBit w.toNat j := by
 have hb : ((w >>> j) &&& 1#64).toNat = (w.toNat >>> j) % 2 := by
  rw [BitVec.toNat_and, BitVec.toNat_ushiftRight, show (1#64).toNat = 1 from rfl, Nat.and_one_is_mod]
 rw [Bool.eq_iff_iff, beq_iff_eq]
 unfold Nat.testBit
 rw [Nat.and_comm, Nat.and_one_is_mod]
 constructor
 . intro h
   rw [h] at hb
   rw [<- hb]; rfl
 . intro h
   apply BitVec.eq_of_toNat_eq
   rw [hb]
   have : (w.toNat >>> j) % 2 ≠ 0 := by simpa using h
   show _ = 1
   omega
theorem val_word (n : W6) {j : Nat} (hj : j < 6) : n.val / 2 ^ (64 * j) % 2 ^ 64 = (n.get j).toNat := by
 obtain ⟨a0, a1, a2, a3, a4, a5⟩ := n
 have g0 := a0.isLt; have g1 := a1.isLt; have g2 := a2.isLt; have g3 := a3.isLt; have g4 := a4.isLt; have g5 := a5.isLt
 have p0 : (2 : Nat) ^ (64 * 0) = 1 := by decide +kernel
 have p1 : (2 : Nat) ^ (64 * 1) = 18446744073709551616 := by decide +kernel
 have p2 : (2 : Nat) ^ (64 * 2) = 340282366920938463463374607431768211456 := by decide +kernel
 have p3 : (2 : Nat) ^ (64 * 3) = 6277101735386680763835789423207666416102355444464034512896 := by decide +kernel
 have p4 : (2 : Nat) ^ (64 * 4) = 115792089237316195423570985008687907853269984665640564039457584007913129639936 := by decide +kernel
 have p5 : (2 : Nat) ^ (64 * 5) = 2135987035920910082395021706169552114602704522356652769947041607822219725780640550022962086936576 := by decide +kernel
 have p : (2 : Nat) ^ 64 = 18446744073709551616 := by decide +kernel
 rw [p] at g0 g1 g2 g3 g4 g5 ⊢
 have q0 : W6.val ⟨a0, a1, a2, a3, a4, a5⟩ / 1 % 18446744073709551616 = a0.toNat := by simp only [W6.val]; omega
 have q1 : W6.val ⟨a0, a1, a2, a3, a4, a5⟩ / 18446744073709551616 % 18446744073709551616 = a1.toNat := by simp only [W6.val]; omega
 have q2 : W6.val ⟨a0, a1, a2, a3, a4, a5⟩ / 340282366920938463463374607431768211456 % 18446744073709551616 = a2.toNat := by simp only [W6.val]; omega
 have q3 : W6.val ⟨a0, a1, a2, a3, a4, a5⟩ / 6277101735386680763835789423207666416102355444464034512896 % 18446744073709551616 = a3.toNat := by simp only [W6.val]; omega
 have q4 : W6.val ⟨a0, a1, a2, a3, a4, a5⟩ / 115792089237316195423570985008687907853269984665640564039457584007913129639936 % 18446744073709551616 = a4.toNat := by simp only [W6.val]; omega
 have q5 : W6.val ⟨a0, a1, a2, a3, a4, a5⟩ / 2135987035920910082395021706169552114602704522356652769947041607822219725780640550022962086936576 % 18446744073709551616 = a5.toNat := by simp only [W6.val]; omega
 have hc : j = 0 \/ j = 1 \/ j = 2 \/ j = 3 \/ j = 4 \/ j = 5 := by omega
 rcases hc with h | h | h | h | h | h
 . rw [h, p0]; exact q0
 . rw [h, p1]; exact q1
 . rw [h, p2]; exact q2
 . rw [h, p3]; exact q3
 . rw [h, p4]; exact q4
 . rw [h, p5]; exact q5
theorem lt_pow {x d k i : Nat} (h : x < d) (e : d = 2 ^ k) (hk : k <= i) : x < 2 ^ i := by
 subst e
 exact Nat.lt_of_lt_of_le h (Nat.pow_le_pow_right (by decide) hk)
theorem bit_test (n : W6) (i : Nat) : n.bit i = Nat.testBit n.val i := by
 unfold W6.bit
 rw [word_test]
 by_cases hi : i / 64 < 6
 . rw [<- val_word n hi, Nat.testBit_mod_two_pow, Nat.testBit_div_two_pow]
   rw [show decide (i % 64 < 64) = true from decide_eq_true (Nat.mod_lt _ (by decide)), Bool.true_and, show i % 64 + 64 * (i / 64) = i by omega]
 . have h1 : n.get (i / 64) = 0#64 := by
    unfold W6.get
    rw [List.getD_eq_getElem?_getD, List.getElem?_eq_none (by simp; omega)]
    rfl
   rw [h1]
   have h2 := n.val_lt
   have h4 : (39402006196394479212279040100143613805079739270465446667948293404245721771497210611414266254884915640806627990306816 : Nat) = 2 ^ 384 := by decide +kernel
   have h3 : n.val < 2 ^ i := lt_pow h2 h4 (by omega)
   rw [Nat.testBit_lt_two_pow h3]
   show Nat.testBit 0 _ = false
   rw [Nat.zero_testBit]
theorem bitsV_val (n : W6) {l : Nat} (h : ∀ i, l <= i -> n.bit i = false) : bitsV n.bit l = n.val := by
 rw [bitsV_congr (bit_test n), bitsV_mod]
 apply Nat.mod_eq_of_lt
 exact Nat.lt_pow_two_of_testBit n.val fun i hi => by rw [<- bit_test]; exact h i hi
section
variable {K : Type} [Rg K] {iv : K -> K} {e : K -> K -> Bool}
theorem jr_run (F : Fd K iv e) {b : K} (C : Cv F b) (f : Fl K) (w : Nat -> Bool) {p : Jp K} {A : Ap K} (hp : Jr p A) (hA : Pt b A) : ∀ (k m : Nat) {u : Jp K}, Jr u (nsm iv e A m) -> Jr (runK iv e f w p k u) (nsm iv e A (m * 2 ^ k + bitsV w k))
 | 0, m, u, hu => by
  rw [show m * 2 ^ 0 + bitsV w 0 = m by simp [bitsV]]
  exact hu
 | k + 1, m, u, hu => by
  simp only [runK]
  have ht := jr_twice F C hu (nsm_pt F hA m)
  rw [<- nsm_add F C hA, <- Nat.two_mul] at ht
  have e1 : m * 2 ^ (k + 1) = 2 * m * 2 ^ k := by rw [Nat.pow_succ, Nat.mul_comm 2 m, Nat.mul_assoc, Nat.mul_comm 2 (2 ^ k)]
  cases hw : w k with
  | false =>
   have := jr_run F C f w hp hA k (2 * m) ht
   rw [show m * 2 ^ (k + 1) + bitsV w (k + 1) = 2 * m * 2 ^ k + bitsV w k by simp only [bitsV, hw, cond_false]; rw [e1]; omega]
   exact this
  | true =>
   have hs := jr_sum F C f ht hp (nsm_pt F hA (2 * m)) hA
   have := jr_run F C f w hp hA k (2 * m + 1) (u := sumE (foK iv) e f (twiceJ (foK iv) u) p) hs
   rw [show m * 2 ^ (k + 1) + bitsV w (k + 1) = (2 * m + 1) * 2 ^ k + bitsV w k by simp only [bitsV, hw, cond_true]; rw [e1, Nat.add_mul]; omega]
   exact this
theorem jr_raise (F : Fd K iv e) {f : Fl K} (hf : f.one = 1) {b : K} {A : Ap K} (hA : Pt b A) : Jr (raiseJ (foK iv) f A) A := by
 cases hA with
 | zero => exact .none rfl
 | of h =>
  rename_i x y
  have hr : raiseJ (foK iv) f (pt x y) = ⟨x, y, 1⟩ := by
   show (⟨x, y, f.one⟩ : Jp K) = _
   rw [hf]
  rw [hr]
  exact .of F.one (by show x = x * (1 * 1); exact rg [x]) (by show y = y * (1 * 1 * 1); exact rg [y])
end
end Go.Rq

namespace Go.Rq.Sm
open Go.Rq
set_option synthInstance.maxSize 100000
set_option synthInstance.maxHeartbeats 400000
instance neP (s : Su) : NeZero (suP s) := ⟨by cases s <;> decide⟩
abbrev Fsu (s : Su) : Type := Fin (suP s)
theorem pr_suP (s : Su) : Pr (suP s) := by
 cases s
 . exact pr_786251
 . exact pr_1152921504606846223
theorem suP_big (s : Su) : 3 <= suP s := by cases s <;> decide
theorem suP_60 (s : Su) : suP s <= 1152921504606846223 := by cases s <;> decide +kernel
theorem fdS (s : Su) : Fd (Fsu s) ivF eqF := fdF (pr_suP s) (suP_big s)
section
variable {s : Su}
def fw (x : Fsu s) : BitVec 64 := BitVec.ofNat 64 x.val
theorem fw_nat (x : Fsu s) : (fw x).toNat = x.val := by
 unfold fw
 rw [BitVec.toNat_ofNat, Nat.mod_eq_of_lt]
 have := x.isLt
 have := suP_60 s
 omega
theorem fw_inj {x y : Fsu s} (h : fw x = fw y) : x = y := by
 apply Fin.ext
 rw [<- fw_nat, <- fw_nat, h]
theorem fw_of {a : BitVec 64} (h : a.toNat < suP s) : a = fw (s := s) ⟨a.toNat, h⟩ := by
 apply BitVec.eq_of_toNat_eq
 rw [fw_nat]
theorem fw_beq (x y : Fsu s) : (fw x == fw y) = eqF x y := by
 rw [Bool.eq_iff_iff, beq_iff_eq, eqF_iff]
 exact ⟨fw_inj, fun h => by rw [h]⟩
theorem fw_zero : fw (0 : Fsu s) = 0#64 := by
 apply BitVec.eq_of_toNat_eq
 rw [fw_nat]; rfl
theorem fw_one : fw (1 : Fsu s) = 1#64 := by
 apply BitVec.eq_of_toNat_eq
 rw [fw_nat]
 show 1 % suP s = 1
 exact Nat.mod_eq_of_lt (by have := suP_big s; omega)
theorem lAdd_fw (x y : Fsu s) : lAdd s (fw x) (fw y) = fw (x + y) := by
 apply BitVec.eq_of_toNat_eq
 unfold lAdd
 have hx := x.isLt; have hy := y.isLt; have := suP_60 s
 rw [BitVec.toNat_umod, BitVec.toNat_add, fw_nat, fw_nat, fw_nat, suB_nat, Nat.mod_eq_of_lt (a := x.val + y.val) (by omega)]
 rfl
theorem lMul_fw (x y : Fsu s) : lMul s (fw x) (fw y) = fw (x * y) := by
 unfold lMul fw
 congr 1
 show (fw x).toNat * (fw y).toNat % suP s = _
 rw [fw_nat, fw_nat]
 rfl
theorem rNeg_fw (x : Fsu s) : rNeg s (fw x) = fw (-x) := by
 apply BitVec.eq_of_toNat_eq
 unfold rNeg
 have hx := x.isLt; have := suP_60 s
 rw [BitVec.toNat_umod, BitVec.toNat_sub, fw_nat, fw_nat, suB_nat]
 have h1 : (2 ^ 64 - x.val + suP s) % 2 ^ 64 = suP s - x.val := by omega
 rw [h1]
 show _ = ((suP s - x.val) % suP s)
 rfl
theorem rSub_fw (x y : Fsu s) : rSub s (fw x) (fw y) = fw (x - y) := by
 unfold rSub
 rw [rNeg_fw, lAdd_fw, Rg.sub_eq]
theorem lSub_fw (x y : Fsu s) : lSub s (fw x) (fw y) = fw (x - y) := by
 rw [<- rSub_fw]
 apply BitVec.eq_of_toNat_eq
 unfold lSub rSub lAdd rNeg
 have hx := x.isLt; have hy := y.isLt; have := suP_60 s
 simp only [BitVec.toNat_umod, BitVec.toNat_sub, BitVec.toNat_add, fw_nat, suB_nat]
 have h1 : (2 ^ 64 - y.val + (x.val + suP s) % 2 ^ 64) % 2 ^ 64 = x.val + (suP s - y.val) := by omega
 have h2 : (2 ^ 64 - y.val + suP s) % 2 ^ 64 = suP s - y.val := by omega
 rw [h1, h2]
 have h3 : (x.val + (suP s - y.val) % suP s) % 2 ^ 64 = x.val + (suP s - y.val) % suP s := by
  have := Nat.mod_lt (suP s - y.val) (suP_pos s)
  omega
 rw [h3, Nat.add_mod_mod]
theorem bitU_test (n : BitVec 64) (k : Nat) (h : k < 64) : bitU n (k : Int) = Nat.testBit n.toNat k := by
 unfold bitU
 rw [show Nat.min (k : Int).toNat 64 = k from Nat.min_eq_left (by omega)]
 exact word_test n k
theorem sqB_gen {A B : Type} (tw su : A -> A) (tw' su' : B -> B) (bc : Int -> Bool) (bt : Nat -> Bool) (m : B -> A) (P : B -> Prop) (h1 : ∀ u, P u -> tw (m u) = m (tw' u) /\ P (tw' u)) (h2 : ∀ u, P u -> su (m u) = m (su' u) /\ P (su' u)) :
 ∀ (k : Nat) (u : B), (∀ i, i < k -> bc (i : Int) = bt i) -> P u -> sqB tw su bc k (m u) = m (sqB tw' su' (fun z => bt z.toNat) k u) /\ P (sqB tw' su' (fun z => bt z.toNat) k u)
 | 0, u, _, hu => ⟨rfl, hu⟩
 | k + 1, u, hb, hu => by
  simp only [sqB]
  rw [hb k (by omega), (h1 u hu).1, show ((k : Nat) : Int).toNat = k from rfl]
  have hk : ∀ i, i < k -> bc (i : Int) = bt i := fun i hi => hb i (by omega)
  cases bt k with
  | true =>
   simp only [cond_true]
   rw [(h2 _ (h1 u hu).2).1]
   exact sqB_gen tw su tw' su' bc bt m P h1 h2 k _ hk (h2 _ (h1 u hu).2).2
  | false =>
   simp only [cond_false]
   exact sqB_gen tw su tw' su' bc bt m P h1 h2 k _ hk (h1 u hu).2
theorem sqB_nat {B : Type} (tw su : B -> B) (bt : Nat -> Bool) (f : Nat -> B) (h1 : ∀ n, tw (f n) = f (2 * n)) (h2 : ∀ n, su (f n) = f (n + 1)) :
 ∀ (k m : Nat), sqB tw su (fun z => bt z.toNat) k (f m) = f (m * 2 ^ k + bitsV bt k)
 | 0, m => by simp [sqB, bitsV]
 | k + 1, m => by
  simp only [sqB, bitsV]
  have e : m * 2 ^ (k + 1) = 2 * m * 2 ^ k := by rw [Nat.pow_succ, Nat.mul_comm 2 m, Nat.mul_assoc, Nat.mul_comm 2 (2 ^ k)]
  rw [h1, show ((k : Nat) : Int).toNat = k from rfl]
  cases hb : bt k with
  | true =>
   simp only [cond_true]
   rw [h2, sqB_nat tw su bt f h1 h2 k, e, Nat.add_mul]
   congr 1
   omega
  | false =>
   simp only [cond_false]
   rw [sqB_nat tw su bt f h1 h2 k, e]
   congr 1
theorem bl_bits (n : BitVec 64) : bitsV (fun i => Nat.testBit n.toNat i) (bl n.toNat) = n.toNat := by
 rw [bitsV_mod, Nat.mod_eq_of_lt (bl_spec.1 (Nat.le_refl _))]
theorem bl_64 (n : BitVec 64) : bl n.toNat <= 64 := bl_spec.2 n.isLt
theorem lPow_fw (x : Fsu s) (n : BitVec 64) : lPow s (fw x) n = fw (pwK x n.toNat) := by
 unfold lPow
 rw [sqF_eq (fun x f => frcU_eq x f), <- fw_one (s := s)]
 have h := sqB_gen (fun u => lMul s u u) (fun u => lMul s u (fw x)) (fun u : Fsu s => u * u) (fun u => u * x) (bitU n) (fun i => Nat.testBit n.toNat i) fw (fun _ => True)
  (fun u _ => ⟨lMul_fw u u, trivial⟩) (fun u _ => ⟨lMul_fw u x, trivial⟩) (bl n.toNat) 1 (fun i hi => bitU_test n i (by have := bl_64 n; omega)) trivial
 rw [h.1]
 have k := sqB_nat (fun u : Fsu s => u * u) (fun u => u * x) (fun i => Nat.testBit n.toNat i) (pwK x) (fun n => (pwK_two x n).symm) (fun n => rfl) (bl n.toNat) 0
 rw [Nat.zero_mul, Nat.zero_add, bl_bits] at k
 exact congrArg fw k
theorem lInv_fw (x : Fsu s) : lInv s (fw x) = fw (ivF x) := by
 unfold lInv
 rw [lPow_fw]
 congr 2
 rw [BitVec.toNat_sub, suB_nat]
 have := suP_60 s; have := suP_big s
 show (2 ^ 64 - 2 + suP s) % 2 ^ 64 = suP s - 2
 omega
def wp (A : Ap (Fsu s)) : Lp := (fw A.x, fw A.y, A.zero)
theorem wp_zero : wp (⟨0, 0, true⟩ : Ap (Fsu s)) = lp0 := by
 unfold wp lp0
 rw [fw_zero]
theorem wp_inj {A B : Ap (Fsu s)} (h : wp A = wp B) : A = B := by
 obtain ⟨x, y, z⟩ := A
 obtain ⟨u, v, w⟩ := B
 simp only [wp, Prod.mk.injEq] at h
 obtain ⟨h1, h2, rfl⟩ := h
 rw [fw_inj h1, fw_inj h2]
theorem lrF_fw (x : Fsu s) : lrF s (fw x) = fw (x * x * x + x) := by
 unfold lrF
 rw [lMul_fw, lMul_fw, lAdd_fw]
theorem on_iff {p : Lp} : onF s p = true ↔ ∃ A : Ap (Fsu s), p = wp A /\ Cw.Pt A := by
 obtain ⟨x, y, z⟩ := p
 constructor
 . intro h
   unfold onF at h
   cases z with
   | true =>
    simp only [cond_true] at h
    cases hx : x == 0#64 with
    | false => rw [hx] at h; cases h
    | true =>
     rw [hx] at h
     simp only [cond_true] at h
     rw [eq_of_beq hx, eq_of_beq h]
     exact ⟨⟨0, 0, true⟩, by rw [wp_zero]; rfl, .zero⟩
   | false =>
    simp only [cond_false] at h
    cases hx : BitVec.ult x (suB s) with
    | false => rw [hx] at h; cases h
    | true =>
     cases hy : BitVec.ult y (suB s) with
     | false => rw [hx, hy] at h; cases h
     | true =>
      rw [hx, hy] at h
      simp only [cond_true] at h
      have h1 : x.toNat < suP s := by rw [<- suB_nat]; exact of_decide_eq_true hx
      have h2 : y.toNat < suP s := by rw [<- suB_nat]; exact of_decide_eq_true hy
      rw [fw_of h1, fw_of h2] at h ⊢
      rw [lMul_fw, lrF_fw] at h
      exact ⟨_, rfl, .of (x := ⟨x.toNat, h1⟩) (y := ⟨y.toNat, h2⟩) (fw_inj (eq_of_beq h))⟩
 . rintro ⟨A, h, hA⟩
   cases hA with
   | zero =>
    rw [h, wp_zero]; rfl
   | of ho =>
    rename_i u v
    rw [h]
    have lt : ∀ q : Fsu s, BitVec.ult (fw q) (suB s) = true := fun q => by
     apply decide_eq_true
     rw [fw_nat, suB_nat]
     exact q.isLt
    unfold onF
    show (bif false then _ else bif BitVec.ult (fw u) (suB s) then (bif BitVec.ult (fw v) (suB s) then lMul s (fw v) (fw v) == lrF s (fw u) else false) else false) = true
    rw [lt, lt, lMul_fw, lrF_fw]
    unfold Cw.On at ho
    rw [ho]
    simp
theorem lSlope_wp (A B : Ap (Fsu s)) : lSlope s (wp A) (wp B) = bif !(eqF A.x B.x) then (fw (slope2K ivF A B), true) else bif !(eqF A.y B.y) then (0#64, false) else bif eqF A.y 0 then (0#64, false) else (fw (Cw.slope1W ivF A), true) := by
 unfold lSlope
 show (bif fw A.x != fw B.x then _ else bif fw A.y != fw B.y then _ else bif fw A.y == 0#64 then _ else _) = _
 rw [bne, fw_beq, bne, fw_beq, <- fw_zero (s := s), fw_beq]
 unfold wp slope2K Cw.slope1W
 simp only [lSub_fw, lAdd_fw, lMul_fw, <- fw_one (s := s), lInv_fw]
theorem lSum_wp {A B : Ap (Fsu s)} (hA : Cw.Pt A) (hB : Cw.Pt B) : lSum s (wp A) (wp B) = wp (Cw.sumW ivF eqF A B) := by
 unfold lSum
 simp only [frcB_eq, frcU_eq]
 cases hA with
 | zero => rfl
 | of g1 =>
  cases hB with
  | zero => rfl
  | of g2 =>
   rename_i x1 y1 x2 y2
   show (bif !(lSlope s (wp (Cw.pt x1 y1)) (wp (Cw.pt x2 y2))).2 then _ else _) = _
   have F := fdS s
   have hs := lSlope_wp (Cw.pt x1 y1) (Cw.pt x2 y2)
   have fin : ∀ m : Fsu s, (lSub s (lSub s (lMul s (fw m) (fw m)) (wp (Cw.pt x1 y1)).1) (wp (Cw.pt x2 y2)).1, lSub s (lMul s (fw m) (lSub s (wp (Cw.pt x1 y1)).1 (lSub s (lSub s (lMul s (fw m) (fw m)) (wp (Cw.pt x1 y1)).1) (wp (Cw.pt x2 y2)).1))) (wp (Cw.pt x1 y1)).2.1, false) = wp (chordK (Cw.pt x1 y1) (Cw.pt x2 y2) m) := fun m => by
    show (lSub s (lSub s (lMul s (fw m) (fw m)) (fw x1)) (fw x2), lSub s (lMul s (fw m) (lSub s (fw x1) (lSub s (lSub s (lMul s (fw m) (fw m)) (fw x1)) (fw x2)))) (fw y1), false) = _
    simp only [lMul_fw, lSub_fw]
    rfl
   have sw : Cw.sumW ivF eqF (Cw.pt x1 y1) (Cw.pt x2 y2) = bif eqA eqF (Cw.pt x1 y1) (negK (Cw.pt x2 y2)) then ⟨0, 0, true⟩ else bif eqA eqF (Cw.pt x1 y1) (Cw.pt x2 y2) then chordK (Cw.pt x1 y1) (Cw.pt x2 y2) (Cw.slope1W ivF (Cw.pt x1 y1)) else chordK (Cw.pt x1 y1) (Cw.pt x2 y2) (slope2K ivF (Cw.pt x1 y1) (Cw.pt x2 y2)) := rfl
   rw [sw]
   have q1 : eqA eqF (Cw.pt x1 y1) (negK (Cw.pt x2 y2)) = (eqF x1 x2 && (eqF y1 (-y2) && true)) := rfl
   have q2 : eqA eqF (Cw.pt x1 y1) (Cw.pt x2 y2) = (eqF x1 x2 && (eqF y1 y2 && true)) := rfl
   rw [q1, q2]
   have hs' : lSlope s (wp (Cw.pt x1 y1)) (wp (Cw.pt x2 y2)) = bif !(eqF x1 x2) then (fw (slope2K ivF (Cw.pt x1 y1) (Cw.pt x2 y2)), true) else bif !(eqF y1 y2) then (0#64, false) else bif eqF y1 0 then (0#64, false) else (fw (Cw.slope1W ivF (Cw.pt x1 y1)), true) := hs
   rw [hs']
   cases hx : eqF x1 x2 with
   | false =>
    simp only [Bool.not_false, cond_true, Bool.not_true, cond_false, Bool.false_and]
    exact fin _
   | true =>
    have ex := F.eq.1 hx
    subst ex
    simp only [Bool.not_true, cond_false, Bool.true_and, Bool.and_true]
    have hs2 : (y1 - y2) * (y1 + y2) = 0 := by
     unfold Cw.On at g1 g2
     exact rg2 [x1, y1, y2] g1 1 g2 (-1)
    cases hy : eqF y1 y2 with
    | false =>
     have hn : y1 = -y2 := by
      rcases F.zero_or hs2 with h | h
      . have : y1 = y2 := rg1 [y1, y2] h 1
        rw [F.eq.2 this] at hy; cases hy
      . exact rg1 [y1, y2] h 1
     rw [F.eq.2 hn]
     simp only [Bool.not_false, cond_true, cond_false]
     rw [wp_zero]; rfl
    | true =>
     have ey := F.eq.1 hy
     subst ey
     simp only [Bool.not_true, cond_false]
     cases h0 : eqF y1 0 with
     | true =>
      have e0 := F.eq.1 h0
      have hn : y1 = -y1 := by rw [e0]; exact rg_neg_zero.symm
      rw [F.eq.2 hn]
      simp only [cond_true, Bool.not_false]
      rw [wp_zero]; rfl
     | false =>
      have hn : ¬ y1 = -y1 := fun h => by
       have : y1 = 0 := F.two (rg1 [y1] h 1)
       rw [F.eq.2 this] at h0; cases h0
      rw [F.ne hn]
      simp only [cond_false, cond_true, Bool.not_true]
      exact fin _
theorem lTimes_wp {A : Ap (Fsu s)} (hA : Cw.Pt A) (n : BitVec 64) : lTimes s (wp A) n = wp (Cw.nsm ivF eqF A n.toNat) := by
 unfold lTimes
 have F := fdS s
 rw [sqF_eq (fun x f => frcLp_eq x f), <- wp_zero (s := s)]
 have h := sqB_gen (fun u => lSum s u u) (fun u => lSum s u (wp A)) (fun u : Ap (Fsu s) => Cw.sumW ivF eqF u u) (fun u => Cw.sumW ivF eqF u A) (bitU n) (fun i => Nat.testBit n.toNat i) wp Cw.Pt
  (fun u hu => ⟨lSum_wp hu hu, Cw.sum_pt F hu hu⟩) (fun u hu => ⟨lSum_wp hu hA, Cw.sum_pt F hu hA⟩) (bl n.toNat) ⟨0, 0, true⟩ (fun i hi => bitU_test n i (by have := bl_64 n; omega)) .zero
 rw [h.1]
 have k := sqB_nat (fun u : Ap (Fsu s) => Cw.sumW ivF eqF u u) (fun u => Cw.sumW ivF eqF u A) (fun i => Nat.testBit n.toNat i) (Cw.nsm ivF eqF A) (fun n => by rw [Nat.two_mul, Cw.nsm_add F hA]) (fun n => rfl) (bl n.toNat) 0
 rw [Nat.zero_mul, Nat.zero_add, bl_bits] at k
 exact congrArg wp k
end
end Go.Rq.Sm

namespace Go.Rq
open Go
section
variable {K : Type} [Rg K]
variable {iv : K -> K} {e : K -> K -> Bool}
end
end Go.Rq

namespace Go.Rq
open Go
set_option synthInstance.maxSize 100000
set_option synthInstance.maxHeartbeats 400000
section
variable {K : Type} [Rg K] {iv : K -> K} {e : K -> K -> Bool}
theorem pwK_cube (x : K) : ∀ n : Nat, pwK x (3 * n) = pwK (x * x * x) n
 | 0 => rfl
 | n + 1 => by
  show pwK x (3 * n + 1 + 1 + 1) = pwK (x * x * x) n * (x * x * x)
  simp only [pwK]
  rw [pwK_cube x n]
  exact rg [x, pwK (x * x * x) n]
theorem no_cube (F : Fd K iv e) {m : Nat} (hiv : ∀ x, iv x = pwK x (3 * m - 1)) (hm : 1 <= m) {c t : K} (hc : pwK c m ≠ 1) (h0 : c ≠ 0) (h : t * t * t = c) : False := by
 have ht : t ≠ 0 := by
  rintro rfl
  exact h0 (rg1 [c] h (-1))
 have h1 := F.inv ht
 rw [hiv] at h1
 have h2 : pwK t (3 * m) = 1 := by
  have : pwK t (3 * m - 1 + 1) = 1 := by rw [Rg.mul_comm] at h1; exact h1
  rw [show 3 * m - 1 + 1 = 3 * m by omega] at this
  exact this
 rw [pwK_cube, h] at h2
 exact hc h2
theorem zero_y {b x y : K} (h : On b x y) (hy : y = 0) : x * x * x = -b := by
 unfold On at h
 subst hy
 exact rg1 [x, b] h (-1)
end
theorem cube_exp (x : F1) : iv1 x = pwK x (3 * ((pN - 1) / 3) - 1) := by rw [iv1_pow, show pN - 2 = 3 * ((pN - 1) / 3) - 1 by decide +kernel]
theorem pw1_val {c : F1} {n : Nat} (h : RV (p := pN) c n) (m : Nat) (hm : m < 2 ^ 384) : RV (p := pN) (pwK c m) (pm pN 384 n m 1) := by
 have h1 := pwF_val (p := pN) c m
 rw [<- h.eq, pm_pow hm] at h1
 exact ⟨h1.symm⟩
theorem one1_val : RV (p := pN) (1 : F1) 1 := ⟨by decide +kernel⟩
theorem zero1_val : RV (p := pN) (0 : F1) 0 := ⟨(Nat.zero_mod pN).symm⟩
theorem ne1 {c d : F1} {n m : Nat} (h : RV (p := pN) c n) (k : RV (p := pN) d m) (hn : n ≠ m) : c ≠ d := by
 rintro rfl
 exact hn (h.eq.trans k.eq.symm)
theorem cube_a : pm pN 384 ((pN - 4) % pN) ((pN - 1) / 3) 1 ≠ 1 := by decide +kernel
theorem exp_small : (pN - 1) / 3 < 2 ^ 384 := by decide +kernel
theorem cv1 {b : F1} (hb : RV (p := pN) b 4) : Cv fd1 b where
 y := fun {x y} h hy => by
  have hc : RV (p := pN) (-b) ((pN - 4) % pN) := rv_neg (p := pN) hb
  exact no_cube fd1 cube_exp (by decide +kernel) (ne1 (pw1_val hc _ exp_small) one1_val cube_a) (ne1 hc zero1_val (by decide +kernel)) (zero_y h hy)
end Go.Rq

namespace Go.Rq
section
variable {K : Type} [Rg K] {iv : K -> K} {e : K -> K -> Bool}
theorem nsm_mod (F : Fd K iv e) {b : K} (C : Cv F b) {A : Ap K} (hA : Pt b A) {r : Nat} (hr : nsm iv e A r = ⟨0, 0, true⟩) (n : Nat) : nsm iv e A n = nsm iv e A (n % r) := by
 have h := Nat.div_add_mod n r
 have h1 : nsm iv e A (r * (n / r) + n % r) = nsm iv e A (n % r) := by
  rw [nsm_add F C hA, nsm_mul F C hA, hr, nsm_zero]
  rfl
 rw [h] at h1
 exact h1
theorem nsm_gcd (F : Fd K iv e) {b : K} (C : Cv F b) {A : Ap K} (hA : Pt b A) (x y : Nat) : nsm iv e A x = ⟨0, 0, true⟩ -> nsm iv e A y = ⟨0, 0, true⟩ -> nsm iv e A (Nat.gcd x y) = ⟨0, 0, true⟩ := by
 induction x, y using Nat.gcd.induction with
 | H0 y => intro _ hy; rw [Nat.gcd_zero_left]; exact hy
 | H1 x y hx ih =>
  intro h1 h2
  rw [Nat.gcd_rec]
  exact ih (by rw [<- nsm_mod F C hA h1]; exact h2) h1
theorem nsm_one (A : Ap K) : nsm iv e A 1 = A := by
 show sumA iv e ⟨0, 0, true⟩ A = A
 exact sum_zero_l
theorem nsm_none (F : Fd K iv e) {b : K} (C : Cv F b) {A : Ap K} (hA : Pt b A) {r : Nat} (hp : Pr r) (hr : nsm iv e A r = ⟨0, 0, true⟩) (h0 : A.zero = false) (n : Nat) : (nsm iv e A n).zero = decide (n % r = 0) := by
 by_cases h : n % r = 0
 . rw [nsm_mod F C hA hr, h, decide_eq_true rfl]
   rfl
 . rw [decide_eq_false h]
   cases hz : (nsm iv e A n).zero with
   | false => rfl
   | true =>
    exfalso
    have h1 := (nsm_pt F hA n).z hz
    have h2 := nsm_gcd F C hA r n hr h1
    have hc : Nat.Coprime r n := hp.coprime (fun hd => h (Nat.mod_eq_zero_of_dvd hd))
    rw [hc, nsm_one] at h2
    rw [h2] at h0
    cases h0
end
end Go.Rq

namespace Go.Rq
open Go
def pathL : List Bool -> Tree AV -> Option (List Bool × List (XS × XS) × AV)
 | _, .leaf a => some ([], [], a)
 | ds, .need b t => match pathL ds t with
  | some (p, l, x) => some (b :: p, l, x)
  | none => none
 | ds, .same x y t => match pathL ds t with
  | some (p, l, a) => some (p, (x, y) :: l, a)
  | none => none
 | [], .br b t _ => match pathL [] t with
  | some (p, l, x) => some (b :: p, l, x)
  | none => none
 | true :: ds, .br b t _ => match pathL ds t with
  | some (p, l, x) => some (b :: p, l, x)
  | none => none
 | false :: ds, .br b _ f => match pathL ds f with
  | some (p, l, x) => some ((!b) :: p, l, x)
  | none => none
 | _, .fail => none
theorem pathL_holds : ∀ {t : Tree AV} {ds : List Bool} {c : List Bool} {l : List (XS × XS)} {r : AV}, pathL ds t = some (c, l, r) -> (∀ b ∈ c, b = true) -> (∀ p ∈ l, p.1 = p.2) -> t.holds (fun q => q = r)
 | .leaf a, ds, c, l, r, h, _, _ => by
  have h : some (([] : List Bool), ([] : List (XS × XS)), a) = some (c, l, r) := by cases ds <;> exact h
  simp only [Option.some.injEq, Prod.mk.injEq] at h
  exact h.2.2
 | .need b t, ds, c, l, r, h, hc, hl => by
  have h : (match pathL ds t with
   | some (p, l, x) => some (b :: p, l, x)
   | none => none) = some (c, l, r) := by cases ds <;> exact h
  split at h
  . rename_i p m x hp
    simp only [Option.some.injEq, Prod.mk.injEq] at h
    obtain ⟨rfl, rfl, rfl⟩ := h
    exact ⟨hc b List.mem_cons_self, pathL_holds hp (fun q hq => hc q (List.mem_cons_of_mem _ hq)) hl⟩
  . cases h
 | .same x y t, ds, c, l, r, h, hc, hl => by
  have h : (match pathL ds t with
   | some (p, l, a) => some (p, (x, y) :: l, a)
   | none => none) = some (c, l, r) := by cases ds <;> exact h
  split at h
  . rename_i p m a hp
    simp only [Option.some.injEq, Prod.mk.injEq] at h
    obtain ⟨rfl, rfl, rfl⟩ := h
    exact ⟨hl (x, y) List.mem_cons_self, pathL_holds hp hc fun p hm => hl p (List.mem_cons_of_mem _ hm)⟩
  . cases h
 | .br b t f, [], c, l, r, h, hc, hl => by
  simp only [pathL] at h
  split at h
  . rename_i p m x hp
    simp only [Option.some.injEq, Prod.mk.injEq] at h
    obtain ⟨rfl, rfl, rfl⟩ := h
    have hb : b = true := hc b List.mem_cons_self
    exact ⟨fun _ => pathL_holds hp (fun q hq => hc q (List.mem_cons_of_mem _ hq)) hl, fun e => by rw [hb] at e; cases e⟩
  . cases h
 | .br b t f, true :: ds, c, l, r, h, hc, hl => by
  simp only [pathL] at h
  split at h
  . rename_i p m x hp
    simp only [Option.some.injEq, Prod.mk.injEq] at h
    obtain ⟨rfl, rfl, rfl⟩ := h
    have hb : b = true := hc b List.mem_cons_self
    exact ⟨fun _ => pathL_holds hp (fun q hq => hc q (List.mem_cons_of_mem _ hq)) hl, fun e => by rw [hb] at e; cases e⟩
  . cases h
 | .br b t f, false :: ds, c, l, r, h, hc, hl => by
  simp only [pathL] at h
  split at h
  . rename_i p m x hp
    simp only [Option.some.injEq, Prod.mk.injEq] at h
    obtain ⟨rfl, rfl, rfl⟩ := h
    have hb : (!b) = true := hc (!b) List.mem_cons_self
    exact ⟨fun e => (by rw [e] at hb; cases hb), fun _ => pathL_holds hp (fun q hq => hc q (List.mem_cons_of_mem _ hq)) hl⟩
  . cases h
 | .fail, ds, c, l, r, h, _, _ => by
  have h : (none : Option (List Bool × List (XS × XS) × AV)) = some (c, l, r) := by cases ds <;> exact h
  cases h
def valL (ds : List Bool) (t : Tree AV) : Option (List Bool × List (XS × XS) × Option Value) := match pathL ds t with
 | some (c, l, r) => some (c, l, flat r)
 | none => none
theorem givesL {ds : List Bool} {c : List Bool} {l : List (XS × XS)} {v : Value} {t : Tree AV} (h : valL ds t = some (c, l, some v)) (hl : ∀ p ∈ l, p.1 = p.2) (hc : ∀ b ∈ c, b = true) : Gives t v := by
 unfold valL at h
 split at h
 . rename_i q m r hr
   simp only [Option.some.injEq, Prod.mk.injEq] at h
   obtain ⟨rfl, rfl, hv⟩ := h
   exact ⟨Tree.holds_mono (fun a ha => by rw [ha]; exact hv) (pathL_holds hr hc hl)⟩
 . cases h
theorem all_cons {b : Bool} {l : List Bool} (h : b = true) (k : ∀ c ∈ l, c = true) : ∀ c ∈ b :: l, c = true := fun c hc => by
 rcases List.mem_cons.1 hc with rfl | hc
 . exact h
 . exact k c hc
theorem all_nil : ∀ c ∈ ([] : List Bool), c = true := fun c hc => by cases hc
end Go.Rq

namespace Go.Rq
structure Gm (G : Type) where
 add : G -> G -> G
 zero : G
 neg : G -> G
 comm : ∀ a b, add a b = add b a
 assoc : ∀ a b c, add (add a b) c = add a (add b c)
 nought : ∀ a, add zero a = a
 inv : ∀ a, add (neg a) a = zero
namespace Gm
variable {G : Type} (g : Gm G)
def mul : Nat -> G -> G
 | 0, _ => g.zero
 | n + 1, a => g.add (mul n a) a
theorem nought' (a : G) : g.add a g.zero = a := by rw [g.comm, g.nought]
theorem inv' (a : G) : g.add a (g.neg a) = g.zero := by rw [g.comm, g.inv]
theorem cancel {a b c : G} (h : g.add a c = g.add b c) : a = b := by
 have e : ∀ x, g.add (g.add x c) (g.neg c) = x := fun x => by rw [g.assoc, g.inv', g.nought']
 rw [<- e a, h, e b]
theorem mul_zero : ∀ n : Nat, g.mul n g.zero = g.zero
 | 0 => rfl
 | n + 1 => by show g.add (g.mul n g.zero) g.zero = _; rw [mul_zero n, g.nought]
theorem mul_one (a : G) : g.mul 1 a = a := g.nought a
theorem mul_add (a : G) : ∀ m n : Nat, g.mul (m + n) a = g.add (g.mul m a) (g.mul n a)
 | m, 0 => (g.nought' _).symm
 | m, n + 1 => by show g.add (g.mul (m + n) a) a = g.add (g.mul m a) (g.add (g.mul n a) a); rw [mul_add a m n, g.assoc]
theorem mul_mul (a : G) (m : Nat) : ∀ n : Nat, g.mul n (g.mul m a) = g.mul (m * n) a
 | 0 => rfl
 | n + 1 => by show g.add (g.mul n (g.mul m a)) (g.mul m a) = _; rw [mul_mul a m n, Nat.mul_succ, g.mul_add]
theorem mul_mod {r : Nat} {a : G} (h : g.mul r a = g.zero) (n : Nat) : g.mul (n % r) a = g.mul n a := by
 have e := Nat.div_add_mod n r
 have k : g.mul n a = g.add (g.mul (r * (n / r)) a) (g.mul (n % r) a) := by rw [<- g.mul_add, e]
 rw [k, <- g.mul_mul, h, g.mul_zero, g.nought]
theorem mul_eq {r : Nat} {a : G} (h : g.mul r a = g.zero) {m n : Nat} (e : m % r = n % r) : g.mul m a = g.mul n a := by
 rw [<- g.mul_mod h m, e, g.mul_mod h n]
end Gm
end Go.Rq

namespace Go.Rq
namespace Gm
variable {G : Type} (g : Gm G)
def com (γ η : G) (u v : Nat) : G := g.add (g.mul u γ) (g.mul v η)
section
variable {r : Nat} {γ η : G}
theorem com_mod (h1 : g.mul r γ = g.zero) (h2 : g.mul r η = g.zero) (u v : Nat) : g.com γ η (u % r) (v % r) = g.com γ η u v := by
 unfold com
 rw [g.mul_mod h1, g.mul_mod h2]
theorem com_move (h2 : g.mul r η = g.zero) {i o : Nat} (h : g.mul i γ = g.mul o η) (a b : Nat) {d : Nat} (hd : (d + o) % r = 0) :
 g.com γ η (a + i) (b + d) = g.com γ η a b := by
 unfold com
 rw [g.mul_add, g.mul_add, h, g.assoc, <- g.assoc (g.mul o η), g.comm (g.mul o η), g.assoc (g.mul b η), <- g.mul_add, Nat.add_comm o d]
 have : g.mul (d + o) η = g.zero := by rw [<- g.mul_mod h2 (d + o), hd]; rfl
 rw [this, g.nought']
theorem com_diff {i o x y : Nat} (h1 : g.mul r γ = g.zero) (h2 : g.mul r η = g.zero) (h : g.mul i γ = g.mul o η) (hx : (x + i) % r = 0) (hy : (y + o) % r = 0) : g.mul x γ = g.mul y η := by
 apply g.cancel (c := g.mul i γ)
 rw [<- g.mul_add, <- g.mul_mod h1 (x + i), hx, h, <- g.mul_add, <- g.mul_mod h2 (y + o), hy]
 rfl
end
end Gm
def dif (r a b : Nat) : Nat := (a % r + (r - b % r)) % r
theorem dif_add {r : Nat} (hr : 0 < r) (a b : Nat) : (dif r a b + b) % r = a % r := by
 unfold dif
 have hb : b % r < r := Nat.mod_lt _ hr
 rw [Nat.mod_add_mod, <- Nat.add_mod_mod, show a % r + (r - b % r) + b % r = a % r + r by omega, Nat.add_mod_right, Nat.mod_mod]
theorem mod_cut {r x l : Nat} (h : (x + l) % r = l % r) : x % r = 0 := by
 have := Nat.sub_mod_eq_zero_of_mod_eq h
 rwa [Nat.add_sub_cancel] at this
theorem dif_self {r : Nat} (hr : 0 < r) (l i : Nat) : (dif r l ((l + i) % r) + i) % r = 0 := by
 have h := dif_add hr l ((l + i) % r)
 rw [Nat.add_mod_mod] at h
 exact mod_cut (l := l) (by rw [show dif r l ((l + i) % r) + i + l = dif r l ((l + i) % r) + (l + i) by omega]; exact h)
theorem dif_less {r : Nat} (hr : 0 < r) {l s o : Nat} (hs : (s + o) % r = 0) : (dif r ((l + s) % r) l + o) % r = 0 := by
 have h := dif_add hr ((l + s) % r) l
 rw [Nat.mod_mod] at h
 refine mod_cut (l := l + s) ?_
 rw [show dif r ((l + s) % r) l + o + (l + s) = (dif r ((l + s) % r) l + l) + (s + o) by omega, Nat.add_mod, h, hs, Nat.add_zero, Nat.mod_mod]
namespace Gm
variable {G : Type} (g : Gm G)
theorem binds {r : Nat} (hr : 0 < r) {γ η : G} (h1 : g.mul r γ = g.zero) (h2 : g.mul r η = g.zero) {i o s l0 l1 : Nat} (hm : g.mul i γ = g.mul o η) (hs : (s + o) % r = 0) :
 g.com γ η ((l0 + i) % r) ((l1 + s) % r) = g.com γ η l0 l1 /\
 ∀ v n, v * dif r ((l1 + s) % r) l1 % r = 1 % r -> n = dif r l0 ((l0 + i) % r) * v % r -> g.mul n γ = η := by
 refine ⟨by rw [g.com_mod h1 h2]; exact g.com_move h2 hm l0 l1 hs, fun v n hv hn => ?_⟩
 have hd := g.com_diff h1 h2 hm (dif_self hr l0 i) (dif_less hr (l := l1) hs)
 rw [hn, g.mul_mod h1, <- g.mul_mul, hd, g.mul_mul, g.mul_eq h2 (m := _ * v) (n := 1) (by rw [Nat.mul_comm]; exact hv), g.mul_one]
end Gm
end Go.Rq

namespace Go.Rq
open Go
structure OutH (t : Tree (AV × AH)) (r : AV) (H : AH) : Prop where
 out : t.holds (fun q => q.1 = r /\ ∀ id B, H.get id = some B -> q.2.get id = some B)
def SpecOk (P : Program) (f : Nat) (spec : List AV -> AH -> Nat -> Option (AV × AH)) : Prop := ∀ args h n r h', spec args h n = some (r, h') ->
 ∃ E sym tab lf fn c, EnvOk P E /\ P.follows .mixedOrders = true /\ P.funcs.toList[f]? = some fn /\ fn.body = some c /\ codeOk E c = true /\ TabOk P n tab c /\
  OutH (afun P E sym tab lf f args h n) r h'
def deepS (spec : List AV -> AH -> Nat -> Option (AV × AH)) (kk : Nat) (rd : Bool) (args : List AV) (h : AH) (z : Nat) : Option (Bool × AV × AH) :=
 match closeI h 65536 (args.foldr nm3 []) [] with
 | none => none
 | some ids => match spec (args.map (mv3 (inM ids))) (inH h (inM ids) (!rd) ids 0) ids.length with
  | none => none
  | some (r, h') => backL kk rd ids z r h' (closeX h' ids.length 65536 (nm3 r (bif rd then [] else namesH h' ids.length)) [])
theorem deepS_ok {P : Program} {f kk : Nat} {rd : Bool} {spec : List AV -> AH -> Nat -> Option (AV × AH)} (X : SpecOk P f spec) : ActOk P kk f (deepS spec kk rd) := by
 have same : ∀ {args : List AV} {h h' : AH} {z : Nat} {x : Bool × AV × AH}, (∀ ids, closeI h 65536 (args.foldr nm3 []) [] = some ids -> closeI h' 65536 (args.foldr nm3 []) [] = some ids /\ ∀ i ∈ ids, h.get i = h'.get i) ->
  deepS spec kk rd args h z = some x -> deepS spec kk rd args h' z = some x := by
  intro args h h' z x hh hg
  unfold deepS at hg ⊢
  split at hg
  . cases hg
  . rename_i ids hi
    obtain ⟨h1, h2⟩ := hh ids hi
    have e : ∀ (l : List Nat) (n : Nat), (∀ i ∈ l, h.get i = h'.get i) -> inH h (inM ids) (!rd) l n = inH h' (inM ids) (!rd) l n := by
     intro l
     induction l with
     | nil => intro n _; rfl
     | cons i t ih =>
      intro n hl
      simp only [inH]
      rw [hl i (by simp), ih (n + 1) (fun j hj => hl j (by simp [hj]))]
    simp only [h1]
    rw [<- e ids 0 h2]
    exact hg
 have hin : ∀ {args : List AV} {h : AH} {ids : List Nat}, closeI h 65536 (args.foldr nm3 []) [] = some ids -> ∀ i ∈ ids, ∃ B, h.get i = some B := fun e => closeI_in e (fun i hi => by simp at hi)
 refine ⟨?_, fun args h h' z x hle hg => same (fun ids hi => ⟨closeI_mono hle hi, fun i hm => ?_⟩) hg, fun F ρ args xs z u h w x hx hw hu hg => ?_, fun args h z c' r ups hg => ?_⟩
 . intro F ρ args xs h z r ups w hg hx hw hz
   unfold deepS at hg
   split at hg
   . cases hg
   rename_i ids hi
   split at hg
   . cases hg
   rename_i r0 h0 hq
   unfold backL at hg
   obtain ⟨hc, hg⟩ := cond_some hg
   simp only [Bool.and_eq_true] at hc
   obtain ⟨c1, c2, c3⟩ := hc
   simp at hg
   obtain ⟨rfl, rfl⟩ := hg
   have hnd : ids.Nodup := closeI_nodup hi List.nodup_nil
   obtain ⟨E, sym, tab, lf, fn, c, hE, hm, hf, hb, hok, htab, hrun⟩ := X _ _ _ _ _ hq
   have hcall := afun_calls hE hm hf hb hok htab (K := fun a h' => a = r0 /\ ∀ id B, h0.get id = some B -> h'.get id = some B) hrun.out (F := deepF ρ h (bif rd then [] else ids) w)
    (Rvs.mapS (mv3_ok NmOk.ins) hx) (deep_in hw rd hnd) (fun id hid => by
     have : ids[id]? = none := by rw [List.getElem?_eq_none_iff]; exact hid
     simp [Ren.ins, this])
   refine Calls.mono hcall ?_
   rintro e w' ⟨v, q, h', ρ', rfl, ⟨rfl, hk⟩, hrv, hrw, hsame⟩
   have hrw := hrw.sub hk
   have c1 := Nat.le_of_ble_eq_true c1
   refine ⟨v, ρ.out ρ' _ z, rfl, Ren.le_out hz c1, fun j hj => ?_, mv3_ok (NmOk.out hz c1 hsame) _ _ hrv, ?_⟩
   . exact (Ren.out_old (fun hh => hj ⟨hh.1, by omega⟩)).1
   . exact deep_out hw (hin hi) hz c1 (nodB_spec c2) (newOk_spec c3) hrw hsame
 . obtain ⟨B, hB⟩ := hin hi i hm
   rw [hB, hle i B hB]
 . refine same (fun ids hi => ?_) hg
   have hn : ∀ i ∈ args.foldr nm3 [], ρ i ≠ none := fun i hm => (foldr_named nm3_named hx hm).resolve_left (by simp)
   have h1 := closeI_local hw hu hn hi
   refine ⟨h1, fun i hm => ?_⟩
   obtain ⟨B, hB⟩ := hin h1 i hm
   obtain ⟨b, o, g1, _⟩ := hw.blk i B hB
   rw [AH.get_append, if_neg]
   rintro ⟨p, hp, rfl⟩
   rw [hu p hp] at g1; cases g1
 . unfold deepS at hg
   split at hg
   . cases hg
   rename_i ids hi
   split at hg
   . cases hg
   unfold backL at hg
   obtain ⟨hc, hg⟩ := cond_some hg
   simp only [Bool.and_eq_true] at hc
   have c1 := Nat.le_of_ble_eq_true hc.1
   simp at hg
   obtain ⟨-, -, rfl⟩ := hg
   intro p hp
   rcases List.mem_append.1 hp with hp | hp
   . have := newH_dom p hp
     exact .inl ⟨this.1, by omega⟩
   . refine .inr (hin hi p.1 ?_)
     have := oldH_dom p hp
     cases rd with
     | true => simp at this
     | false => exact this
def s1V {β : Type} (B : Cod β) (ok : SA × List AV -> Bool) (G : SA × List AV -> β) (args : List AV) (h : AH) : Option (Bool × AV × AH) := match args with
 | [a] => match readS a h with
  | some x => some (ok x, B.enc (G x), [])
  | none => none
 | _ => none
def ok1 {α : Type} (sh : SA -> Bool) (A : CC α) (x : SA × List AV) : Bool := sh x.1 && (decS A x).isSome
def g1 {α β : Type} (A : CC α) (G : List α -> β) (x : SA × List AV) : β := G ((decS A x).getD [])
theorem s1V_ok {α β : Type} {P : Program} {E : SA -> Env} {sym : List Tmp} {lf f : Nat} {c : Code} {fn : Func} (hE : ∀ s, EnvOk P (E s)) (hm : P.follows .mixedOrders = true) (hf : P.funcs.toList[f]? = some fn) (hb : fn.body = some c)
 (hok : ∀ s, codeOk (E s) c = true) {A : CC α} {B : Cod β} {sh : SA -> Bool} {G : List α -> β}
 (hr : ∀ s c1 t (l : List α), sh s = true -> l.length = s.len -> GivesH (afun P (E s) sym (fun _ => none) lf f [s.at 0 c1] (hpS 0 s t (encL A l)) 1) (B.val (G l))) :
 HeapOk P f (s1V B (ok1 sh A) (g1 A G)) := by
 have key : ∀ {args : List AV} {h : AH} {o : Bool × AV × AH}, s1V B (ok1 sh A) (g1 A G) args h = some o -> ∃ a x, args = [a] /\ readS a h = some x /\ o = (ok1 sh A x, B.enc (g1 A G x), []) := by
  intro args h o hg
  unfold s1V at hg
  split at hg
  . rename_i a
    split at hg
    . rename_i x hx
      simp at hg
      exact ⟨a, x, rfl, hx, hg.symm⟩
    . cases hg
  . cases hg
 have again : ∀ {args : List AV} {h h' : AH} {o : Bool × AV × AH}, s1V B (ok1 sh A) (g1 A G) args h = some o -> (∀ i, i ∈ idsOf args -> ∀ B, h.get i = some B -> h'.get i = some B) -> s1V B (ok1 sh A) (g1 A G) args h' = some o := by
  intro args h h' o hg hh
  obtain ⟨a, x, rfl, hx, rfl⟩ := key hg
  have ma : a ∈ [a] := by simp
  unfold s1V
  simp only [readS_congr ma hh hx]
 refine ⟨?_, fun args h h' x hle hg => again hg (fun i _ B hB => hle i B hB), fun ρ args xs z b h x hx hz hg => again hg (fun i hi B hB => by
  rw [AH.get_cons, if_neg (fun e => hx.ids_ne hz i hi e.symm)] at hB; exact hB), fun args h c' r ups hg => ?_, fun args h h' x hh hg => again hg hh⟩
 . intro F' ρ args xs h q ups w hg hx hw
   obtain ⟨a, x, rfl, h1, ho⟩ := key hg
   simp only [Prod.mk.injEq] at ho
   obtain ⟨hsh, rfl, rfl⟩ := ho
   obtain ⟨u, ys, rfl, hu, hys⟩ := hx.uncons
   obtain rfl := hys.unnil
   have hsh := hsh.symm
   unfold ok1 at hsh
   simp only [Bool.and_eq_true] at hsh
   obtain ⟨g1', g2⟩ := hsh
   obtain ⟨l, hl⟩ := Option.isSome_iff_exists.1 g2
   obtain ⟨s1, cs1⟩ := x
   obtain ⟨X, x1, x2, x3⟩ := hand_of hw h1 hl hu
   have hW := hRW hw.gw (w := w) (l := [X]) (fun x hx => by
    simp only [List.mem_cons, List.not_mem_nil, or_false] at hx
    subst hx
    exact ⟨_, x3⟩)
   have r1 : Rv (hRen [X]) (s1.at 0 X.cap) u := by have := hRen_at (l := [X]) (j := 0) rfl x3; rw [x1] at this; exact this
   have hheap : hHeap 0 [X] = hpS 0 s1 X.t (encL A l) := by
    rw [<- x1, <- x2]
    show hpS 0 X.s X.t X.cs ++ [] = _
    rw [List.append_nil]
   rw [hheap] at hW
   have hval : Rq.g1 A G (s1, cs1) = G l := by simp [Rq.g1, hl]
   rw [hval]
   have := afun_calls (hE s1) hm hf hb (hok s1) (tabOk_none c) (K := fun q _ => flat q = some (B.val (G l))) (hr s1 X.cap X.t l g1' (decL_len hl)).out (F := frameOf w)
    (Rvs.cons r1 .nil) hW (fun id hid => hRen_none id (by simpa using hid))
   refine Calls.mono this ?_
   rintro e w' ⟨v', q', h', ρ', rfl, hk', hrv, hrw, _⟩
   have := hrv.flat_eq hk'
   subst this
   exact ⟨_, rfl, .of_flat (B.h1 _), hw.below hrw.to_below⟩
 . obtain ⟨a, x, _, _, ho⟩ := key hg
   simp only [Prod.mk.injEq] at ho
   obtain ⟨_, _, rfl⟩ := ho
   simp
def lstB (b : Nat -> Int) : Nat -> Nat -> List Int
 | _, 0 => []
 | i, n + 1 => b i :: lstB b (i + 1) n
theorem lstB_is : ∀ (l : List Int) (f : Nat -> Int) (j : Nat), (∀ i, i < l.length -> f (j + i) = l.getD i 0) -> lstB f j l.length = l
 | [], f, j, h => rfl
 | x :: t, f, j, h => by
  simp only [List.length_cons, lstB]
  have h0 := h 0 (by simp)
  rw [Nat.add_zero] at h0
  rw [h0, lstB_is t f (j + 1) (fun i hi => by
   have := h (i + 1) (by simpa using hi)
   rw [show j + 1 + i = j + (i + 1) by omega, this]; simp)]
  simp
theorem lstB_of (l : List Int) : l = lstB (fun i => l.getD i 0) 0 l.length := (lstB_is l _ 0 (fun i _ => by rw [Nat.zero_add])).symm
noncomputable def wrapF (k : IntKind) (z : Int) : Int := match k with
 | .u8 => Int.emod z (.ofNat 256)
 | .u16 => Int.emod z (.ofNat 65536)
 | .u32 => Int.emod z (.ofNat 4294967296)
 | .u64 => Int.emod z (.ofNat 18446744073709551616)
 | .i64 => match z with
  | .ofNat n => cond (Nat.blt n 9223372036854775808) (.ofNat n) (IntKind.i64.wrap (.ofNat n))
  | .negSucc n => cond (Nat.blt n 9223372036854775808) (.negSucc n) (IntKind.i64.wrap (.negSucc n))
 | k => k.wrap z
theorem blt_lt {n m : Nat} (h : Nat.blt n m = true) : n < m := Nat.le_of_ble_eq_true h
theorem wrap_idF {n : Int} (h0 : -9223372036854775808 <= n) (h1 : n < 9223372036854775808) : IntKind.i64.wrap n = n := by
 simp [IntKind.wrap, IntKind.bits, IntKind.signed]
 split <;> omega
theorem wrapF_eq (k : IntKind) (z : Int) : wrapF k z = k.wrap z := by
 cases k with
 | u8 => simp [wrapF, IntKind.wrap, IntKind.bits, IntKind.signed]; rfl
 | u16 => simp [wrapF, IntKind.wrap, IntKind.bits, IntKind.signed]; rfl
 | u32 => simp [wrapF, IntKind.wrap, IntKind.bits, IntKind.signed]; rfl
 | u64 => simp [wrapF, IntKind.wrap, IntKind.bits, IntKind.signed]; rfl
 | i64 =>
  simp only [wrapF]
  split
  . rename_i n
    cases hb : Nat.blt n 9223372036854775808 with
    | false => rw [cond_false]
    | true =>
     have := blt_lt hb
     rw [cond_true]
     exact (wrap_idF (n := (n : Int)) (by omega) (by omega)).symm
  . rename_i n
    cases hb : Nat.blt n 9223372036854775808 with
    | false => rw [cond_false]
    | true =>
     have := blt_lt hb
     rw [cond_true]
     exact (wrap_idF (by omega) (by omega)).symm
 | _ => rfl
def iEq : Int -> Int -> Bool
 | .ofNat a, .ofNat b => Nat.beq a b
 | .negSucc a, .negSucc b => Nat.beq a b
 | _, _ => false
def iLt : Int -> Int -> Bool
 | .ofNat a, .ofNat b => Nat.blt a b
 | .negSucc _, .ofNat _ => true
 | .ofNat _, .negSucc _ => false
 | .negSucc a, .negSucc b => Nat.blt b a
theorem iEq_eq (m n : Int) : iEq m n = (m == n) := by
 cases hb : iEq m n with
 | true =>
  unfold iEq at hb
  split at hb
  . rw [(beq_iff _ _).1 hb]; simp
  . rw [(beq_iff _ _).1 hb]; simp
  . cases hb
 | false =>
  unfold iEq at hb
  split at hb
  . have := beq_off.1 hb
    symm; simp; omega
  . have := beq_off.1 hb
    symm; simp; omega
  . symm
    cases m with
    | ofNat a => cases n with
     | ofNat b => rename_i h1 h2; exact absurd rfl (h1 a b rfl)
     | negSucc b => rfl
    | negSucc a => cases n with
     | ofNat b => rfl
     | negSucc b => rename_i h1 h2; exact absurd rfl (h2 a b rfl)
theorem blt_dec (a b : Nat) : Nat.blt a b = decide (a < b) := by
 cases hb : Nat.blt a b with
 | true => simp [blt_lt hb]
 | false =>
  symm; simp
  rcases Nat.lt_or_ge a b with h | h
  . rw [show Nat.blt a b = true from Nat.ble_eq_true_of_le h] at hb; cases hb
  . exact h
theorem iLt_eq (m n : Int) : iLt m n = decide (m < n) := by
 cases m with
 | ofNat a => cases n with
  | ofNat b => simp only [iLt, blt_dec]; congr 1; apply propext; exact Int.ofNat_lt.symm
  | negSucc b => simp only [iLt]; symm; simp; omega
 | negSucc a => cases n with
  | ofNat b => simp only [iLt]; symm; simp; omega
  | negSucc b => simp only [iLt, blt_dec]; congr 1; apply propext; constructor <;> intro h <;> omega
def uMod : IntKind -> Option Nat
 | .u8 => some 256
 | .u16 => some 65536
 | .u32 => some 4294967296
 | .u64 => some 18446744073709551616
 | _ => none
theorem uMod_eq {k : IntKind} {M : Nat} (h : uMod k = some M) : M = 2 ^ k.bits /\ k.signed = false := by
 cases k <;> simp [uMod] at h <;> subst h <;> exact ⟨rfl, rfl⟩
theorem wrap_nat {k : IntKind} {M : Nat} (h : uMod k = some M) (a : Nat) : k.wrap (a : Int) = ((a % M : Nat) : Int) := by
 obtain ⟨h1, h2⟩ := uMod_eq h
 subst h1
 simp [IntKind.wrap, h2]
def bitF (op : BinOp) (M a b : Nat) : Option Nat := match op with
 | .and => some (Nat.land (Nat.mod a M) (Nat.mod b M))
 | .or => some (Nat.lor (Nat.mod a M) (Nat.mod b M))
 | .xor => some (Nat.xor (Nat.mod a M) (Nat.mod b M))
 | _ => none
def bitsVv (op : BinOp) (k : IntKind) (m n : Int) : Option Value := match m, n, uMod k with
 | .ofNat a, .ofNat b, some M => match bitF op M a b with
  | some r => some (.int k (.ofNat r))
  | none => none
 | _, _, _ => none
noncomputable def intF (op : BinOp) (k : IntKind) (m n : Int) : Option Value := match op with
 | .add => some (.int k (wrapF k (Int.add m n)))
 | .sub => some (.int k (wrapF k (Int.sub m n)))
 | .mul => some (.int k (wrapF k (Int.mul m n)))
 | .eql => some (.bool (iEq m n))
 | .neq => some (.bool (not (iEq m n)))
 | .lss => some (.bool (iLt m n))
 | .leq => some (.bool (not (iLt n m)))
 | .gtr => some (.bool (iLt n m))
 | .geq => some (.bool (not (iLt m n)))
 | .quo => match m, n with
  | .ofNat a, .ofNat (b + 1) => some (.int k (wrapF k (.ofNat (Nat.div a (b + 1)))))
  | _, _ => none
 | .rem => match m, n with
  | .ofNat a, .ofNat (b + 1) => some (.int k (.ofNat (Nat.mod a (b + 1))))
  | _, _ => none
 | op => bitsVv op k m n
theorem ofInt_nat (w a : Nat) : (BitVec.ofInt w (Int.ofNat a)).toNat = a % 2 ^ w := by
 simp [BitVec.ofInt_natCast]
theorem intF_run {P : Program} {op : BinOp} {t : TypeId} {x y : Operand} {k : IntKind} {m n : Int} {r : Value} (h : intF op k m n = some r) :
 pureRun P (do eqGuard op t x y (.int k m) (.int k n); binOp op t (.int k m) (.int k n)) = some r := by
 have hg : (do eqGuard op t x y (.int k m) (.int k n); binOp op t (.int k m) (.int k n) : Sem Value) = binOp op t (.int k m) (.int k n) := by cases op <;> rfl
 rw [hg]
 have bits : ∀ {a b M q : Nat}, uMod k = some M -> bitF op M a b = some q -> pureRun P (Op.intBits op k (Int.ofNat a) (Int.ofNat b)) = some (.int k (.ofNat q)) := by
  intro a b M q hM hq
  obtain ⟨h1, h2⟩ := uMod_eq hM
  have hlt : ∀ c, c % M < M := fun c => Nat.mod_lt _ (by rw [h1]; exact Nat.two_pow_pos _)
  cases op <;> simp only [bitF, Option.some.injEq, reduceCtorEq] at hq <;> subst hq <;> simp only [Op.intBits]
  . show some (Value.int k (k.wrap ((BitVec.ofInt k.bits (Int.ofNat a) &&& BitVec.ofInt k.bits (Int.ofNat b)).toNat : Int))) = _
    rw [wrap_nat hM, Nat.mod_eq_of_lt (by rw [h1]; exact BitVec.isLt _), BitVec.toNat_and, ofInt_nat, ofInt_nat, <- h1]
    rfl
  . show some (Value.int k (k.wrap ((BitVec.ofInt k.bits (Int.ofNat a) ||| BitVec.ofInt k.bits (Int.ofNat b)).toNat : Int))) = _
    rw [wrap_nat hM, Nat.mod_eq_of_lt (by rw [h1]; exact BitVec.isLt _), BitVec.toNat_or, ofInt_nat, ofInt_nat, <- h1]
    rfl
  . show some (Value.int k (k.wrap ((BitVec.ofInt k.bits (Int.ofNat a) ^^^ BitVec.ofInt k.bits (Int.ofNat b)).toNat : Int))) = _
    rw [wrap_nat hM, Nat.mod_eq_of_lt (by rw [h1]; exact BitVec.isLt _), BitVec.toNat_xor, ofInt_nat, ofInt_nat, <- h1]
    rfl
 have rest : (∀ a b, binOp op t (.int k a) (.int k b) = Op.intBits op k a b) -> bitsVv op k m n = some r -> pureRun P (binOp op t (.int k m) (.int k n)) = some r := by
  intro hb h2
  clear h hg
  rw [hb]
  cases m with
  | negSucc a => cases h2
  | ofNat a => cases n with
   | negSucc b => cases h2
   | ofNat b =>
    simp only [bitsVv] at h2
    cases hM : uMod k with
    | none => rw [hM] at h2; cases h2
    | some M =>
     rw [hM] at h2
     simp only at h2
     split at h2
     . rename_i q hq
       simp only [Option.some.injEq] at h2; subst h2
       exact bits hM hq
     . cases h2
 cases op with
 | add => simp only [intF, Option.some.injEq] at h; subst h; simp only [binOp, ne_eq, not_true, if_false, Op.intArith, wrapF_eq]; rfl
 | sub => simp only [intF, Option.some.injEq] at h; subst h; simp only [binOp, ne_eq, not_true, if_false, Op.intArith, wrapF_eq]; rfl
 | mul => simp only [intF, Option.some.injEq] at h; subst h; simp only [binOp, ne_eq, not_true, if_false, Op.intArith, wrapF_eq]; rfl
 | eql => simp only [intF, Option.some.injEq] at h; subst h; simp only [binOp, ne_eq, not_true, if_false, Op.intCmp, iEq_eq]; rfl
 | neq => simp only [intF, Option.some.injEq] at h; subst h; simp only [binOp, ne_eq, not_true, if_false, Op.intCmp, iEq_eq]; rfl
 | lss => simp only [intF, Option.some.injEq] at h; subst h; simp only [binOp, ne_eq, not_true, if_false, Op.intCmp, iLt_eq]; rfl
 | gtr => simp only [intF, Option.some.injEq] at h; subst h; simp only [binOp, ne_eq, not_true, if_false, Op.intCmp, iLt_eq]; rfl
 | leq =>
  simp only [intF, Option.some.injEq] at h; subst h; simp only [binOp, ne_eq, not_true, if_false, Op.intCmp, iLt_eq]
  refine congrArg (fun b => some (Value.bool b)) ?_
  by_cases hh : n < m
  . simp [hh]
  . simp [hh]; omega
 | geq =>
  simp only [intF, Option.some.injEq] at h; subst h; simp only [binOp, ne_eq, not_true, if_false, Op.intCmp, iLt_eq]
  refine congrArg (fun b => some (Value.bool b)) ?_
  by_cases hh : m < n
  . simp [hh]
  . simp [hh]; omega
 | quo =>
  simp only [intF] at h
  split at h
  . rename_i a b
    simp only [Option.some.injEq] at h; subst h
    simp only [binOp, ne_eq, not_true, if_false, Op.intDiv, wrapF_eq]
    rw [if_neg (by simp; omega)]; rfl
  . cases h
 | rem =>
  simp only [intF] at h
  split at h
  . rename_i a b
    simp only [Option.some.injEq] at h; subst h
    simp only [binOp, ne_eq, not_true, if_false, Op.intDiv]
    rw [if_neg (by simp; omega)]; rfl
  . cases h
 | and => exact rest (fun a b => by simp only [binOp, ne_eq, not_true, if_false]) h
 | or => exact rest (fun a b => by simp only [binOp, ne_eq, not_true, if_false]) h
 | xor => exact rest (fun a b => by simp only [binOp, ne_eq, not_true, if_false]) h
 | andNot => exact rest (fun a b => by simp only [binOp, ne_eq, not_true, if_false]) h
 | shl =>
  simp only [intF, bitsVv] at h
  split at h
  . simp [bitF] at h
  . cases h
 | shr =>
  simp only [intF, bitsVv] at h
  split at h
  . simp [bitF] at h
  . cases h
def amtF : AV -> Option Nat
 | .u y => some y.toNat
 | .v (.int _ (.ofNat n)) => some n
 | _ => none
noncomputable def kNum (k : IntKind) : Nat := IntKind.rec 0 1 2 3 4 5 6 7 k
theorem kNum_inj {k j : IntKind} (h : Nat.beq (kNum k) (kNum j) = true) : k = j := by
 have := (beq_iff _ _).1 h
 cases k <;> cases j <;> first | rfl | (exact absurd this (by decide))
noncomputable def shV (op : BinOp) (k : IntKind) (a n : Nat) : Option (Bool × AV) := match op with
 | .shl => some (true, .v (.int k (wrapF k (.ofNat (Nat.mul a (Nat.pow 2 n))))))
 | .shr => some (true, .v (.int k (.ofNat (Nat.div a (Nat.pow 2 n)))))
 | _ => none
noncomputable def fastSh (op : BinOp) (k : IntKind) (m : Int) (b : AV) : Option (Bool × AV) := match m with
 | .ofNat a => match amtF b with
  | some n => cond (Nat.blt n k.bits) (shV op k a n) none
  | none => none
 | _ => none
noncomputable def fastI (op : BinOp) (k : IntKind) (m : Int) (b : AV) : Option (Bool × AV) := match isShift op with
 | true => fastSh op k m b
 | false => match b with
  | .v (.int j n) => cond (Nat.beq (kNum k) (kNum j)) (match intF op k m n with
   | some r => some (true, .v r)
   | none => none) none
  | _ => none
def fastU (op : BinOp) (x : BitVec 64) (b : AV) : Option (Bool × AV) := match isShift op with
 | true => match amtF b with
  | some n => match ushift op x n with
   | some r => some (true, r)
   | none => none
  | none => none
 | false => match b with
  | .u y => match ubin op x y with
   | some r => some (true, r)
   | none => match udivA op x y with
    | some r => some (!(y == 0#64), r)
    | none => none
  | .bit c => match ubin op x (bitW c) with
   | some r => some (true, r)
   | none => none
  | _ => none
noncomputable def fastBin (op : BinOp) (a b : AV) : Option (Bool × AV) := match a with
 | .v (.int k m) => fastI op k m b
 | .u x => fastU op x b
 | _ => none
theorem amtF_flat {b : AV} {n : Nat} (h : amtF b = some n) : ∃ j, flat b = some (.int j (n : Int)) /\ toShift b = some (n : Int) := by
 unfold amtF at h
 split at h
 . simp at h; subst h; exact ⟨.u64, rfl, rfl⟩
 . simp at h; subst h; exact ⟨_, rfl, rfl⟩
 . cases h
theorem fastBin_ok {P : Program} {E : Env} {op : BinOp} {t : TypeId} {x y : Operand} {a b : AV} {q : Bool × AV} (h : fastBin op a b = some q) : binF P E op t x y a b = some q := by
 unfold fastBin at h
 split at h
 . rename_i k m
   unfold fastI at h
   split at h
   . rename_i hs
     unfold fastSh at h
     split at h
     . rename_i a
       split at h
       . rename_i n hn
         obtain ⟨hb, h⟩ := cond_some h
         have hb := blt_lt hb
         obtain ⟨j, h1, h2⟩ := amtF_flat hn
         have hmin : Nat.min n k.bits = n := Nat.min_eq_left (Nat.le_of_lt hb)
         have key : ∀ r, pureRun P (do eqGuard op t x y (.int k (Int.ofNat a)) (.int j (n : Int)); binOp op t (.int k (Int.ofNat a)) (.int j (n : Int))) = some r -> binF P E op t x y (.v (.int k (Int.ofNat a))) b = some (true, .v r) := by
          intro r hr
          unfold binF
          simp only [hs, Rq.toU]
          unfold binPlain
          simp only [hs, h1, show flat (.v (.int k (Int.ofNat a))) = some (.int k (Int.ofNat a)) from rfl]
          rw [hr]
         cases op <;> simp only [shV, reduceCtorEq, Option.some.injEq] at h
         . subst h
           refine key _ ?_
           show pureRun P (Op.shift .shl k (Int.ofNat a) j (n : Int)) = _
           simp only [Op.shift]
           rw [if_neg (by omega), wrapF_eq]
           show some (Value.int k (k.wrap (Int.ofNat a * 2 ^ Nat.min n k.bits))) = _
           rw [hmin]
           congr 3
           try simp
         . subst h
           refine key _ ?_
           show pureRun P (Op.shift .shr k (Int.ofNat a) j (n : Int)) = _
           simp only [Op.shift]
           rw [if_neg (by omega)]
           show some (Value.int k ((Int.ofNat a).fdiv (2 ^ Nat.min n k.bits))) = _
           rw [hmin]
           congr 2
           have h2 : (2 : Int) ^ n = ((2 ^ n : Nat) : Int) := by simp
           rw [h2, Int.fdiv_eq_ediv_of_nonneg _ (Int.natCast_nonneg _)]
           try rfl
       . cases h
     . cases h
   . rename_i hs
     split at h
     . rename_i j n
       obtain ⟨hk, h⟩ := cond_some h
       obtain rfl : k = j := kNum_inj hk
       clear hk
       split at h
       . rename_i r hr
         simp at h; subst h
         unfold binF
         simp only [hs, Rq.toU]
         unfold binPlain
         simp only [hs, Rq.toU, Rq.aggOf, show ∀ z, flat (.v (.int k z)) = some (.int k z) from fun _ => rfl]
         rw [intF_run hr]
       . exact absurd h (by simp)
     . cases h
 . rename_i u
   unfold fastU at h
   split at h
   . rename_i hs
     split at h
     . rename_i n hn
       obtain ⟨j, h1, h2⟩ := amtF_flat hn
       split at h
       . rename_i r hr
         simp at h; subst h
         unfold binF
         simp only [hs, Rq.toU, h2, Int.toNat_natCast, hr]
         rw [show decide ((0 : Int) <= (n : Int)) = true by simp]
       . cases h
     . cases h
   . rename_i hs
     split at h
     . rename_i v
       have hu : ∀ r, ubin op u v = some r -> binPlain P E op t x y (.u u) (.u v) = some r := by
        intro r hr
        unfold binPlain
        simp only [hs, Rq.toU, ubinB, hr]
       split at h
       . rename_i r hr
         simp at h; subst h
         unfold binF
         simp only [hs, hu r hr]
       . rename_i hn
         split at h
         . rename_i r hr
           simp at h; subst h
           have : binPlain P E op t x y (.u u) (.u v) = none := by
            unfold binPlain
            simp only [hs, Rq.toU, ubinB, hn]
           unfold binF
           simp only [hs, this, Rq.toU, hr]
         . cases h
     . rename_i v
       split at h
       . rename_i r hr
         simp at h; subst h
         have : binPlain P E op t x y (.u u) (.bit v) = some r := by
          unfold binPlain
          simp only [hs, Rq.toU, ubinB, hr]
         unfold binF
         simp only [hs, this]
       . cases h
     . cases h
 . cases h
noncomputable def oOr (r : Option (Bool × AV)) (s : Option (Bool × AV × AH)) : Option (Bool × AV × AH) := match r with
 | some (c, r) => some (c, r, [])
 | none => s
noncomputable def oP (r : Option (Bool × AV)) : Option (Bool × AV × AH) := match r with
 | some (c, r) => some (c, r, [])
 | none => none
noncomputable def oLd (r : Option (Bool × AV)) : Option (Bool × AV × AH) := match r with
 | some (c, r) => some (c, r, [])
 | none => none
noncomputable def oLoad (P : Program) (E : Env) (h : AH) (t : TypeId) (a : AV) (s : Option (Bool × AV × AH)) : Option (Bool × AV × AH) := match a with
 | .ptr i off => match h.getC i with
  | some B => oLd (loadE P E.wide t B.cs off)
  | none => none
 | _ => s
noncomputable def oSt (i : Nat) (B : Blk) (cs : Option (Bool × List AV)) : Option (Bool × AV × AH) := match cs with
 | some (c, cs) => some (c, .v undef, [(i, some ⟨true, B.ty, cs⟩)])
 | none => none
noncomputable def oStore (P : Program) (E : Env) (h : AH) (t : TypeId) (a x : AV) : Option (Bool × AV × AH) := match a with
 | .ptr i off => match h.getC i with
  | some B => match B.wr with
   | true => oSt i B (storeE P E.wst t B.cs off x)
   | false => none
  | none => none
 | _ => none
def nilF : AV -> Option (Bool × AV)
 | .ptr id off => some (true, .ptr id off)
 | _ => none
def oFA (P : Program) (s : TypeId) (f : Nat) (a : AV) : Option (Bool × AV) := match a with
 | .ptr id off => match P.underlying s with
  | some (.struct fs) => match fs.toList[f]? with
   | some fl => match sz P fl.type with
    | some (_ + 1) => some (true, .ptr id (off + fl.offset))
    | _ => none
   | none => none
  | _ => none
 | _ => none
def oIA (P : Program) (t : TypeId) (a ix : AV) : Option (Bool × AV) := match ix with
 | .v (.int _ (.ofNat n)) => match P.underlying t with
  | some (.array len el) => match a with
   | .ptr id off => match sz P el with
    | some m => some (Nat.blt n len, .ptr id (off + n * m))
    | none => none
   | _ => none
  | some (.slice el) => match a with
   | .slc id off len _ => match sz P el with
    | some m => some (Nat.blt n len, .ptr id (off + n * m))
    | none => none
   | .own id es k len => match sz P el with
    | some m => some (Nat.blt n len, .ptr id (k * es + n * m))
    | none => none
   | _ => none
  | _ => none
 | _ => none
def oEx (i : Nat) (a : AV) : Option (Bool × AV) := match a with
 | .tup cs => match cs[i]? with
  | some r => some (true, r)
  | none => none
 | _ => none
noncomputable def oCv (P : Program) (s d : TypeId) (a : AV) : Option (Bool × AV) := match a with
 | .v (.int _ n) => match P.underlying s, P.underlying d with
  | some (.int _), some (.int .u64) => some (true, .u (BitVec.ofInt 64 n))
  | some (.int _), some (.int k) => some (true, .v (.int k (wrapF k n)))
  | _, _ => none
 | .u x => match P.underlying s, P.underlying d with
  | some (.int _), some (.int .u64) => some (true, .u x)
  | some (.int _), some (.int k) => some (true, .v (.int k (wrapF k (.ofNat x.toNat))))
  | _, _ => none
 | _ => none
noncomputable def oUn (op : UnOp) (a : AV) : Option (Bool × AV) := match a with
 | .v (.bool b) => match op with
  | .not => some (true, .v (.bool (not b)))
  | _ => none
 | .lit b => match op with
  | .not => some (true, .v (.bool (not b)))
  | _ => none
 | .v (.int k n) => match op with
  | .neg => some (true, .v (.int k (wrapF k (Int.sub (.ofNat 0) n))))
  | .xor => match n, uMod k with
   | .ofNat a, some M => some (true, .v (.int k (.ofNat (Nat.xor (Nat.mod (Nat.pred M) M) (Nat.mod a M)))))
   | _, _ => none
  | _ => none
 | _ => none
noncomputable def oAct (ro : Bool) (id kk : Nat) (r : Option (Bool × AV × AH)) : Option (Bool × AV × AH) := match ro with
 | false => r
 | true => match r with
  | some (c, r, ups) => match allB id kk ups with
   | true => some (c, r, ups)
   | false => none
  | none => none
noncomputable def oCallT (E : Env) (h : AH) (id fid : Nat) (as : List AV) (s : Option (Bool × AV × AH)) : Option (Bool × AV × AH) := match E.pure fid with
 | some g => oP (g as)
 | none => match E.heap fid with
  | some _ => s
  | none => match E.lay fid with
   | some _ => s
   | none => match E.act fid with
    | some g => oAct (memN fid E.ro) id E.kk (g as h id)
    | none => none
noncomputable def oCallV (E : Env) (ev : Operand -> AV) (h : AH) (id : Nat) (f : Operand) (args : List Operand) (s : Option (Bool × AV × AH)) : Option (Bool × AV × AH) := match f with
 | .func fid => frcL frc2 (maps ev args) fun as => oCallT E h id fid as s
 | _ => s
noncomputable def oCall (E : Env) (ev : Operand -> AV) (h : AH) (id : Nat) (c : Call) (s : Option (Bool × AV × AH)) : Option (Bool × AV × AH) := match c.callee with
 | .value f => oCallV E ev h id f c.args.toList s
 | _ => s
noncomputable def fastOp (P : Program) (E : Env) (ev : Operand -> AV) (h : AH) (id : Nat) (op : Op) : Option (Bool × AV × AH) := match op with
 | .move x => some (true, ev x, [])
 | .assign x => some (true, ev x, [])
 | .binOp o t x y u => oOr (fastBin o (ev x) (ev y)) (effOp P E ev h id (.binOp o t x y u))
 | .load t a => oLoad P E h t (ev a) (effOp P E ev h id (.load t a))
 | .store t a x => oStore P E h t (ev a) (ev x)
 | .nilCheck x => oOr (nilF (ev x)) (effOp P E ev h id (.nilCheck x))
 | .fieldAddr s x f => oP (oFA P s f (ev x))
 | .indexAddr t x ix => oOr (oIA P t (ev x) (ev ix)) (effOp P E ev h id (.indexAddr t x ix))
 | .extract x i => oOr (oEx i (ev x)) (effOp P E ev h id (.extract x i))
 | .convert s d x => oOr (oCv P s d (ev x)) (effOp P E ev h id (.convert s d x))
 | .unOp o t x => oOr (oUn o (ev x)) (effOp P E ev h id (.unOp o t x))
 | .call c => oCall E ev h id c (effOp P E ev h id (.call c))
 | op => effOp P E ev h id op
end Go.Rq
