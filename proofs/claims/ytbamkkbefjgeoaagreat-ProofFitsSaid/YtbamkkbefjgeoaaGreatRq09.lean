import Derived.Test.YtbamkkbefjgeoaaGreatRq08
import Derived.Test.YtbamkkbefjgeoaaGreatRq07
import Derived.ProofKit
import Derived.Test.YtbamkkbefjgeoaaGreatRq05
namespace Go.Rq.Cw
set_option synthInstance.maxSize 100000
set_option synthInstance.maxHeartbeats 400000
section
variable {K : Type} [Rg K] {iv : K -> K} {e : K -> K -> Bool}
def slope1W (iv : K -> K) (a : Ap K) : K := (a.x * a.x + a.x * a.x + a.x * a.x + 1) * iv (a.y + a.y)
def sumW (iv : K -> K) (e : K -> K -> Bool) (a b : Ap K) : Ap K := bif a.zero then b else bif b.zero then a else bif eqA e a (negK b) then ⟨0, 0, true⟩ else bif eqA e a b then chordK a b (slope1W iv a) else chordK a b (slope2K iv a b)
structure Sl (x1 y1 x2 y2 l : K) : Prop where
 a : y1 - y2 = l * (x1 - x2)
 b : x1 * x1 + x1 * x2 + x2 * x2 + 1 = l * (y1 + y2)
def On (x y : K) : Prop := y * y = x * x * x + x
theorem On.neg {x y : K} (h : On x y) : On x (-y) := by unfold On at *; exact rg1 [x, y] h 1
theorem slope_ex (F : Fd K iv e) {x1 y1 x2 y2 : K} (h1 : On x1 y1) (h2 : On x2 y2) (hn : ¬ (x1 = x2 /\ y1 = -y2)) : ∃ l, Sl x1 y1 x2 y2 l := by
 unfold On at h1 h2
 by_cases hx : x1 = x2
 . subst hx
   have hy : y1 = y2 := by
    have hs : (y1 - y2) * (y1 + y2) = 0 := rg2 [x1, y1, y2] h1 1 h2 (-1)
    rcases F.zero_or hs with h | h
    . exact rg1 [y1, y2] h 1
    . exact absurd ⟨rfl, rg1 [y1, y2] h 1⟩ hn
   subst hy
   have hz : y1 + y1 ≠ 0 := fun h => hn ⟨rfl, rg1 [y1] h 1⟩
   have hi := F.inv hz
   exact ⟨(x1 * x1 + x1 * x1 + x1 * x1 + 1) * iv (y1 + y1), rg [x1, y1, iv (y1 + y1)], rg1 [x1, y1, iv (y1 + y1)] hi (-(x1 * x1 + x1 * x1 + x1 * x1 + 1))⟩
 . have hz : x1 - x2 ≠ 0 := fun h => hx (rg1 [x1, x2] h 1)
   have hi := F.inv hz
   refine ⟨(y1 - y2) * iv (x1 - x2), rg1 [x1, y1, x2, y2, iv (x1 - x2)] hi (-(y1 - y2)), ?_⟩
   apply F.cancel hz
   exact rg3 [x1, y1, x2, y2, iv (x1 - x2)] h1 (-1) h2 1 hi (-((y1 - y2) * (y1 + y2)))
theorem slope_one (F : Fd K iv e) {x1 y1 x2 y2 l m : K} (hn : ¬ (x1 = x2 /\ y1 = -y2)) (h : Sl x1 y1 x2 y2 l) (k : Sl x1 y1 x2 y2 m) : l = m := by
 by_cases hx : x1 = x2
 . have hy : y1 + y2 ≠ 0 := fun h => hn ⟨hx, rg1 [y1, y2] h 1⟩
   apply F.cancel hy
   rw [<- h.b, <- k.b]
 . have hz : x1 - x2 ≠ 0 := fun h => hx (rg1 [x1, x2] h 1)
   apply F.cancel hz
   rw [<- h.a, <- k.a]
def pt (x y : K) : Ap K := ⟨x, y, false⟩
theorem eqA_iff (F : Fd K iv e) {a b : Ap K} : eqA e a b = true ↔ a = b := by
 obtain ⟨x, y, z⟩ := a
 obtain ⟨u, v, w⟩ := b
 simp [eqA, F.eq]
theorem sum_by (F : Fd K iv e) {x1 y1 x2 y2 l : K} (h1 : On x1 y1) (h2 : On x2 y2) (hn : ¬ (x1 = x2 /\ y1 = -y2)) (h : Sl x1 y1 x2 y2 l) :
 sumW iv e (pt x1 y1) (pt x2 y2) = pt (l * l - x1 - x2) (l * (x1 - (l * l - x1 - x2)) - y1) := by
 have n1 : eqA e (pt x1 y1) (negK (pt x2 y2)) = false := by
  cases hb : eqA e (pt x1 y1) (negK (pt x2 y2)) with
  | false => rfl
  | true =>
   have := (eqA_iff F).1 hb
   unfold pt negK at this
   have := Ap.mk.inj this
   exact absurd ⟨this.1, this.2.1⟩ hn
 unfold sumW
 rw [n1]
 show (bif eqA e (pt x1 y1) (pt x2 y2) then chordK (pt x1 y1) (pt x2 y2) (slope1W iv (pt x1 y1)) else chordK (pt x1 y1) (pt x2 y2) (slope2K iv (pt x1 y1) (pt x2 y2))) = _
 unfold On at h1 h2
 cases hb : eqA e (pt x1 y1) (pt x2 y2) with
 | true =>
  have := Ap.mk.inj ((eqA_iff F).1 hb)
  obtain ⟨rfl, rfl, -⟩ := this
  have hz : y1 + y1 ≠ 0 := fun h => hn ⟨rfl, rg1 [y1] h 1⟩
  have hi := F.inv hz
  have : l = slope1W iv (pt x1 y1) := slope_one F hn h ⟨by simp only [slope1W, pt]; exact rg [x1, y1, iv (y1 + y1)], by simp only [slope1W, pt]; exact rg1 [x1, y1, iv (y1 + y1)] hi (-(x1 * x1 + x1 * x1 + x1 * x1 + 1))⟩
  rw [cond_true, <- this]
  rfl
 | false =>
  have hx : x1 ≠ x2 := by
   intro hx
   subst hx
   have hs : (y1 - y2) * (y1 + y2) = 0 := rg2 [x1, y1, y2] h1 1 h2 (-1)
   rcases F.zero_or hs with h | h
   . have : y1 = y2 := rg1 [y1, y2] h 1
     subst this
     rw [(eqA_iff F).2 rfl] at hb
     cases hb
   . exact hn ⟨rfl, rg1 [y1, y2] h 1⟩
  have hz : x2 - x1 ≠ 0 := fun h => hx (rg1 [x1, x2] h (-1))
  have hi := F.inv hz
  have : l = slope2K iv (pt x1 y1) (pt x2 y2) := by
   apply F.cancel hz
   have := h.a
   simp only [slope2K, pt]
   exact rg2 [x1, y1, x2, y2, l, iv (x2 - x1)] this 1 hi (-(y2 - y1))
  rw [cond_false, <- this]
  rfl
theorem sum_opp (F : Fd K iv e) {x y : K} : sumW iv e (pt x y) (pt x (-y)) = ⟨0, 0, true⟩ := by
 have : eqA e (pt x y) (negK (pt x (-y))) = true := by
  rw [eqA_iff F]
  unfold negK pt
  congr 1
  exact rg [y]
 unfold sumW
 rw [this]
 rfl
inductive Pt : Ap K -> Prop
 | zero : Pt ⟨0, 0, true⟩
 | of {x y : K} : On x y -> Pt (pt x y)
theorem sum_zero_l {a : Ap K} : sumW iv e ⟨0, 0, true⟩ a = a := rfl
theorem sum_zero_r (a : Ap K) (ha : a.zero = true -> a = ⟨0, 0, true⟩) : sumW iv e a ⟨0, 0, true⟩ = a := by
 unfold sumW
 cases hz : a.zero with
 | true => rw [cond_true]; exact (ha hz).symm
 | false => rfl
theorem Pt.z {a : Ap K} (h : Pt a) : a.zero = true -> a = ⟨0, 0, true⟩ := by
 cases h with
 | zero => intro _; rfl
 | of => intro h; cases h
theorem Pt.add0 {a : Ap K} (h : Pt a) : sumW iv e a ⟨0, 0, true⟩ = a := sum_zero_r a h.z
theorem on_sum {x1 y1 x2 y2 l : K} (h1 : On x1 y1) (h : Sl x1 y1 x2 y2 l) : On (l * l - x1 - x2) (l * (x1 - (l * l - x1 - x2)) - y1) := by
 have ha := h.a
 have hb := h.b
 unfold On at *
 exact rg3 [x1, y1, x2, y2, l] h1 1 ha (l * (l * l - x1 - x2 - x1)) hb (-(l * l - x1 - x2 - x1))
theorem neg_pt {a : Ap K} (h : Pt a) : Pt (negK a) := by
 cases h with
 | zero =>
  have : negK (⟨0, 0, true⟩ : Ap K) = ⟨0, 0, true⟩ := by unfold negK; congr 1; exact rg_neg_zero
  rw [this]; exact .zero
 | of h =>
  rename_i x y
  exact .of (x := x) (y := -y) (by unfold On at *; exact rg1 [x, y] h 1)
theorem sum_pt (F : Fd K iv e) {p q : Ap K} (hp : Pt p) (hq : Pt q) : Pt (sumW iv e p q) := by
 cases hp with
 | zero => exact hq
 | of h1 =>
  cases hq with
  | zero => rw [sum_zero_r _ (fun h => by cases h)]; exact .of h1
  | of h2 =>
   rename_i x1 y1 x2 y2
   by_cases hn : x1 = x2 /\ y1 = -y2
   . obtain ⟨rfl, rfl⟩ := hn
     have := sum_opp F (x := x1) (y := -y2)
     rw [show - -y2 = y2 from rg_neg_neg y2] at this
     rw [this]; exact .zero
   . obtain ⟨l, hl⟩ := slope_ex F h1 h2 hn
     rw [sum_by F h1 h2 hn hl]
     exact .of (on_sum h1 hl)
theorem sum_comm (F : Fd K iv e) {p q : Ap K} (hp : Pt p) (hq : Pt q) : sumW iv e p q = sumW iv e q p := by
 cases hp with
 | zero => rw [hq.add0]; rfl
 | of h1 =>
  cases hq with
  | zero => rw [sum_zero_r _ (fun h => by cases h)]; rfl
  | of h2 =>
   rename_i x1 y1 x2 y2
   by_cases hn : x1 = x2 /\ y1 = -y2
   . obtain ⟨rfl, rfl⟩ := hn
     have e1 := sum_opp F (x := x1) (y := -y2)
     rw [show - -y2 = y2 from rg_neg_neg y2] at e1
     rw [e1, sum_opp F]
   . obtain ⟨l, hl⟩ := slope_ex F h1 h2 hn
     have hl' : Sl x2 y2 x1 y1 l := ⟨by have := hl.a; exact rg1 [x1, y1, x2, y2, l] this (-1), by have := hl.b; exact rg1 [x1, y1, x2, y2, l] this 1⟩
     rw [sum_by F h1 h2 hn hl, sum_by F h2 h1 (fun h => hn ⟨h.1.symm, rg1 [y1, y2] h.2 1⟩) hl']
     have ha := hl.a
     unfold pt
     congr 1
     . exact rg [x1, x2, l]
     . exact rg1 [x1, y1, x2, y2, l] ha (-1)
theorem smooth (F : Fd K iv e) {x : K} (h : On x 0) : x * x + x * x + x * x + 1 ≠ 0 := by
 intro hz
 unfold On at h
 have hf : x * (x * x + 1) = 0 := rg1 [x] h (-1)
 rcases F.zero_or hf with h0 | h0
 . subst h0
   exact F.one (rg1 [] hz 1)
 . have h1 : (1 : K) + 1 = 0 := rg2 [x] h0 (1 + 1 + 1) hz (-1)
   exact F.one (F.two h1)
theorem neg_neg_pt (a : Ap K) : negK (negK a) = a := by
 obtain ⟨x, y, z⟩ := a
 unfold negK
 congr 1
 exact rg_neg_neg y
theorem neg_zero_pt : negK (⟨0, 0, true⟩ : Ap K) = ⟨0, 0, true⟩ := by unfold negK; congr 1; exact rg_neg_zero
theorem neg_of (x y : K) : negK (pt x y) = pt x (-y) := rfl
theorem sum_neg (F : Fd K iv e) {p : Ap K} (hp : Pt p) : sumW iv e p (negK p) = ⟨0, 0, true⟩ := by
 cases hp with
 | zero => rw [neg_zero_pt]; rfl
 | of h => rw [neg_of, sum_opp F]
theorem neg_sum (F : Fd K iv e) {p q : Ap K} (hp : Pt p) (hq : Pt q) : negK (sumW iv e p q) = sumW iv e (negK p) (negK q) := by
 cases hp with
 | zero => rw [neg_zero_pt]; rfl
 | of h1 =>
  cases hq with
  | zero => rw [neg_zero_pt, sum_zero_r _ (fun h => by cases h), sum_zero_r _ (fun h => by cases h)]
  | of h2 =>
   rename_i x1 y1 x2 y2
   rw [neg_of, neg_of]
   by_cases hn : x1 = x2 /\ y1 = -y2
   . obtain ⟨rfl, rfl⟩ := hn
     have e1 := sum_opp F (x := x1) (y := -y2)
     rw [show - -y2 = y2 from rg_neg_neg y2] at e1 ⊢
     rw [e1, neg_zero_pt, sum_opp F]
   . obtain ⟨l, hl⟩ := slope_ex F h1 h2 hn
     have hl' : Sl x1 (-y1) x2 (-y2) (-l) := ⟨by have := hl.a; exact rg1 [x1, y1, x2, y2, l] this (-1), by have := hl.b; exact rg1 [x1, y1, x2, y2, l] this 1⟩
     have g1 := h1.neg
     have g2 := h2.neg
     rw [sum_by F h1 h2 hn hl, sum_by F g1 g2 (fun h => hn ⟨h.1, rg1 [y1, y2] h.2 (-1)⟩) hl', neg_of]
     congr 1
     . exact rg [x1, x2, l]
     . exact rg [x1, y1, x2, l]
theorem sum_cancel (F : Fd K iv e) {p q : Ap K} (hp : Pt p) (hq : Pt q) : sumW iv e (sumW iv e p q) (negK q) = p := by
 cases hp with
 | zero => rw [sum_zero_l, sum_neg F hq]
 | of h1 =>
  cases hq with
  | zero => rw [neg_zero_pt, sum_zero_r _ (fun h => by cases h), sum_zero_r _ (fun h => by cases h)]
  | of h2 =>
   rename_i x1 y1 x2 y2
   rw [neg_of]
   by_cases hn : x1 = x2 /\ y1 = -y2
   . obtain ⟨rfl, rfl⟩ := hn
     have e1 := sum_opp F (x := x1) (y := -y2)
     rw [show - -y2 = y2 from rg_neg_neg y2] at e1
     rw [e1, sum_zero_l]
   . obtain ⟨l, hl⟩ := slope_ex F h1 h2 hn
     have h4 := on_sum h1 hl
     have g2 := h2.neg
     rw [sum_by F h1 h2 hn hl]
     have ha := hl.a
     have hb := hl.b
     have hs : Sl (l * l - x1 - x2) (l * (x1 - (l * l - x1 - x2)) - y1) x2 (-y2) (-l) := ⟨rg1 [x1, y1, x2, y2, l] ha (-1), rg1 [x1, y1, x2, y2, l] hb 1⟩
     have hm : ¬ (l * l - x1 - x2 = x2 /\ l * (x1 - (l * l - x1 - x2)) - y1 = - -y2) := by
      rintro ⟨k1, k2⟩
      have hy0 : y2 = 0 := F.two (rg3 [x1, y1, x2, y2, l] k1 (-l) k2 (-1) ha (-1))
      subst hy0
      exact smooth F h2 (rg3 [x1, y1, x2, l] hb 1 ha l k1 (x1 - x2))
     rw [sum_by F h4 g2 hm hs]
     unfold pt
     congr 1
     . exact rg [x1, x2, l]
     . exact rg [x1, y1, x2, l]
theorem br_a {x1 x2 x3 y2 l m : K} (h1 : x1 * x1 + x1 * x2 + x2 * x2 + 1 = l * (y2 + l * (x1 - x2) + y2)) (h2 : x2 * x2 + x2 * x3 + x3 * x3 + 1 = m * (y2 + (y2 + m * (x3 - x2)))) {x4 x5 y4 s : K}
 (e4 : x4 = l * l - x1 - x2) (e5 : x5 = m * m - x2 - x3) (f4 : y4 = l * (x2 - x4) - y2) (es : s = x1 + x5 - x3 - x4) :
 (l - m + (l - m)) * (y4 - (y2 + m * (x3 - x2))) = (s - (l - m) * (l - m)) * (x4 - x3) := by
 subst e4 e5 f4 es
 exact rg2 [x1, x2, x3, y2, l, m] h1 (1 + 1) h2 (-(1 + 1))
theorem br_b {x1 x2 x3 y2 l m : K} (h1 : x1 * x1 + x1 * x2 + x2 * x2 + 1 = l * (y2 + l * (x1 - x2) + y2)) (h2 : x2 * x2 + x2 * x3 + x3 * x3 + 1 = m * (y2 + (y2 + m * (x3 - x2)))) {x4 x5 y4 s : K}
 (e4 : x4 = l * l - x1 - x2) (e5 : x5 = m * m - x2 - x3) (f4 : y4 = l * (x2 - x4) - y2) (es : s = x1 + x5 - x3 - x4) :
 (l - m + (l - m)) * (x4 * x4 + x4 * x3 + x3 * x3 + 1) = (s - (l - m) * (l - m)) * (y4 + (y2 + m * (x3 - x2))) := by
 subst e4 e5 f4 es
 exact rg2 [x1, x2, x3, y2, l, m] h1 (-(m + m)) h2 (l + l)
theorem div_by {D i u N v : K} (hi : D * i = 1) (A : D * u = N * v) : u = N * i * v := rg2 [D, u, N, v, i] A i hi (-u)
theorem mv_a {y1 y2 l x1 x2 : K} (h : y1 - y2 = l * (x1 - x2)) : y1 = y2 + l * (x1 - x2) := rg1 [x1, x2, y1, y2, l] h 1
theorem mv_b {y2 y3 m x2 x3 : K} (h : y2 - y3 = m * (x2 - x3)) : y3 = y2 + m * (x3 - x2) := rg1 [x2, x3, y2, y3, m] h (-1)
theorem mv_c {y1 y2 y4 l x1 x2 x4 : K} (h : y4 = l * (x1 - x4) - y1) (f : y1 = y2 + l * (x1 - x2)) : y4 = l * (x2 - x4) - y2 := rg2 [x1, x2, x4, y1, y2, y4, l] h 1 f (-1)
theorem mv_e {a b c d : K} (h : a = b - c - d) : a = b - d - c := rg1 [a, b, c, d] h 1
theorem mv_f {r n l m : K} (h : n + l = r + m) : r = n + l - m := rg1 [r, n, l, m] h (-1)
theorem mv_g {x2 x3 m y2 : K} (h : x2 * x2 + x2 * x3 + x3 * x3 + 1 = m * (y2 + (y2 + m * (x3 - x2)))) : x3 * x3 + x3 * x2 + x2 * x2 + 1 = m * (y2 + m * (x3 - x2) + y2) := rg1 [x2, x3, m, y2] h 1
theorem mv_h {x1 x2 l y2 : K} (h : x1 * x1 + x1 * x2 + x2 * x2 + 1 = l * (y2 + l * (x1 - x2) + y2)) : x2 * x2 + x2 * x1 + x1 * x1 + 1 = l * (y2 + (y2 + l * (x1 - x2))) := rg1 [x1, x2, l, y2] h 1
theorem mv_i {l m y1 y5 x1 x3 x4 x5 : K} (h : (m - l + (m - l)) * (y5 - y1) = (x3 + x4 - x1 - x5 - (m - l) * (m - l)) * (x5 - x1)) : (l - m + (l - m)) * (y1 - y5) = (x1 + x5 - x3 - x4 + (l - m) * (l - m)) * (x1 - x5) := rg1 [l, m, y1, y5, x1, x3, x4, x5] h 1
theorem mv_j {l m y1 y5 x1 x3 x4 x5 : K} (h : (m - l + (m - l)) * (x5 * x5 + x5 * x1 + x1 * x1 + 1) = (x3 + x4 - x1 - x5 - (m - l) * (m - l)) * (y5 + y1)) : (l - m + (l - m)) * (x1 * x1 + x1 * x5 + x5 * x5 + 1) = (x1 + x5 - x3 - x4 + (l - m) * (l - m)) * (y1 + y5) := rg1 [l, m, y1, y5, x1, x3, x4, x5] h (-1)
theorem br_y {x1 x2 x3 x4 y1 y2 y3 y4 n r l m X : K} (hX : X = n * n - x4 - x3) (e4 : x4 = l * l - x1 - x2) (g : y4 = y3 + n * (x4 - x3)) (e : r = n + l - m)
 (f1 : y1 = y2 + l * (x1 - x2)) (f3 : y3 = y2 + m * (x3 - x2)) (k : (l - m) * (n + l) = x1 - x3) : n * (x4 - X) - y4 = r * (x1 - X) - y1 := by
 subst e g f1 f3 hX e4
 exact rg1 [x1, x2, x3, y2, n, l, m] k (n - l)
theorem br_n {s d n D i : K} (hi : D * i = 1) (en : n = (s - d) * i) : D * n = s - d := rg2 [s, d, n, D, i] en D hi (s - d)
theorem br_r {s d n D i : K} (hi : D * i = 1) (en : n = (s + d) * i) : D * n = s + d := rg2 [s, d, n, D, i] en D hi (s + d)
theorem br_s {s x1 x2 x3 x4 x5 l m : K} (es : s = x1 + x5 - x3 - x4) (e4 : x4 = l * l - x1 - x2) (e5 : x5 = m * m - x2 - x3) : s = x1 - x3 + (x1 - x3) + m * m - l * l := rg3 [s, x1, x2, x3, x4, x5, l, m] es 1 e4 (-1) e5 1
theorem br_k {s n l m x1 x3 D : K} (q0 : D * n = s - (l - m) * (l - m)) (q1 : s = x1 - x3 + (x1 - x3) + m * m - l * l) (eD : D = l - m + (l - m)) :
 ((l - m) * (n + l) - (x1 - x3)) + ((l - m) * (n + l) - (x1 - x3)) = 0 := rg3 [s, n, l, m, x1, x3, D] q0 1 q1 1 eD (-n)
theorem br_d {s n r l m D : K} (q0 : D * n = s - (l - m) * (l - m)) (q1 : D * r = s + (l - m) * (l - m)) (eD : D = l - m + (l - m)) : (n + l) * D = (r + m) * D := rg3 [s, n, r, l, m, D] q0 1 q1 (-1) eD (l - m)
theorem br_e {s n r l m D : K} (q0 : D * n = s - (l - m) * (l - m)) (q1 : D * r = s + (l - m) * (l - m)) (eD : D = l - m + (l - m)) : ((n + r) * (l - m) - s) + ((n + r) * (l - m) - s) = 0 := rg3 [s, n, r, l, m, D] q0 1 q1 1 eD (-(n + r))
theorem br_x {s n r l m x1 x3 x4 x5 : K} (h : n + l = r + m) (k : (n + r) * (l - m) = s) (es : s = x1 + x5 - x3 - x4) : n * n - x4 - x3 = r * r - x1 - x5 := rg3 [s, n, r, l, m, x1, x3, x4, x5] h (n + r) k (-1) es (-1)
theorem sub_zero_eq {x y : K} (h : x - y = 0) : x = y := rg_sub_eq h
theorem assoc_gen (F : Fd K iv e) {x1 y1 x2 y2 x3 y3 l m x4 y4 x5 y5 : K} (g1 : On x1 y1) (g3 : On x3 y3) (g4 : On x4 y4) (g5 : On x5 y5) (hl : Sl x1 y1 x2 y2 l) (hm : Sl x2 y2 x3 y3 m) (hd : l - m ≠ 0)
 (e4 : x4 = l * l - x1 - x2) (f4 : y4 = l * (x1 - x4) - y1) (e5 : x5 = m * m - x2 - x3) (f5 : y5 = m * (x2 - x5) - y2) (n4 : ¬ (x4 = x3 /\ y4 = -y3)) (n5 : ¬ (x1 = x5 /\ y1 = -y5)) :
 sumW iv e (pt x4 y4) (pt x3 y3) = sumW iv e (pt x1 y1) (pt x5 y5) := by
 obtain ⟨la, lb⟩ := hl
 obtain ⟨ma, mb⟩ := hm
 have f1 := mv_a la
 have f3 := mv_b ma
 have f4' := mv_c f4 f1
 have h1 : x1 * x1 + x1 * x2 + x2 * x2 + 1 = l * (y2 + l * (x1 - x2) + y2) := by rw [lb, <- f1]
 have h2 : x2 * x2 + x2 * x3 + x3 * x3 + 1 = m * (y2 + (y2 + m * (x3 - x2))) := by rw [mb, <- f3]
 have hD : l - m + (l - m) ≠ 0 := fun h => hd (F.two h)
 have hi := F.inv hD
 have A := br_a h1 h2 e4 e5 f4' (s := x1 + x5 - x3 - x4) rfl
 have B := br_b h1 h2 e4 e5 f4' (s := x1 + x5 - x3 - x4) rfl
 have A' := br_a (mv_g h2) (mv_h h1) (mv_e e5) (mv_e e4) f5 (s := x3 + x4 - x1 - x5) rfl
 have B' := br_b (mv_g h2) (mv_h h1) (mv_e e5) (mv_e e4) f5 (s := x3 + x4 - x1 - x5) rfl
 rw [<- f3] at A B
 rw [<- f1] at A' B'
 have A2 := mv_i A'
 have B2 := mv_j B'
 obtain ⟨D, eD⟩ : ∃ D, D = l - m + (l - m) := ⟨_, rfl⟩
 obtain ⟨i, ei⟩ : ∃ i, i = iv D := ⟨_, rfl⟩
 obtain ⟨s, es⟩ : ∃ s, s = x1 + x5 - x3 - x4 := ⟨_, rfl⟩
 rw [<- eD, <- ei] at hi
 rw [<- eD, <- es] at A B A2 B2
 have sn : Sl x4 y4 x3 y3 ((s - (l - m) * (l - m)) * i) := ⟨div_by hi A, div_by hi B⟩
 have sr : Sl x1 y1 x5 y5 ((s + (l - m) * (l - m)) * i) := ⟨div_by hi A2, div_by hi B2⟩
 rw [sum_by F g4 g3 n4 sn, sum_by F g1 g5 n5 sr]
 obtain ⟨n, en⟩ : ∃ n, n = (s - (l - m) * (l - m)) * i := ⟨_, rfl⟩
 obtain ⟨r, er⟩ : ∃ r, r = (s + (l - m) * (l - m)) * i := ⟨_, rfl⟩
 rw [<- en] at sn ⊢
 rw [<- er] at sr ⊢
 have q0 := br_n hi en
 have q1 := br_r hi er
 rw [<- eD] at hD
 have hnr := F.cancel hD (br_d q0 q1 eD)
 have hX := br_x hnr (sub_zero_eq (F.two (br_e q0 q1 eD))) es
 have k := sub_zero_eq (F.two (br_k q0 (br_s es e4 e5) eD))
 have hY := br_y (X := n * n - x4 - x3) rfl e4 (mv_a sn.a) (mv_f hnr) f1 f3 k
 rw [<- hX]
 unfold pt
 congr 1
theorem col_a {x1 x2 x3 x4 y2 l : K} (h1 : x1 * x1 + x1 * x2 + x2 * x2 + 1 = l * (y2 + l * (x1 - x2) + y2)) (h2 : x2 * x2 + x2 * x3 + x3 * x3 + 1 = l * (y2 + (y2 + l * (x3 - x2)))) (e4 : x4 = l * l - x1 - x2) : (x3 - x1) * (x3 - x4) = 0 := by
 subst e4
 exact rg2 [x1, x2, x3, y2, l] h1 (-1) h2 1
theorem col_b {x3 x4 y2 y3 y4 l x2 : K} (f4 : y4 = l * (x2 - x4) - y2) (f3 : y3 = y2 + l * (x3 - x2)) (h : x3 - x4 = 0) : y4 = -y3 := rg3 [x2, x3, x4, y2, y3, y4, l] f4 1 f3 1 h l
theorem col_c {x1 x2 x3 y1 y2 y3 l : K} (f1 : y1 = y2 + l * (x1 - x2)) (f3 : y3 = y2 + l * (x3 - x2)) (h : x3 - x1 = 0) : y3 = y1 := rg3 [x1, x2, x3, y1, y2, y3, l] f1 (-1) f3 1 h l
theorem sum_assoc (F : Fd K iv e) {p q r : Ap K} (hp : Pt p) (hq : Pt q) (hr : Pt r) : sumW iv e (sumW iv e p q) r = sumW iv e p (sumW iv e q r) := by
 have back : ∀ {p r : Ap K}, Pt p -> Pt r -> sumW iv e p (sumW iv e (negK p) r) = r := fun {p r} hp hr => by
  rw [sum_comm F (neg_pt hp) hr, sum_comm F hp (sum_pt F hr (neg_pt hp))]
  have := sum_cancel F hr (neg_pt hp)
  rw [neg_neg_pt] at this
  exact this
 by_cases pq : q = negK p
 . subst pq
   rw [sum_neg F hp, sum_zero_l, back hp hr]
 by_cases qr : r = negK q
 . subst qr
   rw [sum_neg F hq, hp.add0, sum_cancel F hp hq]
 by_cases pqr : r = negK (sumW iv e p q)
 . have hpq := sum_pt F hp hq
   subst pqr
   rw [sum_neg F hpq]
   have h1 := sum_cancel F hp hq
   have h2 := neg_sum F hpq (neg_pt hq)
   rw [h1, neg_neg_pt] at h2
   rw [sum_comm F hq (neg_pt hpq), <- h2, sum_neg F hp]
 by_cases qrp : sumW iv e q r = negK p
 . rw [qrp, sum_neg F hp]
   exfalso
   apply pqr
   rw [neg_sum F hp hq, <- qrp, sum_comm F hq hr, sum_cancel F hr hq]
 cases hp with
 | zero => rw [sum_zero_l, sum_zero_l]
 | of g1 =>
  cases hq with
  | zero => rw [sum_zero_r _ (fun h => by cases h), sum_zero_l]
  | of g2 =>
   cases hr with
   | zero => rw [(sum_pt F (.of g1) (.of g2)).add0, sum_zero_r _ (fun h => by cases h)]
   | of g3 =>
    rename_i x1 y1 x2 y2 x3 y3
    have n1 : ¬ (x1 = x2 /\ y1 = -y2) := fun h => pq (by
     rw [neg_of]; unfold pt; rw [h.1, h.2]; congr 1; exact (rg_neg_neg _).symm)
    have n2 : ¬ (x2 = x3 /\ y2 = -y3) := fun h => qr (by
     rw [neg_of]; unfold pt; rw [h.1, h.2]; congr 1; exact (rg_neg_neg _).symm)
    obtain ⟨l, hl⟩ := slope_ex F g1 g2 n1
    obtain ⟨m, hm⟩ := slope_ex F g2 g3 n2
    have s1 := sum_by F g1 g2 n1 hl
    have s2 := sum_by F g2 g3 n2 hm
    have g4 := on_sum g1 hl
    have g5 := on_sum g2 hm
    rw [s1] at pqr ⊢
    rw [s2] at qrp ⊢
    obtain ⟨x4, e4⟩ : ∃ x4, x4 = l * l - x1 - x2 := ⟨_, rfl⟩
    rw [<- e4] at g4 pqr ⊢
    obtain ⟨y4, f4⟩ : ∃ y4, y4 = l * (x1 - x4) - y1 := ⟨_, rfl⟩
    rw [<- f4] at g4 pqr ⊢
    obtain ⟨x5, e5⟩ : ∃ x5, x5 = m * m - x2 - x3 := ⟨_, rfl⟩
    rw [<- e5] at g5 qrp ⊢
    obtain ⟨y5, f5⟩ : ∃ y5, y5 = m * (x2 - x5) - y2 := ⟨_, rfl⟩
    rw [<- f5] at g5 qrp ⊢
    have n4 : ¬ (x4 = x3 /\ y4 = -y3) := fun h => pqr (by
     rw [neg_of]; unfold pt; rw [h.1, h.2]; congr 1; exact (rg_neg_neg _).symm)
    have n5 : ¬ (x1 = x5 /\ y1 = -y5) := fun h => qrp (by
     rw [neg_of]; unfold pt; rw [h.1, h.2]; congr 1; exact (rg_neg_neg _).symm)
    by_cases hd : l - m = 0
    . have : l = m := sub_zero_eq hd
      subst this
      have f1 := mv_a hl.a
      have f3 := mv_b hm.a
      have f4' := mv_c f4 f1
      have h1 : x1 * x1 + x1 * x2 + x2 * x2 + 1 = l * (y2 + l * (x1 - x2) + y2) := by rw [hl.b, <- f1]
      have h2 : x2 * x2 + x2 * x3 + x3 * x3 + 1 = l * (y2 + (y2 + l * (x3 - x2))) := by rw [hm.b, <- f3]
      rcases F.zero_or (col_a h1 h2 e4) with h | h
      . have hy := col_c f1 f3 h
        have hx := sub_zero_eq h
        subst hx hy
        have : x5 = x4 := by rw [e4, e5]; exact mv_e rfl
        subst this
        have : y5 = y4 := by rw [f4', f5]
        subst this
        exact sum_comm F (.of g4) (.of g3)
      . exact absurd ⟨(sub_zero_eq h).symm, col_b f4' f3 h⟩ n4
    . exact assoc_gen F g1 g3 g4 g5 hl hm hd e4 f4 e5 f5 n4 n5
end
end Go.Rq.Cw

namespace Go.Rq.Cw
set_option synthInstance.maxSize 100000
set_option synthInstance.maxHeartbeats 400000
section
variable {K : Type} [Rg K] {iv : K -> K} {e : K -> K -> Bool}
def nsm (iv : K -> K) (e : K -> K -> Bool) (A : Ap K) : Nat -> Ap K
 | 0 => ⟨0, 0, true⟩
 | n + 1 => sumW iv e (nsm iv e A n) A
theorem nsm_pt (F : Fd K iv e) {A : Ap K} (hA : Pt A) : ∀ n : Nat, Pt (nsm iv e A n)
 | 0 => .zero
 | n + 1 => sum_pt F (nsm_pt F hA n) hA
theorem nsm_add (F : Fd K iv e) {A : Ap K} (hA : Pt A) (m : Nat) : ∀ n : Nat, nsm iv e A (m + n) = sumW iv e (nsm iv e A m) (nsm iv e A n)
 | 0 => (nsm_pt F hA m).add0.symm
 | n + 1 => by
  show sumW iv e (nsm iv e A (m + n)) A = sumW iv e (nsm iv e A m) (sumW iv e (nsm iv e A n) A)
  rw [nsm_add F hA m n, sum_assoc F (nsm_pt F hA m) (nsm_pt F hA n) hA]
theorem nsm_zero (n : Nat) : nsm iv e (⟨0, 0, true⟩ : Ap K) n = ⟨0, 0, true⟩ := by
 induction n with
 | zero => rfl
 | succ n ih =>
  show sumW iv e (nsm iv e (⟨0, 0, true⟩ : Ap K) n) ⟨0, 0, true⟩ = _
  rw [ih]; rfl
end
end Go.Rq.Cw

namespace Go.Rq
theorem pr_786251 : Pr 786251 := Pr.of_trial (k := 890) (by decide +kernel) (by decide +kernel) (by decide +kernel)
theorem pr_65521 : Pr 65521 := Pr.of_trial (k := 260) (by decide +kernel) (by decide +kernel) (by decide +kernel)
theorem pr_6868571 : Pr 6868571 := Pr.of_trial (k := 2700) (by decide +kernel) (by decide +kernel) (by decide +kernel)
theorem pr_10056583 : Pr 10056583 := Pr.of_trial (k := 3200) (by decide +kernel) (by decide +kernel) (by decide +kernel)
theorem pr_192153584101141037 : Pr 192153584101141037 := pr_pock (a := 2) 44 (by decide +kernel) (by decide +kernel) pr_10056583 (by decide +kernel) (by decide +kernel) (by decide +kernel)
theorem pr_1152921504606846223 : Pr 1152921504606846223 := pr_pock (a := 2) 0 (by decide +kernel) (by decide +kernel) pr_192153584101141037 (by decide +kernel) (by decide +kernel) (by decide +kernel)
theorem pr_72057594037927889 : Pr 72057594037927889 := pr_pock (a := 2) 40 (by decide +kernel) (by decide +kernel) pr_6868571 (by decide +kernel) (by decide +kernel) (by decide +kernel)
end Go.Rq

namespace Go.Rq
set_option synthInstance.maxSize 100000
set_option synthInstance.maxHeartbeats 400000
section
variable {K : Type} [Rg K] {iv : K -> K} {e : K -> K -> Bool}
inductive Jr : Jp K -> Ap K -> Prop
 | none {u : Jp K} (h : u.z = 0) : Jr u ⟨0, 0, true⟩
 | of {u : Jp K} {x y : K} (hz : u.z ≠ 0) (hx : u.x = x * (u.z * u.z)) (hy : u.y = y * (u.z * u.z * u.z)) : Jr u (pt x y)
theorem jl_x {x z i ux : K} (hi : z * i = 1) (h : ux = x * (z * z)) : ux * (i * i) = x := rg2 [x, z, i, ux] h (i * i) hi (x * (z * i + 1))
theorem jl_y {y z i uy : K} (hi : z * i = 1) (h : uy = y * (z * z * z)) : uy * (i * i * i) = y := rg2 [y, z, i, uy] h (i * i * i) hi (y * (z * i * (z * i) + z * i + 1))
theorem jr_low (F : Fd K iv e) {u : Jp K} {A : Ap K} (h : Jr u A) : lowerE (foK iv) e u = A := by
 unfold lowerE
 rw [show (foK iv).zero = (0 : K) from rfl]
 cases h with
 | none h => rw [F.eq.2 h]; rfl
 | of hz hx hy =>
  have hi := F.inv hz
  rw [F.ne hz, cond_false]
  exact Ap.ext3 (jl_x hi hx) (jl_y hi hy) rfl
theorem jt_x {x y z l : K} (hb : x * x + x * x + x * x = l * (y + y)) {ux uy : K} (hx : ux = x * (z * z)) (hy : uy = y * (z * z * z)) :
 (ux * ux + ux * ux + ux * ux) * (ux * ux + ux * ux + ux * ux) - (ux * (uy * uy) + ux * (uy * uy) + (ux * (uy * uy) + ux * (uy * uy)) + (ux * (uy * uy) + ux * (uy * uy) + (ux * (uy * uy) + ux * (uy * uy)))) = (l * l - x - x) * ((uy * z + uy * z) * (uy * z + uy * z)) := by
 subst hx hy
 have h1 : x * (z * z) * (x * (z * z)) + x * (z * z) * (x * (z * z)) + x * (z * z) * (x * (z * z)) = l * (y + y) * (z * z * z * z) := by rw [<- hb]; exact rg [x, y, z]
 rw [h1]
 exact rg [x, y, z, l]
theorem jt_y {x y z l : K} (hb : x * x + x * x + x * x = l * (y + y)) {ux uy X : K} (hx : ux = x * (z * z)) (hy : uy = y * (z * z * z)) (hX : X = (l * l - x - x) * ((uy * z + uy * z) * (uy * z + uy * z))) :
 (ux * ux + ux * ux + ux * ux) * (ux * (uy * uy) + ux * (uy * uy) + (ux * (uy * uy) + ux * (uy * uy)) - X) - (uy * uy * (uy * uy) + uy * uy * (uy * uy) + (uy * uy * (uy * uy) + uy * uy * (uy * uy)) + (uy * uy * (uy * uy) + uy * uy * (uy * uy) + (uy * uy * (uy * uy) + uy * uy * (uy * uy)))) =
  (l * (x - (l * l - x - x)) - y) * ((uy * z + uy * z) * (uy * z + uy * z) * (uy * z + uy * z)) := by
 subst hx hy hX
 have h1 : x * (z * z) * (x * (z * z)) + x * (z * z) * (x * (z * z)) + x * (z * z) * (x * (z * z)) = l * (y + y) * (z * z * z * z) := by rw [<- hb]; exact rg [x, y, z]
 rw [h1]
 exact rg [x, y, z, l]
theorem jr_twice (F : Fd K iv e) {b : K} (C : Cv F b) {u : Jp K} {A : Ap K} (h : Jr u A) (hA : Pt b A) : Jr (twiceJ (foK iv) u) (sumA iv e A A) := by
 cases h with
 | none h => exact .none (by rw [twice_z, h]; exact rg [u.y])
 | of hz hx hy =>
  rename_i x y
  have hon : On b x y := by
   generalize hg : pt x y = A at hA
   cases hA with
   | zero => cases hg
   | of h =>
    have := Ap.mk.inj hg
    obtain ⟨rfl, rfl, -⟩ := this
    exact h
  have hy0 := C.y hon
  have hn : ¬ (x = x /\ y = -y) := fun h => hy0 (F.two (by have := h.2; exact rg1 [y] this 1))
  obtain ⟨l, hl⟩ := slope_ex F hon hon hn
  rw [sum_by F hon hon hn hl]
  have hx' := jt_x hl.b hx hy
  have hy' := jt_y hl.b hx hy hx'
  refine .of ?_ hx' hy'
  rw [twice_z, hy]
  intro h0
  have h1 := F.two h0
  exact F.ne_mul (F.ne_mul hy0 (F.ne_mul (F.ne_mul hz hz) hz)) hz h1
theorem js_h {x1 x2 z1 z2 : K} {u v : K} (hu : u = x1 * (z1 * z1)) (hv : v = x2 * (z2 * z2)) : v * (z1 * z1) - u * (z2 * z2) = (x2 - x1) * ((z1 * z1) * (z2 * z2)) := by subst hu hv; exact rg [x1, x2, z1, z2]
theorem js_r {y1 y2 z1 z2 : K} {u v : K} (hu : u = y1 * (z1 * z1 * z1)) (hv : v = y2 * (z2 * z2 * z2)) : v * ((z1 * z1) * z1) - u * ((z2 * z2) * z2) = (y2 - y1) * ((z1 * z1 * z1) * (z2 * z2 * z2)) := by subst hu hv; exact rg [y1, y2, z1, z2]
theorem js_x {x1 x2 y1 y2 z1 z2 l h r w3 u : K} (hh : h = (x2 - x1) * ((z1 * z1) * (z2 * z2))) (hr : r = (y2 - y1) * ((z1 * z1 * z1) * (z2 * z2 * z2))) (ha : y1 - y2 = l * (x1 - x2)) (hu : u = x1 * (z1 * z1) * (z2 * z2)) (hw : w3 = h * (z1 * z2)) :
 (r * r - h * h * h) - (u * (h * h) + u * (h * h)) = (l * l - x1 - x2) * (w3 * w3) := by
 have h1 : r = l * w3 := by
  subst hr hw hh
  have : y2 - y1 = l * (x2 - x1) := rg1 [x1, x2, y1, y2, l] ha (-1)
  rw [this]
  exact rg [x1, x2, z1, z2, l]
 subst h1 hu
 have h2 : h * h * h = (x2 - x1) * (w3 * w3) := by subst hw hh; exact rg [x1, x2, z1, z2]
 have h3 : x1 * (z1 * z1) * (z2 * z2) * (h * h) = x1 * (w3 * w3) := by subst hw; exact rg [x1, z1, z2, h]
 rw [h2, h3]
 exact rg [x1, x2, l, w3]
theorem js_y {x1 x2 y1 y2 z1 z2 l h r w3 u s X : K} (hh : h = (x2 - x1) * ((z1 * z1) * (z2 * z2))) (hr : r = (y2 - y1) * ((z1 * z1 * z1) * (z2 * z2 * z2))) (ha : y1 - y2 = l * (x1 - x2)) (hu : u = x1 * (z1 * z1) * (z2 * z2)) (hs : s = y1 * (z1 * z1 * z1) * (z2 * z2 * z2)) (hw : w3 = h * (z1 * z2))
 (hX : X = (l * l - x1 - x2) * (w3 * w3)) : r * (u * (h * h) - X) - s * (h * h * h) = (l * (x1 - (l * l - x1 - x2)) - y1) * (w3 * w3 * w3) := by
 have h1 : r = l * w3 := by
  subst hr hw hh
  have : y2 - y1 = l * (x2 - x1) := rg1 [x1, x2, y1, y2, l] ha (-1)
  rw [this]
  exact rg [x1, x2, z1, z2, l]
 have h3 : u * (h * h) = x1 * (w3 * w3) := by subst hw hu; exact rg [x1, z1, z2, h]
 have h4 : s * (h * h * h) = y1 * (w3 * w3 * w3) := by subst hw hs; exact rg [y1, z1, z2, h]
 rw [h1, h3, h4, hX]
 exact rg [x1, x2, y1, l, w3]
theorem jr_sum (F : Fd K iv e) {b : K} (C : Cv F b) (f : Fl K) {u v : Jp K} {A B : Ap K} (h : Jr u A) (k : Jr v B) (hA : Pt b A) (hB : Pt b B) : Jr (sumE (foK iv) e f u v) (sumA iv e A B) := by
 have z0 : (foK iv).zero = (0 : K) := rfl
 cases h with
 | none h =>
  unfold sumE
  rw [z0, F.eq.2 h, cond_true]
  exact k
 | of hz hx hy =>
  rename_i x1 y1
  have pt_of : ∀ {x y : K}, Pt b (pt x y) -> On b x y := fun {x y} hA => by
   generalize hg : pt x y = A at hA
   cases hA with
   | zero => cases hg
   | of h =>
    have := Ap.mk.inj hg
    obtain ⟨rfl, rfl, -⟩ := this
    exact h
  cases k with
  | none k =>
   unfold sumE
   rw [z0, F.ne hz, F.eq.2 k, cond_false, cond_true, sum_zero_r _ (fun h => by cases h)]
   exact .of hz hx hy
  | of kz kx ky =>
   rename_i x2 y2
   have hj : hJ (foK iv) u v = (x2 - x1) * ((u.z * u.z) * (v.z * v.z)) := js_h hx kx
   have rj : rJ (foK iv) u v = (y2 - y1) * ((u.z * u.z * u.z) * (v.z * v.z * v.z)) := js_r hy ky
   have hzz := F.ne_mul (F.ne_mul hz hz) (F.ne_mul kz kz)
   have hzzz := F.ne_mul (F.ne_mul (F.ne_mul hz hz) hz) (F.ne_mul (F.ne_mul kz kz) kz)
   have g1 := pt_of hA
   have g2 := pt_of hB
   have se : sumE (foK iv) e f u v = bif e (hJ (foK iv) u v) 0 then (bif e (rJ (foK iv) u v) 0 then twiceJ (foK iv) u else ⟨f.one, f.one, 0⟩) else sumJ (foK iv) u v := by
    unfold sumE
    rw [z0, F.ne hz, F.ne kz]
    rfl
   rw [se]
   by_cases hx12 : x1 = x2
   . subst hx12
     rw [F.eq.2 (show hJ (foK iv) u v = 0 by rw [hj]; exact rg [x1, u.z, v.z]), cond_true]
     by_cases hy12 : y1 = y2
     . subst hy12
       rw [F.eq.2 (show rJ (foK iv) u v = 0 by rw [rj]; exact rg [y1, u.z, v.z]), cond_true]
       exact jr_twice F C (.of hz hx hy) hA
     . rw [F.ne (show rJ (foK iv) u v ≠ 0 by rw [rj]; exact F.ne_mul (fun h => hy12 (sub_zero_eq h).symm) hzzz), cond_false]
       have : y1 = -y2 := by
        unfold On at g1 g2
        have hs : (y1 - y2) * (y1 + y2) = 0 := rg2 [x1, y1, y2, b] g1 1 g2 (-1)
        rcases F.zero_or hs with h | h
        . exact absurd (sub_zero_eq h) hy12
        . exact rg1 [y1, y2] h 1
       subst this
       have e1 := sum_opp F (x := x1) (y := -y2)
       rw [show - -y2 = y2 from rg_neg_neg y2] at e1
       rw [e1]
       exact .none rfl
   . have hh : hJ (foK iv) u v ≠ 0 := by
      rw [hj]
      exact F.ne_mul (fun h => hx12 (sub_zero_eq h).symm) hzz
     rw [F.ne hh, cond_false]
     have hn : ¬ (x1 = x2 /\ y1 = -y2) := fun h => hx12 h.1
     obtain ⟨l, hl⟩ := slope_ex F g1 g2 hn
     rw [sum_by F g1 g2 hn hl]
     have hu : u.x * (v.z * v.z) = x1 * (u.z * u.z) * (v.z * v.z) := by rw [hx]
     have hs : u.y * (v.z * v.z * v.z) = y1 * (u.z * u.z * u.z) * (v.z * v.z * v.z) := by rw [hy]
     have X := js_x hj rj hl.a hu (w3 := hJ (foK iv) u v * (u.z * v.z)) rfl
     have Y := js_y hj rj hl.a hu hs (w3 := hJ (foK iv) u v * (u.z * v.z)) rfl X
     exact .of (F.ne_mul hh (F.ne_mul hz kz)) X Y
def nsm (iv : K -> K) (e : K -> K -> Bool) (A : Ap K) : Nat -> Ap K
 | 0 => ⟨0, 0, true⟩
 | n + 1 => sumA iv e (nsm iv e A n) A
theorem nsm_pt (F : Fd K iv e) {b : K} {A : Ap K} (hA : Pt b A) : ∀ n : Nat, Pt b (nsm iv e A n)
 | 0 => .zero
 | n + 1 => sum_pt F (nsm_pt F hA n) hA
theorem nsm_add (F : Fd K iv e) {b : K} (C : Cv F b) {A : Ap K} (hA : Pt b A) (m : Nat) : ∀ n : Nat, nsm iv e A (m + n) = sumA iv e (nsm iv e A m) (nsm iv e A n)
 | 0 => (nsm_pt F hA m).add0.symm
 | n + 1 => by
  show sumA iv e (nsm iv e A (m + n)) A = sumA iv e (nsm iv e A m) (sumA iv e (nsm iv e A n) A)
  rw [nsm_add F C hA m n, sum_assoc F C (nsm_pt F hA m) (nsm_pt F hA n) hA]
theorem nsm_zero (n : Nat) : nsm iv e (⟨0, 0, true⟩ : Ap K) n = ⟨0, 0, true⟩ := by
 induction n with
 | zero => rfl
 | succ n ih =>
  show sumA iv e (nsm iv e (⟨0, 0, true⟩ : Ap K) n) ⟨0, 0, true⟩ = _
  rw [ih]; rfl
end
end Go.Rq

namespace Go.Rq
open Go
theorem bitsV_mod (x : Nat) : ∀ k : Nat, bitsV (fun i => Nat.testBit x i) k = x % 2 ^ k
 | 0 => by simp [bitsV, Nat.mod_one]
 | k + 1 => by
  simp only [bitsV]
  rw [bitsV_mod x k, Nat.mod_pow_succ]
  have e : Nat.testBit x k = decide (x / 2 ^ k % 2 = 1) := Nat.testBit_eq_decide_div_mod_eq
  rw [e]
  rcases Nat.mod_two_eq_zero_or_one (x / 2 ^ k) with h | h
  . rw [h]; simp
  . rw [h]; simp
theorem bitsV_congr {b c : Nat -> Bool} (h : ∀ i, b i = c i) : ∀ k : Nat, bitsV b k = bitsV c k
 | 0 => rfl
 | k + 1 => by simp only [bitsV, h, bitsV_congr h k]
theorem word_test (w : BitVec 64) (j : Nat) : (((w >>> j) &&& 1#64) == 1#64) = Nat.testBit w.toNat j := by
 have hb : ((w >>> j) &&& 1#64).toNat = (w.toNat >>> j) % 2 := by
  rw [BitVec.toNat_and, BitVec.toNat_ushiftRight, show (1#64).toNat = 1 from rfl, Nat.and_one_is_mod]
 rw [Bool.eq_iff_iff, beq_iff_eq]
 unfold Nat.testBit
 rw [Nat.and_comm, Nat.and_one_is_mod]
 constructor
 . intro h
   rw [h] at hb
   rw [<- hb]; rfl
 . intro h
   apply BitVec.eq_of_toNat_eq
   rw [hb]
   have : (w.toNat >>> j) % 2 ≠ 0 := by simpa using h
   show _ = 1
   omega
theorem val_word (n : W6) {j : Nat} (hj : j < 6) : n.val / 2 ^ (64 * j) % 2 ^ 64 = (n.get j).toNat := by
 obtain ⟨a0, a1, a2, a3, a4, a5⟩ := n
 have g0 := a0.isLt; have g1 := a1.isLt; have g2 := a2.isLt; have g3 := a3.isLt; have g4 := a4.isLt; have g5 := a5.isLt
 have p0 : (2 : Nat) ^ (64 * 0) = 1 := by decide +kernel
 have p1 : (2 : Nat) ^ (64 * 1) = 18446744073709551616 := by decide +kernel
 have p2 : (2 : Nat) ^ (64 * 2) = 340282366920938463463374607431768211456 := by decide +kernel
 have p3 : (2 : Nat) ^ (64 * 3) = 6277101735386680763835789423207666416102355444464034512896 := by decide +kernel
 have p4 : (2 : Nat) ^ (64 * 4) = 115792089237316195423570985008687907853269984665640564039457584007913129639936 := by decide +kernel
 have p5 : (2 : Nat) ^ (64 * 5) = 2135987035920910082395021706169552114602704522356652769947041607822219725780640550022962086936576 := by decide +kernel
 have p : (2 : Nat) ^ 64 = 18446744073709551616 := by decide +kernel
 rw [p] at g0 g1 g2 g3 g4 g5 ⊢
 have q0 : W6.val ⟨a0, a1, a2, a3, a4, a5⟩ / 1 % 18446744073709551616 = a0.toNat := by simp only [W6.val]; omega
 have q1 : W6.val ⟨a0, a1, a2, a3, a4, a5⟩ / 18446744073709551616 % 18446744073709551616 = a1.toNat := by simp only [W6.val]; omega
 have q2 : W6.val ⟨a0, a1, a2, a3, a4, a5⟩ / 340282366920938463463374607431768211456 % 18446744073709551616 = a2.toNat := by simp only [W6.val]; omega
 have q3 : W6.val ⟨a0, a1, a2, a3, a4, a5⟩ / 6277101735386680763835789423207666416102355444464034512896 % 18446744073709551616 = a3.toNat := by simp only [W6.val]; omega
 have q4 : W6.val ⟨a0, a1, a2, a3, a4, a5⟩ / 115792089237316195423570985008687907853269984665640564039457584007913129639936 % 18446744073709551616 = a4.toNat := by simp only [W6.val]; omega
 have q5 : W6.val ⟨a0, a1, a2, a3, a4, a5⟩ / 2135987035920910082395021706169552114602704522356652769947041607822219725780640550022962086936576 % 18446744073709551616 = a5.toNat := by simp only [W6.val]; omega
 have hc : j = 0 \/ j = 1 \/ j = 2 \/ j = 3 \/ j = 4 \/ j = 5 := by omega
 rcases hc with h | h | h | h | h | h
 . rw [h, p0]; exact q0
 . rw [h, p1]; exact q1
 . rw [h, p2]; exact q2
 . rw [h, p3]; exact q3
 . rw [h, p4]; exact q4
 . rw [h, p5]; exact q5
theorem lt_pow {x d k i : Nat} (h : x < d) (e : d = 2 ^ k) (hk : k <= i) : x < 2 ^ i := by
 subst e
 exact Nat.lt_of_lt_of_le h (Nat.pow_le_pow_right (by decide) hk)
theorem bit_test (n : W6) (i : Nat) : n.bit i = Nat.testBit n.val i := by
 unfold W6.bit
 rw [word_test]
 by_cases hi : i / 64 < 6
 . rw [<- val_word n hi, Nat.testBit_mod_two_pow, Nat.testBit_div_two_pow]
   rw [show decide (i % 64 < 64) = true from decide_eq_true (Nat.mod_lt _ (by decide)), Bool.true_and, show i % 64 + 64 * (i / 64) = i by omega]
 . have h1 : n.get (i / 64) = 0#64 := by
    unfold W6.get
    rw [List.getD_eq_getElem?_getD, List.getElem?_eq_none (by simp; omega)]
    rfl
   rw [h1]
   have h2 := n.val_lt
   have h4 : (39402006196394479212279040100143613805079739270465446667948293404245721771497210611414266254884915640806627990306816 : Nat) = 2 ^ 384 := by decide +kernel
   have h3 : n.val < 2 ^ i := lt_pow h2 h4 (by omega)
   rw [Nat.testBit_lt_two_pow h3]
   show Nat.testBit 0 _ = false
   rw [Nat.zero_testBit]
theorem bitsV_val (n : W6) {l : Nat} (h : ∀ i, l <= i -> n.bit i = false) : bitsV n.bit l = n.val := by
 rw [bitsV_congr (bit_test n), bitsV_mod]
 apply Nat.mod_eq_of_lt
 exact Nat.lt_pow_two_of_testBit n.val fun i hi => by rw [<- bit_test]; exact h i hi
section
variable {K : Type} [Rg K] {iv : K -> K} {e : K -> K -> Bool}
theorem jr_run (F : Fd K iv e) {b : K} (C : Cv F b) (f : Fl K) (w : Nat -> Bool) {p : Jp K} {A : Ap K} (hp : Jr p A) (hA : Pt b A) : ∀ (k m : Nat) {u : Jp K}, Jr u (nsm iv e A m) -> Jr (runK iv e f w p k u) (nsm iv e A (m * 2 ^ k + bitsV w k))
 | 0, m, u, hu => by
  rw [show m * 2 ^ 0 + bitsV w 0 = m by simp [bitsV]]
  exact hu
 | k + 1, m, u, hu => by
  simp only [runK]
  have ht := jr_twice F C hu (nsm_pt F hA m)
  rw [<- nsm_add F C hA, <- Nat.two_mul] at ht
  have e1 : m * 2 ^ (k + 1) = 2 * m * 2 ^ k := by rw [Nat.pow_succ, Nat.mul_comm 2 m, Nat.mul_assoc, Nat.mul_comm 2 (2 ^ k)]
  cases hw : w k with
  | false =>
   have := jr_run F C f w hp hA k (2 * m) ht
   rw [show m * 2 ^ (k + 1) + bitsV w (k + 1) = 2 * m * 2 ^ k + bitsV w k by simp only [bitsV, hw, cond_false]; rw [e1]; omega]
   exact this
  | true =>
   have hs := jr_sum F C f ht hp (nsm_pt F hA (2 * m)) hA
   have := jr_run F C f w hp hA k (2 * m + 1) (u := sumE (foK iv) e f (twiceJ (foK iv) u) p) hs
   rw [show m * 2 ^ (k + 1) + bitsV w (k + 1) = (2 * m + 1) * 2 ^ k + bitsV w k by simp only [bitsV, hw, cond_true]; rw [e1, Nat.add_mul]; omega]
   exact this
theorem jr_raise (F : Fd K iv e) {f : Fl K} (hf : f.one = 1) {b : K} {A : Ap K} (hA : Pt b A) : Jr (raiseJ (foK iv) f A) A := by
 cases hA with
 | zero => exact .none rfl
 | of h =>
  rename_i x y
  have hr : raiseJ (foK iv) f (pt x y) = ⟨x, y, 1⟩ := by
   show (⟨x, y, f.one⟩ : Jp K) = _
   rw [hf]
  rw [hr]
  exact .of F.one (by show x = x * (1 * 1); exact rg [x]) (by show y = y * (1 * 1 * 1); exact rg [y])
end
end Go.Rq

namespace Go.Rq.Sm
open Go.Rq
set_option synthInstance.maxSize 100000
set_option synthInstance.maxHeartbeats 400000
instance neP (s : Su) : NeZero (suP s) := ⟨by cases s <;> decide⟩
abbrev Fsu (s : Su) : Type := Fin (suP s)
theorem pr_suP (s : Su) : Pr (suP s) := by
 cases s
 . exact pr_786251
 . exact pr_1152921504606846223
theorem suP_big (s : Su) : 3 <= suP s := by cases s <;> decide
theorem suP_60 (s : Su) : suP s <= 1152921504606846223 := by cases s <;> decide +kernel
theorem fdS (s : Su) : Fd (Fsu s) ivF eqF := fdF (pr_suP s) (suP_big s)
section
variable {s : Su}
def fw (x : Fsu s) : BitVec 64 := BitVec.ofNat 64 x.val
theorem fw_nat (x : Fsu s) : (fw x).toNat = x.val := by
 unfold fw
 rw [BitVec.toNat_ofNat, Nat.mod_eq_of_lt]
 have := x.isLt
 have := suP_60 s
 omega
theorem fw_inj {x y : Fsu s} (h : fw x = fw y) : x = y := by
 apply Fin.ext
 rw [<- fw_nat, <- fw_nat, h]
theorem fw_of {a : BitVec 64} (h : a.toNat < suP s) : a = fw (s := s) ⟨a.toNat, h⟩ := by
 apply BitVec.eq_of_toNat_eq
 rw [fw_nat]
theorem fw_beq (x y : Fsu s) : (fw x == fw y) = eqF x y := by
 rw [Bool.eq_iff_iff, beq_iff_eq, eqF_iff]
 exact ⟨fw_inj, fun h => by rw [h]⟩
theorem fw_zero : fw (0 : Fsu s) = 0#64 := by
 apply BitVec.eq_of_toNat_eq
 rw [fw_nat]; rfl
theorem fw_one : fw (1 : Fsu s) = 1#64 := by
 apply BitVec.eq_of_toNat_eq
 rw [fw_nat]
 show 1 % suP s = 1
 exact Nat.mod_eq_of_lt (by have := suP_big s; omega)
theorem lAdd_fw (x y : Fsu s) : lAdd s (fw x) (fw y) = fw (x + y) := by
 apply BitVec.eq_of_toNat_eq
 unfold lAdd
 have hx := x.isLt; have hy := y.isLt; have := suP_60 s
 rw [BitVec.toNat_umod, BitVec.toNat_add, fw_nat, fw_nat, fw_nat, suB_nat, Nat.mod_eq_of_lt (a := x.val + y.val) (by omega)]
 rfl
theorem lMul_fw (x y : Fsu s) : lMul s (fw x) (fw y) = fw (x * y) := by
 unfold lMul fw
 congr 1
 show (fw x).toNat * (fw y).toNat % suP s = _
 rw [fw_nat, fw_nat]
 rfl
theorem rNeg_fw (x : Fsu s) : rNeg s (fw x) = fw (-x) := by
 apply BitVec.eq_of_toNat_eq
 unfold rNeg
 have hx := x.isLt; have := suP_60 s
 rw [BitVec.toNat_umod, BitVec.toNat_sub, fw_nat, fw_nat, suB_nat]
 have h1 : (2 ^ 64 - x.val + suP s) % 2 ^ 64 = suP s - x.val := by omega
 rw [h1]
 show _ = ((suP s - x.val) % suP s)
 rfl
theorem rSub_fw (x y : Fsu s) : rSub s (fw x) (fw y) = fw (x - y) := by
 unfold rSub
 rw [rNeg_fw, lAdd_fw, Rg.sub_eq]
theorem lSub_fw (x y : Fsu s) : lSub s (fw x) (fw y) = fw (x - y) := by
 rw [<- rSub_fw]
 apply BitVec.eq_of_toNat_eq
 unfold lSub rSub lAdd rNeg
 have hx := x.isLt; have hy := y.isLt; have := suP_60 s
 simp only [BitVec.toNat_umod, BitVec.toNat_sub, BitVec.toNat_add, fw_nat, suB_nat]
 have h1 : (2 ^ 64 - y.val + (x.val + suP s) % 2 ^ 64) % 2 ^ 64 = x.val + (suP s - y.val) := by omega
 have h2 : (2 ^ 64 - y.val + suP s) % 2 ^ 64 = suP s - y.val := by omega
 rw [h1, h2]
 have h3 : (x.val + (suP s - y.val) % suP s) % 2 ^ 64 = x.val + (suP s - y.val) % suP s := by
  have := Nat.mod_lt (suP s - y.val) (suP_pos s)
  omega
 rw [h3, Nat.add_mod_mod]
theorem bitU_test (n : BitVec 64) (k : Nat) (h : k < 64) : bitU n (k : Int) = Nat.testBit n.toNat k := by
 unfold bitU
 rw [show Nat.min (k : Int).toNat 64 = k from Nat.min_eq_left (by omega)]
 exact word_test n k
theorem sqB_gen {A B : Type} (tw su : A -> A) (tw' su' : B -> B) (bc : Int -> Bool) (bt : Nat -> Bool) (m : B -> A) (P : B -> Prop) (h1 : ∀ u, P u -> tw (m u) = m (tw' u) /\ P (tw' u)) (h2 : ∀ u, P u -> su (m u) = m (su' u) /\ P (su' u)) :
 ∀ (k : Nat) (u : B), (∀ i, i < k -> bc (i : Int) = bt i) -> P u -> sqB tw su bc k (m u) = m (sqB tw' su' (fun z => bt z.toNat) k u) /\ P (sqB tw' su' (fun z => bt z.toNat) k u)
 | 0, u, _, hu => ⟨rfl, hu⟩
 | k + 1, u, hb, hu => by
  simp only [sqB]
  rw [hb k (by omega), (h1 u hu).1, show ((k : Nat) : Int).toNat = k from rfl]
  have hk : ∀ i, i < k -> bc (i : Int) = bt i := fun i hi => hb i (by omega)
  cases bt k with
  | true =>
   simp only [cond_true]
   rw [(h2 _ (h1 u hu).2).1]
   exact sqB_gen tw su tw' su' bc bt m P h1 h2 k _ hk (h2 _ (h1 u hu).2).2
  | false =>
   simp only [cond_false]
   exact sqB_gen tw su tw' su' bc bt m P h1 h2 k _ hk (h1 u hu).2
theorem sqB_nat {B : Type} (tw su : B -> B) (bt : Nat -> Bool) (f : Nat -> B) (h1 : ∀ n, tw (f n) = f (2 * n)) (h2 : ∀ n, su (f n) = f (n + 1)) :
 ∀ (k m : Nat), sqB tw su (fun z => bt z.toNat) k (f m) = f (m * 2 ^ k + bitsV bt k)
 | 0, m => by simp [sqB, bitsV]
 | k + 1, m => by
  simp only [sqB, bitsV]
  have e : m * 2 ^ (k + 1) = 2 * m * 2 ^ k := by rw [Nat.pow_succ, Nat.mul_comm 2 m, Nat.mul_assoc, Nat.mul_comm 2 (2 ^ k)]
  rw [h1, show ((k : Nat) : Int).toNat = k from rfl]
  cases hb : bt k with
  | true =>
   simp only [cond_true]
   rw [h2, sqB_nat tw su bt f h1 h2 k, e, Nat.add_mul]
   congr 1
   omega
  | false =>
   simp only [cond_false]
   rw [sqB_nat tw su bt f h1 h2 k, e]
   congr 1
theorem bl_bits (n : BitVec 64) : bitsV (fun i => Nat.testBit n.toNat i) (bl n.toNat) = n.toNat := by
 rw [bitsV_mod, Nat.mod_eq_of_lt (bl_spec.1 (Nat.le_refl _))]
theorem bl_64 (n : BitVec 64) : bl n.toNat <= 64 := bl_spec.2 n.isLt
theorem lPow_fw (x : Fsu s) (n : BitVec 64) : lPow s (fw x) n = fw (pwK x n.toNat) := by
 unfold lPow
 rw [sqF_eq (fun x f => frcU_eq x f), <- fw_one (s := s)]
 have h := sqB_gen (fun u => lMul s u u) (fun u => lMul s u (fw x)) (fun u : Fsu s => u * u) (fun u => u * x) (bitU n) (fun i => Nat.testBit n.toNat i) fw (fun _ => True)
  (fun u _ => ⟨lMul_fw u u, trivial⟩) (fun u _ => ⟨lMul_fw u x, trivial⟩) (bl n.toNat) 1 (fun i hi => bitU_test n i (by have := bl_64 n; omega)) trivial
 rw [h.1]
 have k := sqB_nat (fun u : Fsu s => u * u) (fun u => u * x) (fun i => Nat.testBit n.toNat i) (pwK x) (fun n => (pwK_two x n).symm) (fun n => rfl) (bl n.toNat) 0
 rw [Nat.zero_mul, Nat.zero_add, bl_bits] at k
 exact congrArg fw k
theorem lInv_fw (x : Fsu s) : lInv s (fw x) = fw (ivF x) := by
 unfold lInv
 rw [lPow_fw]
 congr 2
 rw [BitVec.toNat_sub, suB_nat]
 have := suP_60 s; have := suP_big s
 show (2 ^ 64 - 2 + suP s) % 2 ^ 64 = suP s - 2
 omega
def wp (A : Ap (Fsu s)) : Lp := (fw A.x, fw A.y, A.zero)
theorem wp_zero : wp (⟨0, 0, true⟩ : Ap (Fsu s)) = lp0 := by
 unfold wp lp0
 rw [fw_zero]
theorem eqLp_wp (A B : Ap (Fsu s)) : eqLp (wp A) (wp B) = eqA eqF A B := by
 unfold eqLp wp eqA
 simp only [fw_beq]
 cases eqF A.x B.x <;> cases eqF A.y B.y <;> rfl
theorem rNegP_wp (A : Ap (Fsu s)) : rNegP s (wp A) = wp (negK A) := by
 unfold rNegP wp negK
 simp only [rNeg_fw]
theorem lrF_fw (x : Fsu s) : lrF s (fw x) = fw (x * x * x + x) := by
 unfold lrF
 rw [lMul_fw, lMul_fw, lAdd_fw]
theorem on_iff {p : Lp} : onF s p = true ↔ ∃ A : Ap (Fsu s), p = wp A /\ Cw.Pt A := by
 obtain ⟨x, y, z⟩ := p
 constructor
 . intro h
   unfold onF at h
   cases z with
   | true =>
    simp only [cond_true] at h
    cases hx : x == 0#64 with
    | false => rw [hx] at h; cases h
    | true =>
     rw [hx] at h
     simp only [cond_true] at h
     rw [eq_of_beq hx, eq_of_beq h]
     exact ⟨⟨0, 0, true⟩, by rw [wp_zero]; rfl, .zero⟩
   | false =>
    simp only [cond_false] at h
    cases hx : BitVec.ult x (suB s) with
    | false => rw [hx] at h; cases h
    | true =>
     cases hy : BitVec.ult y (suB s) with
     | false => rw [hx, hy] at h; cases h
     | true =>
      rw [hx, hy] at h
      simp only [cond_true] at h
      have h1 : x.toNat < suP s := by rw [<- suB_nat]; exact of_decide_eq_true hx
      have h2 : y.toNat < suP s := by rw [<- suB_nat]; exact of_decide_eq_true hy
      rw [fw_of h1, fw_of h2] at h ⊢
      rw [lMul_fw, lrF_fw] at h
      exact ⟨_, rfl, .of (x := ⟨x.toNat, h1⟩) (y := ⟨y.toNat, h2⟩) (fw_inj (eq_of_beq h))⟩
 . rintro ⟨A, h, hA⟩
   cases hA with
   | zero =>
    rw [h, wp_zero]; rfl
   | of ho =>
    rename_i u v
    rw [h]
    have lt : ∀ q : Fsu s, BitVec.ult (fw q) (suB s) = true := fun q => by
     apply decide_eq_true
     rw [fw_nat, suB_nat]
     exact q.isLt
    unfold onF
    show (bif false then _ else bif BitVec.ult (fw u) (suB s) then (bif BitVec.ult (fw v) (suB s) then lMul s (fw v) (fw v) == lrF s (fw u) else false) else false) = true
    rw [lt, lt, lMul_fw, lrF_fw]
    unfold Cw.On at ho
    rw [ho]
    simp
theorem rSlope_eq (A B : Ap (Fsu s)) : rSlope s (wp A) (wp B) = fw (bif eqA eqF A B then Cw.slope1W ivF A else slope2K ivF A B) := by
 unfold rSlope
 rw [eqLp_wp]
 cases eqA eqF A B with
 | true =>
  simp only [cond_true]
  unfold wp Cw.slope1W
  simp only [lMul_fw, lAdd_fw, <- fw_one (s := s), lInv_fw]
 | false =>
  simp only [cond_false]
  unfold wp slope2K
  simp only [rSub_fw, lMul_fw, lInv_fw]
theorem rSum_wp (A B : Ap (Fsu s)) : rSum s (wp A) (wp B) = wp (Cw.sumW ivF eqF A B) := by
 unfold rSum Cw.sumW
 rw [rNegP_wp, eqLp_wp, rSlope_eq]
 show (bif A.zero then wp B else bif B.zero then wp A else _) = _
 cases A.zero with
 | true => rfl
 | false =>
  cases B.zero with
  | true => rfl
  | false =>
   simp only [cond_false]
   cases eqA eqF A (negK B) with
   | true => rw [cond_true, cond_true, wp_zero]; rfl
   | false =>
    simp only [cond_false]
    have e : ∀ (c : Bool) (m n : Fsu s), (bif c then chordK A B m else chordK A B n) = chordK A B (bif c then m else n) := fun c m n => by cases c <;> rfl
    rw [e]
    generalize (bif eqA eqF A B then Cw.slope1W ivF A else slope2K ivF A B) = m
    show (rSub s (rSub s (lMul s (fw m) (fw m)) (fw A.x)) (fw B.x), rSub s (lMul s (fw m) (rSub s (fw A.x) (rSub s (rSub s (lMul s (fw m) (fw m)) (fw A.x)) (fw B.x)))) (fw A.y), false) = _
    simp only [lMul_fw, rSub_fw]
    rfl
theorem lSlope_wp (A B : Ap (Fsu s)) : lSlope s (wp A) (wp B) = bif !(eqF A.x B.x) then (fw (slope2K ivF A B), true) else bif !(eqF A.y B.y) then (0#64, false) else bif eqF A.y 0 then (0#64, false) else (fw (Cw.slope1W ivF A), true) := by
 unfold lSlope
 show (bif fw A.x != fw B.x then _ else bif fw A.y != fw B.y then _ else bif fw A.y == 0#64 then _ else _) = _
 rw [bne, fw_beq, bne, fw_beq, <- fw_zero (s := s), fw_beq]
 unfold wp slope2K Cw.slope1W
 simp only [lSub_fw, lAdd_fw, lMul_fw, <- fw_one (s := s), lInv_fw]
theorem lSum_wp {A B : Ap (Fsu s)} (hA : Cw.Pt A) (hB : Cw.Pt B) : lSum s (wp A) (wp B) = wp (Cw.sumW ivF eqF A B) := by
 unfold lSum
 simp only [frcB_eq, frcU_eq]
 cases hA with
 | zero => rfl
 | of g1 =>
  cases hB with
  | zero => rfl
  | of g2 =>
   rename_i x1 y1 x2 y2
   show (bif !(lSlope s (wp (Cw.pt x1 y1)) (wp (Cw.pt x2 y2))).2 then _ else _) = _
   have F := fdS s
   have hs := lSlope_wp (Cw.pt x1 y1) (Cw.pt x2 y2)
   have fin : ∀ m : Fsu s, (lSub s (lSub s (lMul s (fw m) (fw m)) (wp (Cw.pt x1 y1)).1) (wp (Cw.pt x2 y2)).1, lSub s (lMul s (fw m) (lSub s (wp (Cw.pt x1 y1)).1 (lSub s (lSub s (lMul s (fw m) (fw m)) (wp (Cw.pt x1 y1)).1) (wp (Cw.pt x2 y2)).1))) (wp (Cw.pt x1 y1)).2.1, false) = wp (chordK (Cw.pt x1 y1) (Cw.pt x2 y2) m) := fun m => by
    show (lSub s (lSub s (lMul s (fw m) (fw m)) (fw x1)) (fw x2), lSub s (lMul s (fw m) (lSub s (fw x1) (lSub s (lSub s (lMul s (fw m) (fw m)) (fw x1)) (fw x2)))) (fw y1), false) = _
    simp only [lMul_fw, lSub_fw]
    rfl
   have sw : Cw.sumW ivF eqF (Cw.pt x1 y1) (Cw.pt x2 y2) = bif eqA eqF (Cw.pt x1 y1) (negK (Cw.pt x2 y2)) then ⟨0, 0, true⟩ else bif eqA eqF (Cw.pt x1 y1) (Cw.pt x2 y2) then chordK (Cw.pt x1 y1) (Cw.pt x2 y2) (Cw.slope1W ivF (Cw.pt x1 y1)) else chordK (Cw.pt x1 y1) (Cw.pt x2 y2) (slope2K ivF (Cw.pt x1 y1) (Cw.pt x2 y2)) := rfl
   rw [sw]
   have q1 : eqA eqF (Cw.pt x1 y1) (negK (Cw.pt x2 y2)) = (eqF x1 x2 && (eqF y1 (-y2) && true)) := rfl
   have q2 : eqA eqF (Cw.pt x1 y1) (Cw.pt x2 y2) = (eqF x1 x2 && (eqF y1 y2 && true)) := rfl
   rw [q1, q2]
   have hs' : lSlope s (wp (Cw.pt x1 y1)) (wp (Cw.pt x2 y2)) = bif !(eqF x1 x2) then (fw (slope2K ivF (Cw.pt x1 y1) (Cw.pt x2 y2)), true) else bif !(eqF y1 y2) then (0#64, false) else bif eqF y1 0 then (0#64, false) else (fw (Cw.slope1W ivF (Cw.pt x1 y1)), true) := hs
   rw [hs']
   cases hx : eqF x1 x2 with
   | false =>
    simp only [Bool.not_false, cond_true, Bool.not_true, cond_false, Bool.false_and]
    exact fin _
   | true =>
    have ex := F.eq.1 hx
    subst ex
    simp only [Bool.not_true, cond_false, Bool.true_and, Bool.and_true]
    have hs2 : (y1 - y2) * (y1 + y2) = 0 := by
     unfold Cw.On at g1 g2
     exact rg2 [x1, y1, y2] g1 1 g2 (-1)
    cases hy : eqF y1 y2 with
    | false =>
     have hn : y1 = -y2 := by
      rcases F.zero_or hs2 with h | h
      . have : y1 = y2 := rg1 [y1, y2] h 1
        rw [F.eq.2 this] at hy; cases hy
      . exact rg1 [y1, y2] h 1
     rw [F.eq.2 hn]
     simp only [Bool.not_false, cond_true, cond_false]
     rw [wp_zero]; rfl
    | true =>
     have ey := F.eq.1 hy
     subst ey
     simp only [Bool.not_true, cond_false]
     cases h0 : eqF y1 0 with
     | true =>
      have e0 := F.eq.1 h0
      have hn : y1 = -y1 := by rw [e0]; exact rg_neg_zero.symm
      rw [F.eq.2 hn]
      simp only [cond_true, Bool.not_false]
      rw [wp_zero]; rfl
     | false =>
      have hn : ¬ y1 = -y1 := fun h => by
       have : y1 = 0 := F.two (rg1 [y1] h 1)
       rw [F.eq.2 this] at h0; cases h0
      rw [F.ne hn]
      simp only [cond_false, cond_true, Bool.not_true]
      exact fin _
theorem lTimes_wp {A : Ap (Fsu s)} (hA : Cw.Pt A) (n : BitVec 64) : lTimes s (wp A) n = wp (Cw.nsm ivF eqF A n.toNat) := by
 unfold lTimes
 have F := fdS s
 rw [sqF_eq (fun x f => frcLp_eq x f), <- wp_zero (s := s)]
 have h := sqB_gen (fun u => lSum s u u) (fun u => lSum s u (wp A)) (fun u : Ap (Fsu s) => Cw.sumW ivF eqF u u) (fun u => Cw.sumW ivF eqF u A) (bitU n) (fun i => Nat.testBit n.toNat i) wp Cw.Pt
  (fun u hu => ⟨lSum_wp hu hu, Cw.sum_pt F hu hu⟩) (fun u hu => ⟨lSum_wp hu hA, Cw.sum_pt F hu hA⟩) (bl n.toNat) ⟨0, 0, true⟩ (fun i hi => bitU_test n i (by have := bl_64 n; omega)) .zero
 rw [h.1]
 have k := sqB_nat (fun u : Ap (Fsu s) => Cw.sumW ivF eqF u u) (fun u => Cw.sumW ivF eqF u A) (fun i => Nat.testBit n.toNat i) (Cw.nsm ivF eqF A) (fun n => by rw [Nat.two_mul, Cw.nsm_add F hA]) (fun n => rfl) (bl n.toNat) 0
 rw [Nat.zero_mul, Nat.zero_add, bl_bits] at k
 exact congrArg wp k
theorem rTimes_wp {A : Ap (Fsu s)} (hA : Cw.Pt A) (n : BitVec 64) : rTimes s (wp A) n = wp (Cw.nsm ivF eqF A n.toNat) := by
 unfold rTimes
 have F := fdS s
 rw [<- wp_zero (s := s)]
 have h := sqB_gen (fun u => rSum s u u) (fun u => rSum s u (wp A)) (fun u : Ap (Fsu s) => Cw.sumW ivF eqF u u) (fun u => Cw.sumW ivF eqF u A) (bitU n) (fun i => Nat.testBit n.toNat i) wp Cw.Pt
  (fun u hu => ⟨rSum_wp u u, Cw.sum_pt F hu hu⟩) (fun u hu => ⟨rSum_wp u A, Cw.sum_pt F hu hA⟩) (bl n.toNat) ⟨0, 0, true⟩ (fun i hi => bitU_test n i (by have := bl_64 n; omega)) .zero
 rw [h.1]
 have k := sqB_nat (fun u : Ap (Fsu s) => Cw.sumW ivF eqF u u) (fun u => Cw.sumW ivF eqF u A) (fun i => Nat.testBit n.toNat i) (Cw.nsm ivF eqF A) (fun n => by rw [Nat.two_mul, Cw.nsm_add F hA]) (fun n => rfl) (bl n.toNat) 0
 rw [Nat.zero_mul, Nat.zero_add, bl_bits] at k
 exact congrArg wp k
end
theorem times_same (s : Su) (p : Lp) (n : BitVec 64) (h : onF s p = true) : rTimes s p n = lTimes s p n := by
 obtain ⟨A, rfl, hA⟩ := on_iff.1 h
 rw [rTimes_wp hA, lTimes_wp hA]
theorem sum_same (s : Su) (p q : Lp) (h : onF s p = true) (k : onF s q = true) : rSum s p q = lSum s p q := by
 obtain ⟨A, rfl, hA⟩ := on_iff.1 h
 obtain ⟨B, rfl, hB⟩ := on_iff.1 k
 rw [rSum_wp, lSum_wp hA hB]
theorem in_same (s : Su) (p : Lp) : rIn s p = inF s p := by
 unfold rIn inF
 cases h : onF s p with
 | true => rw [cond_true, cond_true, times_same s p _ h]
 | false => rfl
end Go.Rq.Sm

namespace Go.Rq
open Go
section
variable {K : Type} [Rg K]
variable {iv : K -> K} {e : K -> K -> Bool}
end
end Go.Rq

namespace Go.Rq
open Go
set_option synthInstance.maxSize 100000
set_option synthInstance.maxHeartbeats 400000
section
variable {K : Type} [Rg K] {iv : K -> K} {e : K -> K -> Bool}
theorem pwK_cube (x : K) : ∀ n : Nat, pwK x (3 * n) = pwK (x * x * x) n
 | 0 => rfl
 | n + 1 => by
  show pwK x (3 * n + 1 + 1 + 1) = pwK (x * x * x) n * (x * x * x)
  simp only [pwK]
  rw [pwK_cube x n]
  exact rg [x, pwK (x * x * x) n]
theorem no_cube (F : Fd K iv e) {m : Nat} (hiv : ∀ x, iv x = pwK x (3 * m - 1)) (hm : 1 <= m) {c t : K} (hc : pwK c m ≠ 1) (h0 : c ≠ 0) (h : t * t * t = c) : False := by
 have ht : t ≠ 0 := by
  rintro rfl
  exact h0 (rg1 [c] h (-1))
 have h1 := F.inv ht
 rw [hiv] at h1
 have h2 : pwK t (3 * m) = 1 := by
  have : pwK t (3 * m - 1 + 1) = 1 := by rw [Rg.mul_comm] at h1; exact h1
  rw [show 3 * m - 1 + 1 = 3 * m by omega] at this
  exact this
 rw [pwK_cube, h] at h2
 exact hc h2
theorem zero_y {b x y : K} (h : On b x y) (hy : y = 0) : x * x * x = -b := by
 unfold On at h
 subst hy
 exact rg1 [x, b] h (-1)
end
theorem cube_exp (x : F1) : iv1 x = pwK x (3 * ((pN - 1) / 3) - 1) := by rw [iv1_pow, show pN - 2 = 3 * ((pN - 1) / 3) - 1 by decide +kernel]
theorem pw1_val {c : F1} {n : Nat} (h : RV (p := pN) c n) (m : Nat) (hm : m < 2 ^ 384) : RV (p := pN) (pwK c m) (pm pN 384 n m 1) := by
 have h1 := pwF_val (p := pN) c m
 rw [<- h.eq, pm_pow hm] at h1
 exact ⟨h1.symm⟩
theorem one1_val : RV (p := pN) (1 : F1) 1 := ⟨by decide +kernel⟩
theorem zero1_val : RV (p := pN) (0 : F1) 0 := ⟨(Nat.zero_mod pN).symm⟩
theorem ne1 {c d : F1} {n m : Nat} (h : RV (p := pN) c n) (k : RV (p := pN) d m) (hn : n ≠ m) : c ≠ d := by
 rintro rfl
 exact hn (h.eq.trans k.eq.symm)
theorem cube_a : pm pN 384 ((pN - 4) % pN) ((pN - 1) / 3) 1 ≠ 1 := by decide +kernel
theorem exp_small : (pN - 1) / 3 < 2 ^ 384 := by decide +kernel
theorem cv1 {b : F1} (hb : RV (p := pN) b 4) : Cv fd1 b where
 y := fun {x y} h hy => by
  have hc : RV (p := pN) (-b) ((pN - 4) % pN) := rv_neg (p := pN) hb
  exact no_cube fd1 cube_exp (by decide +kernel) (ne1 (pw1_val hc _ exp_small) one1_val cube_a) (ne1 hc zero1_val (by decide +kernel)) (zero_y h hy)
end Go.Rq

namespace Go.Rq
section
variable {K : Type} [Rg K] {iv : K -> K} {e : K -> K -> Bool}
end
end Go.Rq

namespace Go.Rq
structure Gm (G : Type) where
 add : G -> G -> G
 zero : G
 neg : G -> G
 comm : ∀ a b, add a b = add b a
 assoc : ∀ a b c, add (add a b) c = add a (add b c)
 nought : ∀ a, add zero a = a
 inv : ∀ a, add (neg a) a = zero
namespace Gm
variable {G : Type} (g : Gm G)
def mul : Nat -> G -> G
 | 0, _ => g.zero
 | n + 1, a => g.add (mul n a) a
end Gm
end Go.Rq

namespace Go.Rq
open Go Go.ChangeShapes Go.WideShapes Go.RowKit
section
variable {H : Type} {enc : TypeId × Value -> H} {P : Program}
theorem trodCons {w : World} {base : Nat} {sp : Nat -> Bool} {held : Bool} {t : TypeId} {ts : List TypeId} {v : Value} {vs : List Value} {d : DataW H} {ds : List (DataW H)} {p p' : List MemPlace}
 (h : DataW.Trod enc P w base sp held t v d p) (hs : DataW.TrodAll enc P w base sp held ts vs ds p') : DataW.TrodAll enc P w base sp held (t :: ts) (v :: vs) (d :: ds) (p ++ p') := ⟨p, p', h, hs, rfl⟩
theorem stays_all (hl : laidOutB P = true) {W W' : World} {sp : Nat -> Bool} (hb : Below W.heap.size W W') :
 ∀ {ts : List TypeId} {vs : List Value} {ds : List (DataW H)} {ps : List MemPlace}, (∀ t ∈ ts, P.readableRec t = true /\ t < P.types.size) ->
 DataW.TrodAll enc P W 0 (fun _ => true) true ts vs ds ps -> (∀ x ∈ ps, x.block < W.heap.size) -> (∀ x ∈ ps, sp x.block = true) -> DataW.TrodAll enc P W' 0 sp true ts vs ds ps
 | [], vs, ds, ps, _, h, _, _ => by
  obtain ⟨rfl, rfl, rfl⟩ := trodAll_nil h
  exact trodAll_mk0
 | t :: ts, vs, ds, ps, hr, h, hlt, hs => by
  obtain ⟨v, vs', d, ds', p, q, rfl, rfl, rfl, h1, h2⟩ := trodAll_cons h
  obtain ⟨r1, r2⟩ := hr t (by simp)
  exact trodCons (WideElems.Trod_stays hl r1 r2 h1 (fun x hx => hb.same (hlt x (by simp [hx]))) (fun x hx => hs x (by simp [hx])))
   (stays_all hl hb (fun u hu => hr u (by simp [hu])) h2 (fun x hx => hlt x (by simp [hx])) (fun x hx => hs x (by simp [hx])))
theorem trodAll_length {W : World} {base : Nat} {sp : Nat -> Bool} {held : Bool} : ∀ {ts : List TypeId} {vs : List Value} {ds : List (DataW H)} {ps : List MemPlace},
 DataW.TrodAll enc P W base sp held ts vs ds ps -> ds.length = ts.length
 | [], vs, ds, ps, h => by obtain ⟨_, rfl, _⟩ := trodAll_nil h; rfl
 | t :: ts, vs, ds, ps, h => by
  obtain ⟨v, vs', d, ds', p, q, rfl, rfl, rfl, _, h2⟩ := trodAll_cons h
  simp [trodAll_length h2]
structure LawSpec (s : ChangeSpec) (k : Nat) : Prop where
 vars : s.vars = []
 fn : ∀ (H : Type) (ds : List (DataW H)), ds.length = k -> s.fn H ds = { results := [.lit (.bool true)], args := ds }
theorem law_post {f : Func} {s : ChangeSpec} {k : Nat} (hs : LawSpec s k) (hk : f.params.size = k) {tb : TypeId} (hrt : f.resultTypes = #[tb]) (hb : P.underlying tb = some .bool)
 (hl : laidOutB P = true) (hr : ∀ t ∈ f.params.toList, P.readableRec t = true /\ t < P.types.size) {apart fresh handsOn again : Bool}
 {W W' : World} {args : Array Value} {ds gs : List (DataW H)} {before : List MemPlace} (hW : DataW.Whole enc P f.params.toList s.vars apart W args.toList ds gs before)
 (hbl : Below W.heap.size W W') : s.post enc P f apart fresh handsOn again W args (.bool true) W' := by
 have hlt := hW.lt
 have hW' := hW
 obtain ⟨p, q, hA, hV, rfl, hfz, hnd⟩ := hW
 rw [hs.vars] at hV
 obtain ⟨rfl, rfl⟩ := trodVars_none hV
 have hlen : ds.length = k := by rw [trodAll_length hA, <- hk]; simp
 have hfn : s.fn H (ds ++ []) = { results := [.lit (.bool true)], args := ds } := by rw [List.append_nil]; exact hs.fn H ds hlen
 simp only [List.append_nil] at hlt hfz hnd
 have hres : ∀ (b : Nat) (sp : Nat -> Bool) (hd : Bool), DataW.TrodAll enc P W' b sp hd f.resultTypes.toList ((Value.bool true).resultList f.resultTypes.size) (s.fn H (ds ++ [])).results [] := by
  intro b sp hd
  rw [hfn, hrt]
  exact trodAll_mk1 (shut_bool hb true)
 have hargs : ∀ sp : Nat -> Bool, (∀ x ∈ p, sp x.block = true) -> DataW.TrodAll enc P W' 0 sp true f.params.toList args.toList (s.fn H (ds ++ [])).args p := by
  intro sp hsp
  rw [hfn]
  exact stays_all hl hbl hr hA hlt hsp
 have hvars : ∀ sp : Nat -> Bool, DataW.TrodVars enc P W' sp s.vars (s.fn H (ds ++ [])).vars [] := by
  intro sp
  rw [hfn, hs.vars]
  rfl
 refine ⟨ds, [], p ++ [], [], p, [], hW', hres _ _ _, hargs _ (fun x hx => by simpa using hlt x hx), hvars _, hbl.frame _, fun _ => ?_⟩
 refine ⟨?_, _, _, ([] ++ p) ++ [], ⟨[] ++ p, [], trodAll_append (hargs _ (fun _ _ => rfl)) (hres _ _ _), hvars _, rfl, ?_, ?_⟩, ?_⟩
 . intro j t r hj hv
   rw [hrt] at hj hv
   cases j with
   | zero =>
    simp [Value.resultList] at hj hv
    subst hj; subst hv
    exact okWide_bool_mk hb true
   | succ j => simp at hj
 . intro b off hp
   have hp' : MemPlace.cell b off ∈ p := by simpa using hp
   have : W'.frozen? ⟨b, off, none⟩ = W.frozen? ⟨b, off, none⟩ := hbl.frozen (hlt _ hp')
   rw [this]
   exact hfz b off (by simpa using hp)
 . intro ha
   simpa using hnd ha
 . intro x hx _
   simpa using hx
theorem law_handed {C : Checked} {os : Os} {f : FuncId} {fn : Func} {s : ChangeSpec} {k : Nat} {conds : List PathCond} {apart fresh handsOn again : Bool} {a : Assume}
 (own : ownKnob C.prog.godebug = none) (started : os.Started) (noInit : C.prog.inits.idxOf? f = none) (hfn : C.prog.funcs[f]? = some fn)
 (witness : ∃ (w : World) (tape : Tape) (i : Input), w.os = os /\ (w.forCall tape i).Shaped C.prog /\ i.vars = [] /\ Input.okWide C.prog (w.forCall tape i) .any w.heap.size f i /\
  s.pre6 enc C.prog fn conds apart (w.forCall tape i).memory i.args /\ a.holds C.prog (lone (Frame.enter C.prog f i.args .normal) [] (w.forCall tape i)))
 (hs : LawSpec s k) (hk : fn.params.size = k) {tb : TypeId} (hrt : fn.resultTypes = #[tb]) (hb : C.prog.underlying tb = some .bool)
 (hl : laidOutB C.prog = true) (hr : ∀ t ∈ fn.params.toList, C.prog.readableRec t = true /\ t < C.prog.types.size)
 (hcall : ∀ (W : World) (base : Nat) (args : Array Value) (ds : List (DataW H)) (p : List MemPlace),
  (∀ (j : Nat) t v, fn.params[j]? = some t -> args[j]? = some v -> Value.okWide C.prog W .any base t v) ->
  DataW.TrodAll enc C.prog W 0 (fun _ => true) true fn.params.toList args.toList ds p ->
  Calls C.prog f args W fun e W' => e = .returned (.bool true) /\ Below W.heap.size W W') :
 ReturnsInHanded a C os f .any (s.pre6 enc C.prog fn conds apart) (s.post enc C.prog fn apart fresh handsOn again) := by
 refine returnsInHanded_of_change own started noInit hfn witness ?_
 intro W base args ds gs before hval hW _ _
 have hW' := hW
 obtain ⟨p, q, hA, _⟩ := hW
 refine (hcall W base args ds p hval hA).mono fun e W' ⟨he, hbl⟩ => ?_
 exact ⟨_, he, law_post hs hk hrt hb hl hr hW' hbl⟩
end
theorem call_pure {P : Program} {f : FuncId} {g : List AV -> Option (Bool × AV)} (h : PureOk P f g) {as : List AV} {args : Array Value} {W : World} {b : Bool} {r : AV} (hg : g as = some (true, r)) (hr : scal r = some (.bool b)) (hx : ∀ ρ, Rvs ρ as args.toList) (hgw : GW W) :
 Calls P f args W fun e W' => e = .returned (.bool b) /\ Below W.heap.size W W' := by
 have := h Ren.empty as args.toList r hg (hx _) W hgw
 have e : args.toList.toArray = args := by simp
 rw [e] at this
 refine this.mono ?_
 rintro e w' ⟨v, rfl, hv, hb⟩
 rw [hv.scal_eq hr]
 exact ⟨rfl, hb⟩
end Go.Rq

namespace Go.Rq
open Go Go.WideShapes
section
variable {P : Program} {w : World} {r : Reach} {base : Nat} {t u : TypeId} {v : Value}
theorem cell_u64 (hu : P.underlying u = some (.int .u64)) (h : Cell.okWide P w r base u v) : ∃ x : BitVec 64, v = uval x := by
 simp only [Cell.okWide, hu] at h
 cases v with
 | int k n =>
  simp only [Cell.ok, hu] at h
  obtain ⟨rfl, h1, h2⟩ := h
  have h1 : (0 : Int) <= n := h1
  have h2 : n <= 18446744073709551615 := h2
  refine ⟨BitVec.ofNat 64 n.toNat, ?_⟩
  unfold uval
  congr 1
  rw [BitVec.toNat_ofNat, Nat.mod_eq_of_lt (by omega)]
  show n = ((n.toNat : Nat) : Int)
  omega
 | _ => simp [Cell.ok, hu] at h
theorem cell_bool (hu : P.underlying u = some .bool) (h : Cell.okWide P w r base u v) : ∃ b : Bool, v = .bool b := by
 simp only [Cell.okWide, hu] at h
 cases v with
 | bool b => exact ⟨b, rfl⟩
 | _ => simp [Cell.ok, hu] at h
theorem open_cells {ts : List TypeId} (ha : ∃ cs, v = .agg cs /\ cs.size = P.cellsOf t /\ Row.okWide P w r base t cs) (hc : P.cellTypes P.depth t = some ts) (hn : P.cellsOf t = ts.length) :
 ∃ l : List Value, v = .agg l.toArray /\ l.length = ts.length /\ ∀ (i : Nat) (u : TypeId) (x : Value), ts[i]? = some u -> l[i]? = some x -> Cell.okWide P w r base u x := by
 obtain ⟨cs, rfl, h1, ts', h2, -, h4⟩ := ha
 rw [hc] at h2
 simp at h2
 subst h2
 refine ⟨cs.toList, by simp, by simp [h1, hn], fun i u x hu hx => ?_⟩
 obtain ⟨u', h5, h6⟩ := h4 i x (by simpa using hx)
 have hi : i < ts.length := (List.getElem?_eq_some_iff.1 hu).1
 rw [Nat.mod_eq_of_lt hi, hu] at h5
 simp at h5
 rw [h5]
 exact h6
theorem okWide_agg {fs : Array Field} (ht : P.underlying t = some (.struct fs)) (h : Value.okWide P w r base t v) : ∃ cs, v = .agg cs /\ cs.size = P.cellsOf t /\ Row.okWide P w r base t cs := by
 simp only [Value.okWide, ht] at h
 exact h
theorem okWide_arr {e : TypeId} {n : Nat} (ht : P.underlying t = some (.array n e)) (h : Value.okWide P w r base t v) : ∃ cs, v = .agg cs /\ cs.size = P.cellsOf t /\ Row.okWide P w r base t cs := by
 simp only [Value.okWide, ht] at h
 exact h
theorem open_six (hu : P.underlying u = some (.int .u64)) {l : List Value} (hl : l.length = 6) (h : ∀ (i : Nat) (x : Value), i < 6 -> l[i]? = some x -> Cell.okWide P w r base u x) : ∃ x : W6, l = c6.val x := by
 match l, hl with
 | [a0, a1, a2, a3, a4, a5], _ =>
  obtain ⟨x0, rfl⟩ := cell_u64 hu (h 0 a0 (by decide) rfl)
  obtain ⟨x1, rfl⟩ := cell_u64 hu (h 1 a1 (by decide) rfl)
  obtain ⟨x2, rfl⟩ := cell_u64 hu (h 2 a2 (by decide) rfl)
  obtain ⟨x3, rfl⟩ := cell_u64 hu (h 3 a3 (by decide) rfl)
  obtain ⟨x4, rfl⟩ := cell_u64 hu (h 4 a4 (by decide) rfl)
  obtain ⟨x5, rfl⟩ := cell_u64 hu (h 5 a5 (by decide) rfl)
  exact ⟨⟨x0, x1, x2, x3, x4, x5⟩, rfl⟩
theorem open_num (hu : P.underlying u = some (.int .u64)) (ha : ∃ cs, v = .agg cs /\ cs.size = P.cellsOf t /\ Row.okWide P w r base t cs) (hc : P.cellTypes P.depth t = some [u, u, u, u, u, u]) (hn : P.cellsOf t = 6) : ∃ x : W6, v = c6.agg.val x := by
 obtain ⟨l, rfl, h1, h2⟩ := open_cells ha hc hn
 obtain ⟨x, rfl⟩ := open_six hu h1 (fun i x hi hx => h2 i u x (by
  match i, hi with
  | 0, _ => rfl
  | 1, _ => rfl
  | 2, _ => rfl
  | 3, _ => rfl
  | 4, _ => rfl
  | 5, _ => rfl) hx)
 exact ⟨x, rfl⟩
end
section
variable {P : Program} {w : World} {r : Reach} {base : Nat} {t i u b : TypeId} {v : Value}
theorem cell_i64 (hi : P.underlying i = some (.int .i64)) (h : Cell.okWide P w r base i v) : ∃ n : Int, v = .int .i64 n := by
 simp only [Cell.okWide, hi] at h
 cases v with
 | int k n =>
  simp only [Cell.ok, hi] at h
  obtain ⟨rfl, -, -⟩ := h
  exact ⟨n, rfl⟩
 | _ => simp [Cell.ok, hi] at h
theorem open_key (hi : P.underlying i = some (.int .i64)) (hu : P.underlying u = some (.int .u64)) (hb : P.underlying b = some .bool) (ha : ∃ cs, v = .agg cs /\ cs.size = P.cellsOf t /\ Row.okWide P w r base t cs)
 (hc : P.cellTypes P.depth t = some [i, u, u, u, u, u, u, u, u, u, u, u, u, b, u, u, b]) (hn : P.cellsOf t = 17) : ∃ x : Kz, v = cKz.agg.val x := by
 obtain ⟨l, rfl, h1, h2⟩ := open_cells ha hc hn
 match l, h1 with
 | [s, a0, a1, a2, a3, a4, a5, b0, b1, b2, b3, b4, b5, z, c0, c1, y], _ =>
  obtain ⟨n, rfl⟩ := cell_i64 hi (h2 0 i s rfl rfl)
  obtain ⟨a0, rfl⟩ := cell_u64 hu (h2 1 u a0 rfl rfl)
  obtain ⟨a1, rfl⟩ := cell_u64 hu (h2 2 u a1 rfl rfl)
  obtain ⟨a2, rfl⟩ := cell_u64 hu (h2 3 u a2 rfl rfl)
  obtain ⟨a3, rfl⟩ := cell_u64 hu (h2 4 u a3 rfl rfl)
  obtain ⟨a4, rfl⟩ := cell_u64 hu (h2 5 u a4 rfl rfl)
  obtain ⟨a5, rfl⟩ := cell_u64 hu (h2 6 u a5 rfl rfl)
  obtain ⟨b0, rfl⟩ := cell_u64 hu (h2 7 u b0 rfl rfl)
  obtain ⟨b1, rfl⟩ := cell_u64 hu (h2 8 u b1 rfl rfl)
  obtain ⟨b2, rfl⟩ := cell_u64 hu (h2 9 u b2 rfl rfl)
  obtain ⟨b3, rfl⟩ := cell_u64 hu (h2 10 u b3 rfl rfl)
  obtain ⟨b4, rfl⟩ := cell_u64 hu (h2 11 u b4 rfl rfl)
  obtain ⟨b5, rfl⟩ := cell_u64 hu (h2 12 u b5 rfl rfl)
  obtain ⟨z, rfl⟩ := cell_bool hb (h2 13 b z rfl rfl)
  obtain ⟨c0, rfl⟩ := cell_u64 hu (h2 14 u c0 rfl rfl)
  obtain ⟨c1, rfl⟩ := cell_u64 hu (h2 15 u c1 rfl rfl)
  obtain ⟨y, rfl⟩ := cell_bool hb (h2 16 b y rfl rfl)
  exact ⟨(n, (⟨a0, a1, a2, a3, a4, a5⟩, ⟨b0, b1, b2, b3, b4, b5⟩, z), (c0, c1, y)), rfl⟩
end
end Go.Rq
