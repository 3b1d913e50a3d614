/- Neither curve has a point that is its own negated one. -/
import Derived.Test.YtdbcjiggimppdaaRq10
import Derived.ProofKit
import Derived.Test.YtdbcjiggimppdaaRq06
import Derived.Test.YtdbcjiggimppdaaRq08
namespace Go.Rq
open Go
set_option synthInstance.maxSize 100000
set_option synthInstance.maxHeartbeats 400000

section
variable {K : Type} [Rg K] {iv : K → K} {e : K → K → Bool}
theorem pwK_cube (x : K) : ∀ n : Nat, pwK x (3 * n) = pwK (x * x * x) n
  | 0 => rfl
  | n + 1 => by
    show pwK x (3 * n + 1 + 1 + 1) = pwK (x * x * x) n * (x * x * x)
    simp only [pwK]
    rw [pwK_cube x n]
    exact rg [x, pwK (x * x * x) n]

theorem no_cube (F : Fd K iv e) {m : Nat} (hiv : ∀ x, iv x = pwK x (3 * m - 1)) (hm : 1 ≤ m) {c t : K} (hc : pwK c m ≠ 1) (h0 : c ≠ 0) (h : t * t * t = c) : False := by
  have ht : t ≠ 0 := by
    rintro rfl
    exact h0 (rg1 [c] h (-1))
  have h1 := F.inv ht
  rw [hiv] at h1
  have h2 : pwK t (3 * m) = 1 := by
    have : pwK t (3 * m - 1 + 1) = 1 := by rw [Rg.mul_comm] at h1; exact h1
    rw [show 3 * m - 1 + 1 = 3 * m by omega] at this
    exact this
  rw [pwK_cube, h] at h2
  exact hc h2

theorem zero_y {b x y : K} (h : On b x y) (hy : y = 0) : x * x * x = -b := by
  unfold On at h
  subst hy
  exact rg1 [x, b] h (-1)
end

theorem cube_exp (x : F1) : iv1 x = pwK x (3 * ((pN - 1) / 3) - 1) := by rw [iv1_pow, show pN - 2 = 3 * ((pN - 1) / 3) - 1 by decide +kernel]

theorem pw1_val {c : F1} {n : Nat} (h : RV (p := pN) c n) (m : Nat) (hm : m < 2 ^ 384) : RV (p := pN) (pwK c m) (pm pN 384 n m 1) := by
  have h1 := pwF_val (p := pN) c m
  rw [← h.eq, pm_pow hm] at h1
  exact ⟨h1.symm⟩
theorem one1_val : RV (p := pN) (1 : F1) 1 := ⟨by decide +kernel⟩
theorem zero1_val : RV (p := pN) (0 : F1) 0 := ⟨(Nat.zero_mod pN).symm⟩
theorem ne1 {c d : F1} {n m : Nat} (h : RV (p := pN) c n) (k : RV (p := pN) d m) (hn : n ≠ m) : c ≠ d := by
  rintro rfl
  exact hn (h.eq.trans k.eq.symm)

theorem cube_a : pm pN 384 ((pN - 4) % pN) ((pN - 1) / 3) 1 ≠ 1 := by decide +kernel
theorem cube_b : pm pN 384 32 ((pN - 1) / 3) 1 ≠ 1 := by decide +kernel
theorem exp_small : (pN - 1) / 3 < 2 ^ 384 := by decide +kernel

theorem cv1 {b : F1} (hb : RV (p := pN) b 4) : Cv fd1 b where
  y := fun {x y} h hy => by
    have hc : RV (p := pN) (-b) ((pN - 4) % pN) := rv_neg (p := pN) hb
    exact no_cube fd1 cube_exp (by decide +kernel) (ne1 (pw1_val hc _ exp_small) one1_val cube_a) (ne1 hc zero1_val (by decide +kernel)) (zero_y h hy)

theorem norm_cube {K : Type} [Rg K] {a b c : K} (ha : a * a * a - a * b * b - (a * b + b * a) * b = -c) (hb : (a * a - b * b) * b + (a * b + b * a) * a = -c) : (a * a + b * b) * (a * a + b * b) * (a * a + b * b) = c * c + c * c := rg2 [a, b, c] ha (a * a * a - a * b * b - (a * b + b * a) * b - c) hb ((a * a - b * b) * b + (a * b + b * a) * a - c)

theorem cv2 {b : F1} (hb : RV (p := pN) b 4) : Cv fd2 (⟨b, b⟩ : DN F1) where
  y := fun {x y} h hy => by
    have h1 := zero_y h hy
    rw [dn_mul, dn_mul, dn_neg] at h1
    have ha := congrArg DN.a h1
    have hbb := congrArg DN.b h1
    simp only at ha hbb
    have h2 := norm_cube (a := x.a) (b := x.b) (c := b) (by rw [← ha]; exact rg [x.a, x.b]) hbb
    have hc : RV (p := pN) (b * b + b * b) 32 := by
      have := rv_add (p := pN) (rv_mul (p := pN) hb hb) (rv_mul (p := pN) hb hb)
      exact ⟨by rw [show (32 : Nat) = (4 * 4 % pN + 4 * 4 % pN) % pN by decide +kernel]; exact this.eq⟩
    exact no_cube fd1 cube_exp (by decide +kernel) (ne1 (pw1_val hc _ exp_small) one1_val cube_b) (ne1 hc zero1_val (by decide +kernel)) h2
end Go.Rq

/- Multiples: the program's points of three elements stand for the sums by the slope. -/
namespace Go.Rq
set_option synthInstance.maxSize 100000
set_option synthInstance.maxHeartbeats 400000

section
variable {K : Type} [Rg K] {iv : K → K} {e : K → K → Bool}

/-- A point of three elements that stands for a point. -/
inductive Jr : Jp K → Ap K → Prop
  | none {u : Jp K} (h : u.z = 0) : Jr u ⟨0, 0, true⟩
  | of {u : Jp K} {x y : K} (hz : u.z ≠ 0) (hx : u.x = x * (u.z * u.z)) (hy : u.y = y * (u.z * u.z * u.z)) : Jr u (pt x y)

theorem jl_x {x z i ux : K} (hi : z * i = 1) (h : ux = x * (z * z)) : ux * (i * i) = x := rg2 [x, z, i, ux] h (i * i) hi (x * (z * i + 1))
theorem jl_y {y z i uy : K} (hi : z * i = 1) (h : uy = y * (z * z * z)) : uy * (i * i * i) = y := rg2 [y, z, i, uy] h (i * i * i) hi (y * (z * i * (z * i) + z * i + 1))
theorem jl_z {y i uy : K} : uy * (i * i * i) = y → uy * ((i * i) * i) = y := fun h => h

theorem jr_low (F : Fd K iv e) {u : Jp K} {A : Ap K} (h : Jr u A) : lowerE (foK iv) e u = A := by
  unfold lowerE
  rw [show (foK iv).zero = (0 : K) from rfl]
  cases h with
  | none h => rw [F.eq.2 h]; rfl
  | of hz hx hy =>
    have hi := F.inv hz
    rw [F.ne hz, cond_false]
    exact Ap.ext3 (jl_x hi hx) (jl_y hi hy) rfl

theorem jt_x {x y z l : K} (hb : x * x + x * x + x * x = l * (y + y)) {ux uy : K} (hx : ux = x * (z * z)) (hy : uy = y * (z * z * z)) :
    (ux * ux + ux * ux + ux * ux) * (ux * ux + ux * ux + ux * ux) - (ux * (uy * uy) + ux * (uy * uy) + (ux * (uy * uy) + ux * (uy * uy)) + (ux * (uy * uy) + ux * (uy * uy) + (ux * (uy * uy) + ux * (uy * uy)))) = (l * l - x - x) * ((uy * z + uy * z) * (uy * z + uy * z)) := by
  subst hx hy
  have h1 : x * (z * z) * (x * (z * z)) + x * (z * z) * (x * (z * z)) + x * (z * z) * (x * (z * z)) = l * (y + y) * (z * z * z * z) := by rw [← hb]; exact rg [x, y, z]
  rw [h1]
  exact rg [x, y, z, l]

theorem jt_y {x y z l : K} (hb : x * x + x * x + x * x = l * (y + y)) {ux uy X : K} (hx : ux = x * (z * z)) (hy : uy = y * (z * z * z)) (hX : X = (l * l - x - x) * ((uy * z + uy * z) * (uy * z + uy * z))) :
    (ux * ux + ux * ux + ux * ux) * (ux * (uy * uy) + ux * (uy * uy) + (ux * (uy * uy) + ux * (uy * uy)) - X) - (uy * uy * (uy * uy) + uy * uy * (uy * uy) + (uy * uy * (uy * uy) + uy * uy * (uy * uy)) + (uy * uy * (uy * uy) + uy * uy * (uy * uy) + (uy * uy * (uy * uy) + uy * uy * (uy * uy)))) =
      (l * (x - (l * l - x - x)) - y) * ((uy * z + uy * z) * (uy * z + uy * z) * (uy * z + uy * z)) := by
  subst hx hy hX
  have h1 : x * (z * z) * (x * (z * z)) + x * (z * z) * (x * (z * z)) + x * (z * z) * (x * (z * z)) = l * (y + y) * (z * z * z * z) := by rw [← hb]; exact rg [x, y, z]
  rw [h1]
  exact rg [x, y, z, l]

theorem jr_twice (F : Fd K iv e) {b : K} (C : Cv F b) {u : Jp K} {A : Ap K} (h : Jr u A) (hA : Pt b A) : Jr (twiceJ (foK iv) u) (sumA iv e A A) := by
  cases h with
  | none h => exact .none (by rw [twice_z, h]; exact rg [u.y])
  | of hz hx hy =>
    rename_i x y
    have hon : On b x y := by
      generalize hg : pt x y = A at hA
      cases hA with
      | zero => cases hg
      | of h =>
        have := Ap.mk.inj hg
        obtain ⟨rfl, rfl, -⟩ := this
        exact h
    have hy0 := C.y hon
    have hn : ¬ (x = x ∧ y = -y) := fun h => hy0 (F.two (by have := h.2; exact rg1 [y] this 1))
    obtain ⟨l, hl⟩ := slope_ex F hon hon hn
    rw [sum_by F hon hon hn hl]
    have hx' := jt_x hl.b hx hy
    have hy' := jt_y hl.b hx hy hx'
    refine .of ?_ hx' hy'
    rw [twice_z, hy]
    intro h0
    have h1 := F.two h0
    exact F.ne_mul (F.ne_mul hy0 (F.ne_mul (F.ne_mul hz hz) hz)) hz h1

theorem js_h {x1 x2 z1 z2 : K} {u v : K} (hu : u = x1 * (z1 * z1)) (hv : v = x2 * (z2 * z2)) : v * (z1 * z1) - u * (z2 * z2) = (x2 - x1) * ((z1 * z1) * (z2 * z2)) := by subst hu hv; exact rg [x1, x2, z1, z2]
theorem js_r {y1 y2 z1 z2 : K} {u v : K} (hu : u = y1 * (z1 * z1 * z1)) (hv : v = y2 * (z2 * z2 * z2)) : v * ((z1 * z1) * z1) - u * ((z2 * z2) * z2) = (y2 - y1) * ((z1 * z1 * z1) * (z2 * z2 * z2)) := by subst hu hv; exact rg [y1, y2, z1, z2]

theorem js_x {x1 x2 y1 y2 z1 z2 l h r w3 u : K} (hh : h = (x2 - x1) * ((z1 * z1) * (z2 * z2))) (hr : r = (y2 - y1) * ((z1 * z1 * z1) * (z2 * z2 * z2))) (ha : y1 - y2 = l * (x1 - x2)) (hu : u = x1 * (z1 * z1) * (z2 * z2)) (hw : w3 = h * (z1 * z2)) :
    (r * r - h * h * h) - (u * (h * h) + u * (h * h)) = (l * l - x1 - x2) * (w3 * w3) := by
  have h1 : r = l * w3 := by
    subst hr hw hh
    have : y2 - y1 = l * (x2 - x1) := rg1 [x1, x2, y1, y2, l] ha (-1)
    rw [this]
    exact rg [x1, x2, z1, z2, l]
  subst h1 hu
  have h2 : h * h * h = (x2 - x1) * (w3 * w3) := by subst hw hh; exact rg [x1, x2, z1, z2]
  have h3 : x1 * (z1 * z1) * (z2 * z2) * (h * h) = x1 * (w3 * w3) := by subst hw; exact rg [x1, z1, z2, h]
  rw [h2, h3]
  exact rg [x1, x2, l, w3]
theorem js_y {x1 x2 y1 y2 z1 z2 l h r w3 u s X : K} (hh : h = (x2 - x1) * ((z1 * z1) * (z2 * z2))) (hr : r = (y2 - y1) * ((z1 * z1 * z1) * (z2 * z2 * z2))) (ha : y1 - y2 = l * (x1 - x2)) (hu : u = x1 * (z1 * z1) * (z2 * z2)) (hs : s = y1 * (z1 * z1 * z1) * (z2 * z2 * z2)) (hw : w3 = h * (z1 * z2))
    (hX : X = (l * l - x1 - x2) * (w3 * w3)) : r * (u * (h * h) - X) - s * (h * h * h) = (l * (x1 - (l * l - x1 - x2)) - y1) * (w3 * w3 * w3) := by
  have h1 : r = l * w3 := by
    subst hr hw hh
    have : y2 - y1 = l * (x2 - x1) := rg1 [x1, x2, y1, y2, l] ha (-1)
    rw [this]
    exact rg [x1, x2, z1, z2, l]
  have h3 : u * (h * h) = x1 * (w3 * w3) := by subst hw hu; exact rg [x1, z1, z2, h]
  have h4 : s * (h * h * h) = y1 * (w3 * w3 * w3) := by subst hw hs; exact rg [y1, z1, z2, h]
  rw [h1, h3, h4, hX]
  exact rg [x1, x2, y1, l, w3]

theorem jr_sum (F : Fd K iv e) {b : K} (C : Cv F b) (f : Fl K) {u v : Jp K} {A B : Ap K} (h : Jr u A) (k : Jr v B) (hA : Pt b A) (hB : Pt b B) : Jr (sumE (foK iv) e f u v) (sumA iv e A B) := by
  have z0 : (foK iv).zero = (0 : K) := rfl
  cases h with
  | none h =>
    unfold sumE
    rw [z0, F.eq.2 h, cond_true]
    exact k
  | of hz hx hy =>
    rename_i x1 y1
    have pt_of : ∀ {x y : K}, Pt b (pt x y) → On b x y := fun {x y} hA => by
      generalize hg : pt x y = A at hA
      cases hA with
      | zero => cases hg
      | of h =>
        have := Ap.mk.inj hg
        obtain ⟨rfl, rfl, -⟩ := this
        exact h
    cases k with
    | none k =>
      unfold sumE
      rw [z0, F.ne hz, F.eq.2 k, cond_false, cond_true, sum_zero_r _ (fun h => by cases h)]
      exact .of hz hx hy
    | of kz kx ky =>
      rename_i x2 y2
      have hj : hJ (foK iv) u v = (x2 - x1) * ((u.z * u.z) * (v.z * v.z)) := js_h hx kx
      have rj : rJ (foK iv) u v = (y2 - y1) * ((u.z * u.z * u.z) * (v.z * v.z * v.z)) := js_r hy ky
      have hzz := F.ne_mul (F.ne_mul hz hz) (F.ne_mul kz kz)
      have hzzz := F.ne_mul (F.ne_mul (F.ne_mul hz hz) hz) (F.ne_mul (F.ne_mul kz kz) kz)
      have g1 := pt_of hA
      have g2 := pt_of hB
      have se : sumE (foK iv) e f u v = bif e (hJ (foK iv) u v) 0 then (bif e (rJ (foK iv) u v) 0 then twiceJ (foK iv) u else ⟨f.one, f.one, 0⟩) else sumJ (foK iv) u v := by
        unfold sumE
        rw [z0, F.ne hz, F.ne kz]
        rfl
      rw [se]
      by_cases hx12 : x1 = x2
      · subst hx12
        rw [F.eq.2 (show hJ (foK iv) u v = 0 by rw [hj]; exact rg [x1, u.z, v.z]), cond_true]
        by_cases hy12 : y1 = y2
        · subst hy12
          rw [F.eq.2 (show rJ (foK iv) u v = 0 by rw [rj]; exact rg [y1, u.z, v.z]), cond_true]
          exact jr_twice F C (.of hz hx hy) hA
        · rw [F.ne (show rJ (foK iv) u v ≠ 0 by rw [rj]; exact F.ne_mul (fun h => hy12 (sub_zero_eq h).symm) hzzz), cond_false]
          have : y1 = -y2 := by
            unfold On at g1 g2
            have hs : (y1 - y2) * (y1 + y2) = 0 := rg2 [x1, y1, y2, b] g1 1 g2 (-1)
            rcases F.zero_or hs with h | h
            · exact absurd (sub_zero_eq h) hy12
            · exact rg1 [y1, y2] h 1
          subst this
          have e1 := sum_opp F (x := x1) (y := -y2)
          rw [show - -y2 = y2 from rg_neg_neg y2] at e1
          rw [e1]
          exact .none rfl
      · have hh : hJ (foK iv) u v ≠ 0 := by
          rw [hj]
          exact F.ne_mul (fun h => hx12 (sub_zero_eq h).symm) hzz
        rw [F.ne hh, cond_false]
        have hn : ¬ (x1 = x2 ∧ y1 = -y2) := fun h => hx12 h.1
        obtain ⟨l, hl⟩ := slope_ex F g1 g2 hn
        rw [sum_by F g1 g2 hn hl]
        have hu : u.x * (v.z * v.z) = x1 * (u.z * u.z) * (v.z * v.z) := by rw [hx]
        have hs : u.y * (v.z * v.z * v.z) = y1 * (u.z * u.z * u.z) * (v.z * v.z * v.z) := by rw [hy]
        have X := js_x hj rj hl.a hu (w3 := hJ (foK iv) u v * (u.z * v.z)) rfl
        have Y := js_y hj rj hl.a hu hs (w3 := hJ (foK iv) u v * (u.z * v.z)) rfl X
        exact .of (F.ne_mul hh (F.ne_mul hz kz)) X Y

/-! Multiples. -/
def nsm (iv : K → K) (e : K → K → Bool) (A : Ap K) : Nat → Ap K
  | 0 => ⟨0, 0, true⟩
  | n + 1 => sumA iv e (nsm iv e A n) A

theorem nsm_pt (F : Fd K iv e) {b : K} {A : Ap K} (hA : Pt b A) : ∀ n : Nat, Pt b (nsm iv e A n)
  | 0 => .zero
  | n + 1 => sum_pt F (nsm_pt F hA n) hA

theorem nsm_add (F : Fd K iv e) {b : K} (C : Cv F b) {A : Ap K} (hA : Pt b A) (m : Nat) : ∀ n : Nat, nsm iv e A (m + n) = sumA iv e (nsm iv e A m) (nsm iv e A n)
  | 0 => (nsm_pt F hA m).add0.symm
  | n + 1 => by
    show sumA iv e (nsm iv e A (m + n)) A = sumA iv e (nsm iv e A m) (sumA iv e (nsm iv e A n) A)
    rw [nsm_add F C hA m n, sum_assoc F C (nsm_pt F hA m) (nsm_pt F hA n) hA]

theorem nsm_mul (F : Fd K iv e) {b : K} (C : Cv F b) {A : Ap K} (hA : Pt b A) (m : Nat) : ∀ n : Nat, nsm iv e A (m * n) = nsm iv e (nsm iv e A m) n
  | 0 => rfl
  | n + 1 => by
    show nsm iv e A (m * n + m) = sumA iv e (nsm iv e (nsm iv e A m) n) (nsm iv e A m)
    rw [nsm_add F C hA, nsm_mul F C hA m n]

theorem nsm_zero (n : Nat) : nsm iv e (⟨0, 0, true⟩ : Ap K) n = ⟨0, 0, true⟩ := by
  induction n with
  | zero => rfl
  | succ n ih =>
    show sumA iv e (nsm iv e (⟨0, 0, true⟩ : Ap K) n) ⟨0, 0, true⟩ = _
    rw [ih]; rfl
end
end Go.Rq

/- A number's bits; a multiple by them. -/
namespace Go.Rq
open Go

theorem bitsV_mod (x : Nat) : ∀ k : Nat, bitsV (fun i => Nat.testBit x i) k = x % 2 ^ k
  | 0 => by simp [bitsV, Nat.mod_one]
  | k + 1 => by
    simp only [bitsV]
    rw [bitsV_mod x k, Nat.mod_pow_succ]
    have e : Nat.testBit x k = decide (x / 2 ^ k % 2 = 1) := Nat.testBit_eq_decide_div_mod_eq
    rw [e]
    rcases Nat.mod_two_eq_zero_or_one (x / 2 ^ k) with h | h
    · rw [h]; simp
    · rw [h]; simp

theorem bitsV_congr {b c : Nat → Bool} (h : ∀ i, b i = c i) : ∀ k : Nat, bitsV b k = bitsV c k
  | 0 => rfl
  | k + 1 => by simp only [bitsV, h, bitsV_congr h k]

theorem word_test (w : BitVec 64) (j : Nat) : (((w >>> j) &&& 1#64) == 1#64) = Nat.testBit w.toNat j := by
  have hb : ((w >>> j) &&& 1#64).toNat = (w.toNat >>> j) % 2 := by
    rw [BitVec.toNat_and, BitVec.toNat_ushiftRight, show (1#64).toNat = 1 from rfl, Nat.and_one_is_mod]
  rw [Bool.eq_iff_iff, beq_iff_eq]
  unfold Nat.testBit
  rw [Nat.and_comm, Nat.and_one_is_mod]
  constructor
  · intro h
    rw [h] at hb
    rw [← hb]; rfl
  · intro h
    apply BitVec.eq_of_toNat_eq
    rw [hb]
    have : (w.toNat >>> j) % 2 ≠ 0 := by simpa using h
    show _ = 1
    omega

theorem val_word (n : W6) {j : Nat} (hj : j < 6) : n.val / 2 ^ (64 * j) % 2 ^ 64 = (n.get j).toNat := by
  obtain ⟨a0, a1, a2, a3, a4, a5⟩ := n
  have g0 := a0.isLt; have g1 := a1.isLt; have g2 := a2.isLt; have g3 := a3.isLt; have g4 := a4.isLt; have g5 := a5.isLt
  have p0 : (2 : Nat) ^ (64 * 0) = 1 := by decide +kernel
  have p1 : (2 : Nat) ^ (64 * 1) = 18446744073709551616 := by decide +kernel
  have p2 : (2 : Nat) ^ (64 * 2) = 340282366920938463463374607431768211456 := by decide +kernel
  have p3 : (2 : Nat) ^ (64 * 3) = 6277101735386680763835789423207666416102355444464034512896 := by decide +kernel
  have p4 : (2 : Nat) ^ (64 * 4) = 115792089237316195423570985008687907853269984665640564039457584007913129639936 := by decide +kernel
  have p5 : (2 : Nat) ^ (64 * 5) = 2135987035920910082395021706169552114602704522356652769947041607822219725780640550022962086936576 := by decide +kernel
  have p : (2 : Nat) ^ 64 = 18446744073709551616 := by decide +kernel
  rw [p] at g0 g1 g2 g3 g4 g5 ⊢
  have q0 : W6.val ⟨a0, a1, a2, a3, a4, a5⟩ / 1 % 18446744073709551616 = a0.toNat := by simp only [W6.val]; omega
  have q1 : W6.val ⟨a0, a1, a2, a3, a4, a5⟩ / 18446744073709551616 % 18446744073709551616 = a1.toNat := by simp only [W6.val]; omega
  have q2 : W6.val ⟨a0, a1, a2, a3, a4, a5⟩ / 340282366920938463463374607431768211456 % 18446744073709551616 = a2.toNat := by simp only [W6.val]; omega
  have q3 : W6.val ⟨a0, a1, a2, a3, a4, a5⟩ / 6277101735386680763835789423207666416102355444464034512896 % 18446744073709551616 = a3.toNat := by simp only [W6.val]; omega
  have q4 : W6.val ⟨a0, a1, a2, a3, a4, a5⟩ / 115792089237316195423570985008687907853269984665640564039457584007913129639936 % 18446744073709551616 = a4.toNat := by simp only [W6.val]; omega
  have q5 : W6.val ⟨a0, a1, a2, a3, a4, a5⟩ / 2135987035920910082395021706169552114602704522356652769947041607822219725780640550022962086936576 % 18446744073709551616 = a5.toNat := by simp only [W6.val]; omega
  have hc : j = 0 ∨ j = 1 ∨ j = 2 ∨ j = 3 ∨ j = 4 ∨ j = 5 := by omega
  rcases hc with h | h | h | h | h | h
  · rw [h, p0]; exact q0
  · rw [h, p1]; exact q1
  · rw [h, p2]; exact q2
  · rw [h, p3]; exact q3
  · rw [h, p4]; exact q4
  · rw [h, p5]; exact q5

theorem lt_pow {x d k i : Nat} (h : x < d) (e : d = 2 ^ k) (hk : k ≤ i) : x < 2 ^ i := by
  subst e
  exact Nat.lt_of_lt_of_le h (Nat.pow_le_pow_right (by decide) hk)
theorem bit_test (n : W6) (i : Nat) : n.bit i = Nat.testBit n.val i := by
  unfold W6.bit
  rw [word_test]
  by_cases hi : i / 64 < 6
  · rw [← val_word n hi, Nat.testBit_mod_two_pow, Nat.testBit_div_two_pow]
    rw [show decide (i % 64 < 64) = true from decide_eq_true (Nat.mod_lt _ (by decide)), Bool.true_and, show i % 64 + 64 * (i / 64) = i by omega]
  · have h1 : n.get (i / 64) = 0#64 := by
      unfold W6.get
      rw [List.getD_eq_getElem?_getD, List.getElem?_eq_none (by simp; omega)]
      rfl
    rw [h1]
    have h2 := n.val_lt
    have h4 : (39402006196394479212279040100143613805079739270465446667948293404245721771497210611414266254884915640806627990306816 : Nat) = 2 ^ 384 := by decide +kernel
    have h3 : n.val < 2 ^ i := lt_pow h2 h4 (by omega)
    rw [Nat.testBit_lt_two_pow h3]
    show Nat.testBit 0 _ = false
    rw [Nat.zero_testBit]

/-- The bits that a multiple goes through tell the number. -/
theorem bitsV_val (n : W6) {l : Nat} (h : ∀ i, l ≤ i → n.bit i = false) : bitsV n.bit l = n.val := by
  rw [bitsV_congr (bit_test n), bitsV_mod]
  apply Nat.mod_eq_of_lt
  exact Nat.lt_pow_two_of_testBit n.val fun i hi => by rw [← bit_test]; exact h i hi

section
variable {K : Type} [Rg K] {iv : K → K} {e : K → K → Bool}

theorem jr_run (F : Fd K iv e) {b : K} (C : Cv F b) (f : Fl K) (w : Nat → Bool) {p : Jp K} {A : Ap K} (hp : Jr p A) (hA : Pt b A) : ∀ (k m : Nat) {u : Jp K}, Jr u (nsm iv e A m) → Jr (runK iv e f w p k u) (nsm iv e A (m * 2 ^ k + bitsV w k))
  | 0, m, u, hu => by
    rw [show m * 2 ^ 0 + bitsV w 0 = m by simp [bitsV]]
    exact hu
  | k + 1, m, u, hu => by
    simp only [runK]
    have ht := jr_twice F C hu (nsm_pt F hA m)
    rw [← nsm_add F C hA, ← Nat.two_mul] at ht
    have e1 : m * 2 ^ (k + 1) = 2 * m * 2 ^ k := by rw [Nat.pow_succ, Nat.mul_comm 2 m, Nat.mul_assoc, Nat.mul_comm 2 (2 ^ k)]
    cases hw : w k with
    | false =>
      have := jr_run F C f w hp hA k (2 * m) ht
      rw [show m * 2 ^ (k + 1) + bitsV w (k + 1) = 2 * m * 2 ^ k + bitsV w k by simp only [bitsV, hw, cond_false]; rw [e1]; omega]
      exact this
    | true =>
      have hs := jr_sum F C f ht hp (nsm_pt F hA (2 * m)) hA
      have := jr_run F C f w hp hA k (2 * m + 1) (u := sumE (foK iv) e f (twiceJ (foK iv) u) p) hs
      rw [show m * 2 ^ (k + 1) + bitsV w (k + 1) = (2 * m + 1) * 2 ^ k + bitsV w k by simp only [bitsV, hw, cond_true]; rw [e1, Nat.add_mul]; omega]
      exact this

theorem jr_raise (F : Fd K iv e) {f : Fl K} (hf : f.one = 1) {b : K} {A : Ap K} (hA : Pt b A) : Jr (raiseJ (foK iv) f A) A := by
  cases hA with
  | zero => exact .none rfl
  | of h =>
    rename_i x y
    have hr : raiseJ (foK iv) f (pt x y) = ⟨x, y, 1⟩ := by
      show (⟨x, y, f.one⟩ : Jp K) = _
      rw [hf]
    rw [hr]
    exact .of F.one (by show x = x * (1 * 1); exact rg [x]) (by show y = y * (1 * 1 * 1); exact rg [y])
end
end Go.Rq

/- A law whose arguments stay as they are: its row, from what the law's function comes to. -/
namespace Go.Rq
open Go Go.ChangeShapes Go.WideShapes Go.RowKit

section
variable {H : Type} {enc : TypeId × Value → H} {P : Program}

theorem trodCons {w : World} {base : Nat} {sp : Nat → Bool} {held : Bool} {t : TypeId} {ts : List TypeId} {v : Value} {vs : List Value} {d : DataW H} {ds : List (DataW H)} {p p' : List MemPlace}
    (h : DataW.Trod enc P w base sp held t v d p) (hs : DataW.TrodAll enc P w base sp held ts vs ds p') : DataW.TrodAll enc P w base sp held (t :: ts) (v :: vs) (d :: ds) (p ++ p') := ⟨p, p', h, hs, rfl⟩

theorem stays_all (hl : laidOutB P = true) {W W' : World} {sp : Nat → Bool} (hb : Below W.heap.size W W') :
    ∀ {ts : List TypeId} {vs : List Value} {ds : List (DataW H)} {ps : List MemPlace}, (∀ t ∈ ts, P.readableRec t = true ∧ t < P.types.size) →
    DataW.TrodAll enc P W 0 (fun _ => true) true ts vs ds ps → (∀ x ∈ ps, x.block < W.heap.size) → (∀ x ∈ ps, sp x.block = true) → DataW.TrodAll enc P W' 0 sp true ts vs ds ps
  | [], vs, ds, ps, _, h, _, _ => by
    obtain ⟨rfl, rfl, rfl⟩ := trodAll_nil h
    exact trodAll_mk0
  | t :: ts, vs, ds, ps, hr, h, hlt, hs => by
    obtain ⟨v, vs', d, ds', p, q, rfl, rfl, rfl, h1, h2⟩ := trodAll_cons h
    obtain ⟨r1, r2⟩ := hr t (by simp)
    exact trodCons (WideElems.Trod_stays hl r1 r2 h1 (fun x hx => hb.same (hlt x (by simp [hx]))) (fun x hx => hs x (by simp [hx])))
      (stays_all hl hb (fun u hu => hr u (by simp [hu])) h2 (fun x hx => hlt x (by simp [hx])) (fun x hx => hs x (by simp [hx])))

theorem trodAll_length {W : World} {base : Nat} {sp : Nat → Bool} {held : Bool} : ∀ {ts : List TypeId} {vs : List Value} {ds : List (DataW H)} {ps : List MemPlace},
    DataW.TrodAll enc P W base sp held ts vs ds ps → ds.length = ts.length
  | [], vs, ds, ps, h => by obtain ⟨_, rfl, _⟩ := trodAll_nil h; rfl
  | t :: ts, vs, ds, ps, h => by
    obtain ⟨v, vs', d, ds', p, q, rfl, rfl, rfl, _, h2⟩ := trodAll_cons h
    simp [trodAll_length h2]

/-- The given form of a law's specification: true, and the arguments as they were. -/
structure LawSpec (s : ChangeSpec) (k : Nat) : Prop where
  vars : s.vars = []
  fn : ∀ (H : Type) (ds : List (DataW H)), ds.length = k → s.fn H ds = { results := [.lit (.bool true)], args := ds }

theorem law_post {f : Func} {s : ChangeSpec} {k : Nat} (hs : LawSpec s k) (hk : f.params.size = k) {tb : TypeId} (hrt : f.resultTypes = #[tb]) (hb : P.underlying tb = some .bool)
    (hl : laidOutB P = true) (hr : ∀ t ∈ f.params.toList, P.readableRec t = true ∧ t < P.types.size) {apart fresh handsOn again : Bool}
    {W W' : World} {args : Array Value} {ds gs : List (DataW H)} {before : List MemPlace} (hW : DataW.Whole enc P f.params.toList s.vars apart W args.toList ds gs before)
    (hbl : Below W.heap.size W W') : s.post enc P f apart fresh handsOn again W args (.bool true) W' := by
  have hlt := hW.lt
  have hW' := hW
  obtain ⟨p, q, hA, hV, rfl, hfz, hnd⟩ := hW
  rw [hs.vars] at hV
  obtain ⟨rfl, rfl⟩ := trodVars_none hV
  have hlen : ds.length = k := by rw [trodAll_length hA, ← hk]; simp
  have hfn : s.fn H (ds ++ []) = { results := [.lit (.bool true)], args := ds } := by rw [List.append_nil]; exact hs.fn H ds hlen
  simp only [List.append_nil] at hlt hfz hnd
  have hres : ∀ (b : Nat) (sp : Nat → Bool) (hd : Bool), DataW.TrodAll enc P W' b sp hd f.resultTypes.toList ((Value.bool true).resultList f.resultTypes.size) (s.fn H (ds ++ [])).results [] := by
    intro b sp hd
    rw [hfn, hrt]
    exact trodAll_mk1 (shut_bool hb true)
  have hargs : ∀ sp : Nat → Bool, (∀ x ∈ p, sp x.block = true) → DataW.TrodAll enc P W' 0 sp true f.params.toList args.toList (s.fn H (ds ++ [])).args p := by
    intro sp hsp
    rw [hfn]
    exact stays_all hl hbl hr hA hlt hsp
  have hvars : ∀ sp : Nat → Bool, DataW.TrodVars enc P W' sp s.vars (s.fn H (ds ++ [])).vars [] := by
    intro sp
    rw [hfn, hs.vars]
    rfl
  refine ⟨ds, [], p ++ [], [], p, [], hW', hres _ _ _, hargs _ (fun x hx => by simpa using hlt x hx), hvars _, hbl.frame _, fun _ => ?_⟩
  refine ⟨?_, _, _, ([] ++ p) ++ [], ⟨[] ++ p, [], trodAll_append (hargs _ (fun _ _ => rfl)) (hres _ _ _), hvars _, rfl, ?_, ?_⟩, ?_⟩
  · intro j t r hj hv
    rw [hrt] at hj hv
    cases j with
    | zero =>
      simp [Value.resultList] at hj hv
      subst hj; subst hv
      exact okWide_bool_mk hb true
    | succ j => simp at hj
  · intro b off hp
    have hp' : MemPlace.cell b off ∈ p := by simpa using hp
    have : W'.frozen? ⟨b, off, none⟩ = W.frozen? ⟨b, off, none⟩ := hbl.frozen (hlt _ hp')
    rw [this]
    exact hfz b off (by simpa using hp)
  · intro ha
    simpa using hnd ha
  · intro x hx _
    simpa using hx

/-- The step to the row, for a law that reads its arguments alone. -/
theorem law_handed {C : Checked} {os : Os} {f : FuncId} {fn : Func} {s : ChangeSpec} {k : Nat} {conds : List PathCond} {apart fresh handsOn again : Bool} {a : Assume}
    (own : ownKnob C.prog.godebug = none) (started : os.Started) (noInit : C.prog.inits.idxOf? f = none) (hfn : C.prog.funcs[f]? = some fn)
    (witness : ∃ (w : World) (tape : Tape) (i : Input), w.os = os ∧ (w.forCall tape i).Shaped C.prog ∧ i.vars = [] ∧ Input.okWide C.prog (w.forCall tape i) .any w.heap.size f i ∧
      s.pre6 enc C.prog fn conds apart (w.forCall tape i).memory i.args ∧ a.holds C.prog (lone (Frame.enter C.prog f i.args .normal) [] (w.forCall tape i)))
    (hs : LawSpec s k) (hk : fn.params.size = k) {tb : TypeId} (hrt : fn.resultTypes = #[tb]) (hb : C.prog.underlying tb = some .bool)
    (hl : laidOutB C.prog = true) (hr : ∀ t ∈ fn.params.toList, C.prog.readableRec t = true ∧ t < C.prog.types.size)
    (hcall : ∀ (W : World) (base : Nat) (args : Array Value) (ds : List (DataW H)) (p : List MemPlace),
      (∀ (j : Nat) t v, fn.params[j]? = some t → args[j]? = some v → Value.okWide C.prog W .any base t v) →
      DataW.TrodAll enc C.prog W 0 (fun _ => true) true fn.params.toList args.toList ds p →
      Calls C.prog f args W fun e W' => e = .returned (.bool true) ∧ Below W.heap.size W W') :
    ReturnsInHanded a C os f .any (s.pre6 enc C.prog fn conds apart) (s.post enc C.prog fn apart fresh handsOn again) := by
  refine returnsInHanded_of_change own started noInit hfn witness ?_
  intro W base args ds gs before hval hW _ _
  have hW' := hW
  obtain ⟨p, q, hA, _⟩ := hW
  refine (hcall W base args ds p hval hA).mono fun e W' ⟨he, hbl⟩ => ?_
  exact ⟨_, he, law_post hs hk hrt hb hl hr hW' hbl⟩

/-- Likewise, where variables of the program are laid. -/
theorem law_handed_and {C : Checked} {os : Os} {f : FuncId} {fn : Func} {s : ChangeSpec} {k : Nat} {conds : List PathCond} {apart fresh handsOn again : Bool} {a : Assume} {X : World → Array Value → Prop}
    (hX : ∀ (w w' : World) (args : Array Value), w.heap = w'.heap → X w args → X w' args)
    (own : ownKnob C.prog.godebug = none) (started : os.Started) (noInit : C.prog.inits.idxOf? f = none) (hfn : C.prog.funcs[f]? = some fn)
    (witness : ∃ (w : World) (tape : Tape) (i : Input), w.os = os ∧ (w.forCall tape i).Shaped C.prog ∧ i.vars = [] ∧ Input.okWide C.prog (w.forCall tape i) .any w.heap.size f i ∧
      ((s.pre enc C.prog fn conds apart (w.forCall tape i).memory i.args ∧ X (w.forCall tape i).memory i.args) ∧ sizedMet enc C.prog fn (OpenSpec.ofChange s) apart (w.forCall tape i).memory i.args) ∧ a.holds C.prog (lone (Frame.enter C.prog f i.args .normal) [] (w.forCall tape i)))
    (hs : LawSpec s k) (hk : fn.params.size = k) {tb : TypeId} (hrt : fn.resultTypes = #[tb]) (hb : C.prog.underlying tb = some .bool)
    (hl : laidOutB C.prog = true) (hr : ∀ t ∈ fn.params.toList, C.prog.readableRec t = true ∧ t < C.prog.types.size)
    (hcall : ∀ (W : World) (base : Nat) (args : Array Value) (ds : List (DataW H)) (p : List MemPlace),
      (∀ (j : Nat) t v, fn.params[j]? = some t → args[j]? = some v → Value.okWide C.prog W .any base t v) →
      DataW.TrodAll enc C.prog W 0 (fun _ => true) true fn.params.toList args.toList ds p → X W args →
      Calls C.prog f args W fun e W' => e = .returned (.bool true) ∧ Below W.heap.size W W') :
    ReturnsInHanded a C os f .any (fun w args => (s.pre enc C.prog fn conds apart w args ∧ X w args) ∧ sizedMet enc C.prog fn (OpenSpec.ofChange s) apart w args) (s.post enc C.prog fn apart fresh handsOn again) := by
  refine returnsInHanded_of_change_and hX own started noInit hfn witness ?_
  intro W base args ds gs before hval hW _ _ hx _
  have hW' := hW
  obtain ⟨p, q, hA, _⟩ := hW
  refine (hcall W base args ds p hval hA hx).mono fun e W' ⟨he, hbl⟩ => ?_
  exact ⟨_, he, law_post hs hk hrt hb hl hr hW' hbl⟩

end

/-- What a function comes to that asks nothing of its arguments. -/
theorem call_pure {P : Program} {f : FuncId} {g : List AV → Option (Bool × AV)} (h : PureOk P f g) {as : List AV} {args : Array Value} {W : World} {b : Bool} {r : AV} (hg : g as = some (true, r)) (hr : scal r = some (.bool b)) (hx : ∀ ρ, Rvs ρ as args.toList) :
    Calls P f args W fun e W' => e = .returned (.bool b) ∧ Below W.heap.size W W' := by
  have := h Ren.empty as args.toList r hg (hx _) W
  have e : args.toList.toArray = args := by simp
  rw [e] at this
  refine this.mono ?_
  rintro e w' ⟨v, rfl, hv, hb⟩
  rw [hv.scal_eq hr]
  exact ⟨rfl, hb⟩

end Go.Rq

/- Arguments that are records of words and flags, opened. -/
namespace Go.Rq
open Go Go.WideShapes

section
variable {P : Program} {w : World} {r : Reach} {base : Nat} {t u : TypeId} {v : Value}

theorem cell_u64 (hu : P.underlying u = some (.int .u64)) (h : Cell.okWide P w r base u v) : ∃ x : BitVec 64, v = uval x := by
  simp only [Cell.okWide, hu] at h
  cases v with
  | int k n =>
    simp only [Cell.ok, hu] at h
    obtain ⟨rfl, h1, h2⟩ := h
    have h1 : (0 : Int) ≤ n := h1
    have h2 : n ≤ 18446744073709551615 := h2
    refine ⟨BitVec.ofNat 64 n.toNat, ?_⟩
    unfold uval
    congr 1
    rw [BitVec.toNat_ofNat, Nat.mod_eq_of_lt (by omega)]
    show n = ((n.toNat : Nat) : Int)
    omega
  | _ => simp [Cell.ok, hu] at h

theorem cell_bool (hu : P.underlying u = some .bool) (h : Cell.okWide P w r base u v) : ∃ b : Bool, v = .bool b := by
  simp only [Cell.okWide, hu] at h
  cases v with
  | bool b => exact ⟨b, rfl⟩
  | _ => simp [Cell.ok, hu] at h

theorem open_cells {ts : List TypeId} (ha : ∃ cs, v = .agg cs ∧ cs.size = P.cellsOf t ∧ Row.okWide P w r base t cs) (hc : P.cellTypes P.depth t = some ts) (hn : P.cellsOf t = ts.length) :
    ∃ l : List Value, v = .agg l.toArray ∧ l.length = ts.length ∧ ∀ (i : Nat) (u : TypeId) (x : Value), ts[i]? = some u → l[i]? = some x → Cell.okWide P w r base u x := by
  obtain ⟨cs, rfl, h1, ts', h2, -, h4⟩ := ha
  rw [hc] at h2
  simp at h2
  subst h2
  refine ⟨cs.toList, by simp, by simp [h1, hn], fun i u x hu hx => ?_⟩
  obtain ⟨u', h5, h6⟩ := h4 i x (by simpa using hx)
  have hi : i < ts.length := (List.getElem?_eq_some_iff.1 hu).1
  rw [Nat.mod_eq_of_lt hi, hu] at h5
  simp at h5
  rw [h5]
  exact h6

theorem okWide_agg {fs : Array Field} (ht : P.underlying t = some (.struct fs)) (h : Value.okWide P w r base t v) : ∃ cs, v = .agg cs ∧ cs.size = P.cellsOf t ∧ Row.okWide P w r base t cs := by
  simp only [Value.okWide, ht] at h
  exact h
theorem okWide_arr {e : TypeId} {n : Nat} (ht : P.underlying t = some (.array n e)) (h : Value.okWide P w r base t v) : ∃ cs, v = .agg cs ∧ cs.size = P.cellsOf t ∧ Row.okWide P w r base t cs := by
  simp only [Value.okWide, ht] at h
  exact h

/-- Six words. -/
theorem open_six (hu : P.underlying u = some (.int .u64)) {l : List Value} (hl : l.length = 6) (h : ∀ (i : Nat) (x : Value), i < 6 → l[i]? = some x → Cell.okWide P w r base u x) : ∃ x : W6, l = c6.val x := by
  match l, hl with
  | [a0, a1, a2, a3, a4, a5], _ =>
    obtain ⟨x0, rfl⟩ := cell_u64 hu (h 0 a0 (by decide) rfl)
    obtain ⟨x1, rfl⟩ := cell_u64 hu (h 1 a1 (by decide) rfl)
    obtain ⟨x2, rfl⟩ := cell_u64 hu (h 2 a2 (by decide) rfl)
    obtain ⟨x3, rfl⟩ := cell_u64 hu (h 3 a3 (by decide) rfl)
    obtain ⟨x4, rfl⟩ := cell_u64 hu (h 4 a4 (by decide) rfl)
    obtain ⟨x5, rfl⟩ := cell_u64 hu (h 5 a5 (by decide) rfl)
    exact ⟨⟨x0, x1, x2, x3, x4, x5⟩, rfl⟩

/-- A number of six words. -/
theorem open_num (hu : P.underlying u = some (.int .u64)) (ha : ∃ cs, v = .agg cs ∧ cs.size = P.cellsOf t ∧ Row.okWide P w r base t cs) (hc : P.cellTypes P.depth t = some [u, u, u, u, u, u]) (hn : P.cellsOf t = 6) : ∃ x : W6, v = c6.agg.val x := by
  obtain ⟨l, rfl, h1, h2⟩ := open_cells ha hc hn
  obtain ⟨x, rfl⟩ := open_six hu h1 (fun i x hi hx => h2 i u x (by
    match i, hi with
    | 0, _ => rfl
    | 1, _ => rfl
    | 2, _ => rfl
    | 3, _ => rfl
    | 4, _ => rfl
    | 5, _ => rfl) hx)
  exact ⟨x, rfl⟩

/-- Twice six words and a flag. -/
theorem open_p1 {b : TypeId} (hu : P.underlying u = some (.int .u64)) (hb : P.underlying b = some .bool) (ha : ∃ cs, v = .agg cs ∧ cs.size = P.cellsOf t ∧ Row.okWide P w r base t cs)
    (hc : P.cellTypes P.depth t = some [u, u, u, u, u, u, u, u, u, u, u, u, b]) (hn : P.cellsOf t = 13) : ∃ x : Ap W6, v = (cAp c6).agg.val x := by
  obtain ⟨l, rfl, h1, h2⟩ := open_cells ha hc hn
  match l, h1 with
  | [a0, a1, a2, a3, a4, a5, b0, b1, b2, b3, b4, b5, z], _ =>
    have g : ∀ (i : Nat) (x : Value), i < 12 → [a0, a1, a2, a3, a4, a5, b0, b1, b2, b3, b4, b5, z][i]? = some x → Cell.okWide P w r base u x := fun i x hi hx => h2 i u x (by
      match i, hi with
      | 0, _ => rfl
      | 1, _ => rfl
      | 2, _ => rfl
      | 3, _ => rfl
      | 4, _ => rfl
      | 5, _ => rfl
      | 6, _ => rfl
      | 7, _ => rfl
      | 8, _ => rfl
      | 9, _ => rfl
      | 10, _ => rfl
      | 11, _ => rfl) hx
    obtain ⟨x, hx⟩ := open_six (l := [a0, a1, a2, a3, a4, a5]) hu rfl (fun i x hi hx => g i x (by omega) (by
      match i, hi, hx with
      | 0, _, hx => exact hx
      | 1, _, hx => exact hx
      | 2, _, hx => exact hx
      | 3, _, hx => exact hx
      | 4, _, hx => exact hx
      | 5, _, hx => exact hx))
    obtain ⟨y, hy⟩ := open_six (l := [b0, b1, b2, b3, b4, b5]) hu rfl (fun i x hi hx => g (6 + i) x (by omega) (by
      match i, hi, hx with
      | 0, _, hx => exact hx
      | 1, _, hx => exact hx
      | 2, _, hx => exact hx
      | 3, _, hx => exact hx
      | 4, _, hx => exact hx
      | 5, _, hx => exact hx))
    obtain ⟨c, rfl⟩ := cell_bool hb (h2 12 b z rfl rfl)
    refine ⟨⟨x, y, c⟩, ?_⟩
    have e : [a0, a1, a2, a3, a4, a5, b0, b1, b2, b3, b4, b5, Value.bool c] = c6.val x ++ (c6.val y ++ [Value.bool c]) := by
      rw [← hx, ← hy]; rfl
    show Value.agg [a0, a1, a2, a3, a4, a5, b0, b1, b2, b3, b4, b5, Value.bool c].toArray = Value.agg (c6.val x ++ (c6.val y ++ [Value.bool c])).toArray
    rw [e]
/-- Four times six words and a flag. -/
theorem open_p2 {b : TypeId} (hu : P.underlying u = some (.int .u64)) (hb : P.underlying b = some .bool) (ha : ∃ cs, v = .agg cs ∧ cs.size = P.cellsOf t ∧ Row.okWide P w r base t cs)
    (hc : P.cellTypes P.depth t = some [u, u, u, u, u, u, u, u, u, u, u, u, u, u, u, u, u, u, u, u, u, u, u, u, b]) (hn : P.cellsOf t = 25) : ∃ x : Ap D6, v = (cAp c12).agg.val x := by
  obtain ⟨l, rfl, h1, h2⟩ := open_cells ha hc hn
  match l, h1 with
  | [a0, a1, a2, a3, a4, a5, b0, b1, b2, b3, b4, b5, c0, c1, c2, c3, c4, c5, d0, d1, d2, d3, d4, d5, z], _ =>
    have g : ∀ (i : Nat) (x : Value), i < 24 → [a0, a1, a2, a3, a4, a5, b0, b1, b2, b3, b4, b5, c0, c1, c2, c3, c4, c5, d0, d1, d2, d3, d4, d5, z][i]? = some x → Cell.okWide P w r base u x := fun i x hi hx => h2 i u x (by
      show (List.replicate 24 u ++ [b])[i]? = some u
      rw [List.getElem?_append_left (by simpa using hi), List.getElem?_replicate, if_pos hi]) hx
    obtain ⟨x0, hx0⟩ := open_six (l := [a0, a1, a2, a3, a4, a5]) hu rfl (fun i x hi hx => g (0 + i) x (by omega) (by
      match i, hi, hx with
      | 0, _, hx => exact hx
      | 1, _, hx => exact hx
      | 2, _, hx => exact hx
      | 3, _, hx => exact hx
      | 4, _, hx => exact hx
      | 5, _, hx => exact hx))
    obtain ⟨x1, hx1⟩ := open_six (l := [b0, b1, b2, b3, b4, b5]) hu rfl (fun i x hi hx => g (6 + i) x (by omega) (by
      match i, hi, hx with
      | 0, _, hx => exact hx
      | 1, _, hx => exact hx
      | 2, _, hx => exact hx
      | 3, _, hx => exact hx
      | 4, _, hx => exact hx
      | 5, _, hx => exact hx))
    obtain ⟨y0, hy0⟩ := open_six (l := [c0, c1, c2, c3, c4, c5]) hu rfl (fun i x hi hx => g (12 + i) x (by omega) (by
      match i, hi, hx with
      | 0, _, hx => exact hx
      | 1, _, hx => exact hx
      | 2, _, hx => exact hx
      | 3, _, hx => exact hx
      | 4, _, hx => exact hx
      | 5, _, hx => exact hx))
    obtain ⟨y1, hy1⟩ := open_six (l := [d0, d1, d2, d3, d4, d5]) hu rfl (fun i x hi hx => g (18 + i) x (by omega) (by
      match i, hi, hx with
      | 0, _, hx => exact hx
      | 1, _, hx => exact hx
      | 2, _, hx => exact hx
      | 3, _, hx => exact hx
      | 4, _, hx => exact hx
      | 5, _, hx => exact hx))
    obtain ⟨c, rfl⟩ := cell_bool hb (h2 24 b z rfl rfl)
    refine ⟨⟨⟨x0, x1⟩, ⟨y0, y1⟩, c⟩, ?_⟩
    have e : [a0, a1, a2, a3, a4, a5, b0, b1, b2, b3, b4, b5, c0, c1, c2, c3, c4, c5, d0, d1, d2, d3, d4, d5, Value.bool c] = (c6.val x0 ++ c6.val x1) ++ ((c6.val y0 ++ c6.val y1) ++ [Value.bool c]) := by
      rw [← hx0, ← hx1, ← hy0, ← hy1]; rfl
    show Value.agg [a0, a1, a2, a3, a4, a5, b0, b1, b2, b3, b4, b5, c0, c1, c2, c3, c4, c5, d0, d1, d2, d3, d4, d5, Value.bool c].toArray = Value.agg ((c6.val x0 ++ c6.val x1) ++ ((c6.val y0 ++ c6.val y1) ++ [Value.bool c])).toArray
    rw [e]
end
end Go.Rq

/- Arguments that are slices, opened. -/
namespace Go.Rq
open Go Go.ChangeShapes Go.WideShapes Go.RowKit

theorem rowAt_le {p : Program} {fits : TypeId → Bool} {d : Nat} {e : TypeId} {count off n : Nat} (h : rowAt p fits d e count off n = true) : off ≤ count * p.cellsOf e := by
  cases d with
  | zero => simp [rowAt] at h
  | succ d =>
    unfold rowAt at h
    simp only at h
    split at h
    · cases h
    · rename_i hs
      have hm := Nat.div_add_mod off (p.cellsOf e)
      have hlt : off % p.cellsOf e < p.cellsOf e := Nat.mod_lt _ (Nat.pos_of_ne_zero hs)
      rw [Bool.or_eq_true] at h
      rcases h with h | h
      · simp only [Bool.and_eq_true, beq_iff_eq, decide_eq_true_eq] at h
        obtain ⟨⟨h1, h2⟩, -⟩ := h
        have : p.cellsOf e * (off / p.cellsOf e) ≤ p.cellsOf e * count := Nat.mul_le_mul_left _ (by omega)
        rw [Nat.mul_comm count]
        omega
      · simp only [Bool.and_eq_true, decide_eq_true_eq] at h
        have h1 := h.1
        have : p.cellsOf e * (off / p.cellsOf e + 1) ≤ p.cellsOf e * count := Nat.mul_le_mul_left _ (by omega)
        rw [Nat.mul_add] at this
        rw [Nat.mul_comm count]
        omega

theorem liesAt_le {p : Program} : ∀ {d : Nat} {e : TypeId} {count off : Nat} {u : TypeId} {n : Nat}, liesAt p d e count off u n = true → off ≤ count * p.cellsOf e
  | 0, e, count, off, u, n, h => by simp [liesAt] at h
  | d + 1, e, count, off, u, n, h => by
    unfold liesAt at h
    rw [Bool.or_eq_true] at h
    rcases h with h | h
    · exact rowAt_le h
    · split at h
      · exact liesAt_le h
      · cases h

theorem list_choice {α : Type} {Q : Nat → α → Prop} : ∀ (n : Nat), (∀ i, i < n → ∃ d, Q i d) → ∃ l : List α, l.length = n ∧ ∀ i d, l[i]? = some d → Q i d
  | 0, _ => ⟨[], rfl, fun i d h => by simp at h⟩
  | n + 1, h => by
    obtain ⟨l, h1, h2⟩ := list_choice n (fun i hi => h i (by omega))
    obtain ⟨d, hd⟩ := h n (by omega)
    refine ⟨l ++ [d], by simp [h1], fun i x hx => ?_⟩
    rcases Nat.lt_or_ge i n with hi | hi
    · rw [List.getElem?_append_left (by omega)] at hx
      exact h2 i x hx
    · rw [List.getElem?_append_right (by omega), h1] at hx
      have : i - n = 0 := by
        have := (List.getElem?_eq_some_iff.1 hx).1
        simp at this
        omega
      rw [this] at hx
      simp at hx
      subst hx
      rw [show i = n by omega]
      exact hd

theorem encL_get {α : Type} {C : CC α} : ∀ {l : List α} {k : Nat} {a : AV}, (encL C l)[k]? = some a → ∃ i d j, k = i * C.n + j ∧ j < C.n ∧ l[i]? = some d ∧ (C.enc d)[j]? = some a
  | [], k, a, h => by simp [encL] at h
  | x :: t, k, a, h => by
    simp only [encL] at h
    rcases Nat.lt_or_ge k C.n with hk | hk
    · rw [List.getElem?_append_left (by rw [C.len]; exact hk)] at h
      exact ⟨0, x, k, by omega, hk, rfl, h⟩
    · rw [List.getElem?_append_right (by rw [C.len]; exact hk), C.len] at h
      obtain ⟨i, d, j, h1, h2, h3, h4⟩ := encL_get h
      exact ⟨i + 1, d, j, by rw [Nat.add_mul]; omega, h2, by simpa using h3, h4⟩

section
variable {H : Type} {enc : TypeId × Value → H} {P : Program} {w : World} {base : Nat} {spare : Nat → Bool} {held : Bool}

theorem trod_arr {t e : TypeId} {n fuel : Nat} {cs : List Value} {x : DataW H × List MemPlace} (ht : P.underlying t = some (.array n e)) (h : DataW.trod enc P w base spare held fuel t cs = some x) :
    cs.length = P.cellsOf t ∧ ∃ m, ∀ i, i < n → ∃ y, DataW.trod enc P w base spare held m e ((cs.drop (i * P.cellsOf e)).take (P.cellsOf e)) = some y := by
  cases fuel with
  | zero => simp [DataW.trod] at h
  | succ m =>
    unfold DataW.trod at h
    rw [ht] at h
    split at h <;> simp_all
    obtain ⟨hl, xs, hp, hd⟩ := h
    refine ⟨m, fun i hi => ?_⟩
    have h1 := mapM_some_get hp i i (by simp [hi])
    have h2 : i < xs.length := by
      have := mapM_some_length hp
      simp at this
      omega
    exact ⟨xs[i].1, xs[i].2, by rw [h1]; simp [h2]⟩

/-- Whatever is read at a type tells a datum. -/
structure Tells {α : Type} (enc : TypeId × Value → H) (P : Program) (w : World) (base : Nat) (spare : Nat → Bool) (held : Bool) (t : TypeId) (C : CC α) : Prop where
  tell : ∀ fuel cs (x : DataW H × List MemPlace), DataW.trod enc P w base spare held fuel t cs = some x → ∃ d : α, cs = C.val d

theorem word_of {u : TypeId} (hu : P.underlying u = some (.int .u64)) {fuel : Nat} {cs : List Value} {x : DataW H × List MemPlace} (h : DataW.trod enc P w base spare held fuel u cs = some x) : ∃ z : BitVec 64, cs = [uval z] := by
  obtain ⟨n, rfl, -, hw⟩ := DataW.trod_int hu h
  have hw : (0 : Int) ≤ n ∧ n ≤ 18446744073709551615 := by
    have := hw
    simp only [Lit.wf, Bool.and_eq_true, decide_eq_true_eq] at this
    exact this
  refine ⟨BitVec.ofNat 64 n.toNat, ?_⟩
  unfold uval
  congr 2
  rw [BitVec.toNat_ofNat, Nat.mod_eq_of_lt (by omega)]
  show n = ((n.toNat : Nat) : Int)
  omega

theorem words_six {l : List Value} (hl : l.length = 6) (h : ∀ i, i < 6 → ∃ z : BitVec 64, (l.drop i).take 1 = [uval z]) : ∃ x : W6, l = c6.val x := by
  match l, hl with
  | [a0, a1, a2, a3, a4, a5], _ =>
    obtain ⟨x0, h0⟩ := h 0 (by decide)
    obtain ⟨x1, h1⟩ := h 1 (by decide)
    obtain ⟨x2, h2⟩ := h 2 (by decide)
    obtain ⟨x3, h3⟩ := h 3 (by decide)
    obtain ⟨x4, h4⟩ := h 4 (by decide)
    obtain ⟨x5, h5⟩ := h 5 (by decide)
    simp at h0 h1 h2 h3 h4 h5
    subst h0 h1 h2 h3 h4 h5
    exact ⟨⟨x0, x1, x2, x3, x4, x5⟩, rfl⟩

theorem tells_num {t u : TypeId} (ht : P.underlying t = some (.array 6 u)) (hu : P.underlying u = some (.int .u64)) (h1 : P.cellsOf u = 1) (h6 : P.cellsOf t = 6) : Tells enc P w base spare held t c6 := ⟨fun fuel cs x h => by
  obtain ⟨hl, m, hm⟩ := trod_arr ht h
  refine words_six (by rw [hl, h6]) (fun i hi => ?_)
  obtain ⟨y, hy⟩ := hm i hi
  rw [h1, Nat.mul_one] at hy
  exact word_of hu hy⟩

theorem take_cat {α : Type} (l : List α) (n m : Nat) : l.take n ++ (l.drop n).take m = l.take (n + m) := by rw [List.take_add]

theorem tells_two {t e : TypeId} (ht : P.underlying t = some (.array 2 e)) (hA : P.cellsOf e = 6) (hc : P.cellsOf t = 12) (T : Tells enc P w base spare held e c6) : Tells enc P w base spare held t c12 := ⟨fun fuel cs x h => by
  obtain ⟨hl, m, hm⟩ := trod_arr ht h
  obtain ⟨y0, h0⟩ := hm 0 (by decide)
  obtain ⟨y1, h1⟩ := hm 1 (by decide)
  obtain ⟨a, ha⟩ := T.tell _ _ _ h0
  obtain ⟨b, hb⟩ := T.tell _ _ _ h1
  rw [hA, Nat.zero_mul, List.drop_zero] at ha
  rw [hA, Nat.one_mul] at hb
  refine ⟨⟨a, b⟩, ?_⟩
  show cs = c6.val a ++ c6.val b
  rw [← ha, ← hb, take_cat, List.take_of_length_le (by omega)]⟩

theorem tells_ap {α : Type} {t : TypeId} {C : CC α} {fs : Array Field} {f0 f1 f2 : Field} (ht : P.underlying t = some (.struct fs)) (h0 : fs[0]? = some f0) (h1 : fs[1]? = some f1) (h2 : fs[2]? = some f2)
    (k0 : f0.offset = 0) (k1 : f1.offset = C.n) (k2 : f2.offset = C.n + C.n) (c0 : P.cellsOf f0.type = C.n) (c1 : P.cellsOf f1.type = C.n) (c2 : P.cellsOf f2.type = 1) (hb : P.underlying f2.type = some .bool) (hc : P.cellsOf t = C.n + C.n + 1) (hs : fs.size = 3)
    (T0 : Tells enc P w base spare held f0.type C) (T1 : Tells enc P w base spare held f1.type C) : Tells enc P w base spare held t (cAp C) := ⟨fun fuel cs x h => by
  obtain ⟨xs, n, -, -, hl, hx, hf⟩ := DataW.trod_struct ht h
  have g : ∀ i, i < 3 → ∃ y, xs[i]? = some y := fun i hi => ⟨xs[i], List.getElem?_eq_getElem (by omega)⟩
  obtain ⟨y0, e0⟩ := g 0 (by decide)
  obtain ⟨y1, e1⟩ := g 1 (by decide)
  obtain ⟨y2, e2⟩ := g 2 (by decide)
  obtain ⟨a, ha⟩ := T0.tell _ _ _ ((hf 0 f0 h0).trans e0)
  obtain ⟨b, hb'⟩ := T1.tell _ _ _ ((hf 1 f1 h1).trans e1)
  obtain ⟨z, hz, -⟩ := DataW.trod_bool hb ((hf 2 f2 h2).trans e2)
  rw [k0, c0, List.drop_zero] at ha
  rw [k1, c1] at hb'
  rw [k2, c2] at hz
  refine ⟨⟨a, b, z⟩, ?_⟩
  show cs = C.val a ++ (C.val b ++ [Value.bool z])
  rw [← ha, ← hb', ← hz, ← List.append_assoc, take_cat, take_cat, List.take_of_length_le (by omega)]⟩

theorem slice_ok {t e : TypeId} {r : Reach} {base' : Nat} {v : Value} (ht : P.underlying t = some (.slice e)) (hv : Value.okWide P w r base' t v) :
    v = .slice none 0 0 ∨ ∃ a len cap, v = .slice (some a) len cap ∧ w.has P r base' a e cap := by
  simp only [Value.okWide, ht, Cell.okWide] at hv
  cases v with
  | slice o len cap =>
    unfold Cell.ok at hv
    rw [ht] at hv
    cases o with
    | none =>
      left
      simp only at hv
      split at hv <;> simp_all
    | some a => exact .inr ⟨a, len, cap, rfl, hv.2.2⟩
  | _ => simp [Cell.ok, ht] at hv

/-- A slice that a law is handed. -/
theorem open_slice {α : Type} {t e : TypeId} {C : CC α} (ht : P.underlying t = some (.slice e)) (hT : Tells enc P w base spare held e C) (hc : P.cellsOf e = C.n) {r : Reach} {base' : Nat} {v : Value} {d : DataW H} {p : List MemPlace}
    (hv : Value.okWide P w r base' t v) (h : DataW.Trod enc P w base spare held t v d p) : ∃ (x : Hd) (l : List α), ((x.s = .nil ∧ l = []) ∨ x.s = .slc l.length) ∧ x.cs = encL C l ∧ HandS w x v := by
  rcases slice_ok ht hv with rfl | ⟨a, len, cap, rfl, hhas⟩
  · exact ⟨⟨.nil, 0, default, [], none, 0, 0⟩, [], .inl ⟨rfl, rfl⟩, rfl, ⟨fun σ id _ _ _ => .v _, fun h => absurd rfl h⟩⟩
  · obtain ⟨fuel, h⟩ := h
    obtain ⟨b, off, sp⟩ := a
    obtain ⟨-, hsp, row, cells, hsh, hlies⟩ := hhas
    simp only at hsp
    subst hsp
    simp only at hsh hlies
    unfold World.shape? at hsh
    split at hsh
    · rename_i c elem fr hheap
      simp at hsh
      obtain ⟨rfl, rfl⟩ := hsh
      have hoff : off ≤ c.size := Nat.le_trans (liesAt_le hlies) (Nat.div_mul_le_self _ _)
      rcases DataW.trod_slice ht h with ⟨h0, -⟩ | ⟨a', len', cap', elems, rest, n, -, hcs, -, hbb, hl, hm, hlen, hel, -, -⟩
      · simp [Value.cells] at h0
      · have hcs : Value.slice (some ⟨b, off, none⟩) len cap = .slice (some a') len' cap' := by simpa [Value.cells] using hcs
        simp only [Value.slice.injEq, Option.some.injEq] at hcs
        obtain ⟨rfl, rfl, rfl⟩ := hcs
        have each : ∀ i, i < len → ∃ d : α, ∀ j, j < C.n → c[off + (i * C.n + j)]? = (C.val d)[j]? := by
          intro i hi
          have hs : elems[i]? = some elems[i] := List.getElem?_eq_getElem (by omega)
          have := (hel i hi).trans hs
          rw [Option.bind_eq_some_iff] at this
          obtain ⟨cs', h1, h2⟩ := this
          obtain ⟨d', rfl⟩ := hT.tell _ _ _ h2
          obtain ⟨-, -, h3⟩ := World.cells?_some h1
          refine ⟨d', fun j hj => ?_⟩
          have := h3 j (by rw [hc]; exact hj)
          rw [Addr.add_none, Addr.add_none, hc] at this
          unfold World.cell? at this
          rw [hheap] at this
          simp only [Option.isSome_none, Bool.false_eq_true, if_false] at this
          rw [← this, Nat.add_assoc]
        obtain ⟨l, hll, hQ⟩ := list_choice len each
        have cell : ∀ (k : Nat) (x : AV), (encL C l)[k]? = some x → ∃ d : α, ∃ j, (C.enc d)[j]? = some x ∧ c[off + k]? = (C.val d)[j]? ∧ j < C.n := by
          intro k x hx
          obtain ⟨i, d', j, rfl, hj, hd, hx'⟩ := encL_get hx
          exact ⟨d', j, hx', hQ i d' hd j hj, hj⟩
        refine ⟨⟨.slc len, cap, elem, encL C l, some b, c.size, off⟩, l, .inr (by rw [hll]), rfl, ⟨fun σ id e1 e2 e3 => ?_, fun _ => ⟨b, c, fr, rfl, hheap, rfl, ?_, fun σ k x u hx hu => ?_⟩⟩⟩
        · simp only at e1 e3
          have := Rv.slc (ρ := σ) (off := 0) (len := len) (cap := cap) e1
          rw [e3, Nat.add_zero] at this
          exact this
        · show off + (encL C l).length ≤ c.size
          rcases Nat.eq_zero_or_pos (encL C l).length with h0 | h0
          · omega
          · have hlt : (encL C l).length - 1 < (encL C l).length := by omega
            obtain ⟨d', j, -, h2, h3⟩ := cell ((encL C l).length - 1) _ (List.getElem?_eq_getElem hlt)
            have h4 : (C.val d')[j]? = some ((C.val d')[j]'(by rw [C.val_len]; exact h3)) := List.getElem?_eq_getElem _
            rw [h4] at h2
            have := (Array.getElem?_eq_some_iff.1 h2).1
            omega
        · simp only at hx hu
          obtain ⟨d', j, h1, h2, -⟩ := cell k x hx
          rw [hu] at h2
          exact (Rvs.of_flats (ρ := σ) (C.h1 d')).2 j x u h1 h2.symm
    · cases hsh
end
end Go.Rq
