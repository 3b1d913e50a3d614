/- Division of two words by one (math/bits.Div64's way): the correction loops, as numbers. -/
import Derived.Test.YtbamkkbefjgeoaaGreatDoorRq06
import Derived.Test.YtbamkkbefjgeoaaGreatDoorRq00
import Derived.Test.YtbamkkbefjgeoaaGreatDoorRq07
namespace Go.Rq
open Go

/-- The loop that corrects a guessed digit. -/
def dvL (y0 y1 u : BitVec 64) (K : BitVec 64 → Tree AV) : Nat → BitVec 64 → BitVec 64 → Tree AV
  | 0, _, _ => .fail
  | k + 1, q, r => .br (BitVec.ule 4294967296#64 q) (.br (BitVec.ule 4294967296#64 (r + y1)) (K (q - bitW true)) (dvL y0 y1 u K k (q - bitW true) (r + y1)))
    (.br (BitVec.ult (4294967296#64 * r + u) (q * y0)) (.br (BitVec.ule 4294967296#64 (r + y1)) (K (q - bitW true)) (dvL y0 y1 u K k (q - bitW true) (r + y1))) (K q))

theorem dg_bounds {V1 V0 A U : Nat} (h1 : 2147483648 ≤ V1) (h0 : V0 < 4294967296) (hU : U < 4294967296) (hA : A < V1 * 4294967296 + V0) {Q : Nat} (hQ : Q = (A * 4294967296 + U) / (V1 * 4294967296 + V0)) :
    Q < 4294967296 ∧ Q ≤ A / V1 ∧ A / V1 ≤ Q + 2 ∧ Q * (V1 * 4294967296 + V0) ≤ A * 4294967296 + U ∧ A * 4294967296 + U < (Q + 1) * (V1 * 4294967296 + V0) := by
  have hY : 0 < V1 * 4294967296 + V0 := by omega
  have hV : 0 < V1 := by omega
  have k1 : Q * (V1 * 4294967296 + V0) ≤ A * 4294967296 + U := by rw [hQ]; exact Nat.div_mul_le_self _ _
  have k2 : A * 4294967296 + U < (Q + 1) * (V1 * 4294967296 + V0) := by
    rw [hQ]
    exact Nat.lt_of_lt_of_eq (Nat.lt_mul_div_succ _ hY) (Nat.mul_comm _ _)
  have k3 : Q < 4294967296 := by
    rw [hQ]
    refine Nat.div_lt_of_lt_mul ?_
    omega
  have e1 : Q * (V1 * 4294967296 + V0) = (Q * V1) * 4294967296 + Q * V0 := by rw [Nat.mul_add, Nat.mul_assoc]
  have k4 : Q * V1 ≤ A := by omega
  have hdm := Nat.div_add_mod A V1
  have hm := Nat.mod_lt A hV
  rw [Nat.mul_comm] at hdm
  generalize A % V1 = r at hdm hm
  generalize hq : A / V1 = q at hdm ⊢
  have k5 : Q ≤ q := by rw [← hq]; exact (Nat.le_div_iff_mul_le hV).2 k4
  refine ⟨k3, k5, ?_, k1, k2⟩
  rcases Nat.lt_or_ge (Q + 2) q with hc | hc
  · exfalso
    have c1 : (Q + 3) * V1 ≤ q * V1 := Nat.mul_le_mul_right _ hc
    have e2 : (Q + 3) * V1 = Q * V1 + 3 * V1 := Nat.add_mul _ _ _
    have e3 : (Q + 1) * (V1 * 4294967296 + V0) = (Q * V1 + V1) * 4294967296 + (Q + 1) * V0 := by
      rw [Nat.mul_add, ← Nat.mul_assoc, Nat.add_mul Q 1 V1, Nat.one_mul]
    have c2 : (Q + 1) * V0 ≤ 4294967296 * V0 := Nat.mul_le_mul_right _ (by omega)
    omega
  · exact hc

theorem one_nat : (bitW true).toNat = 1 := rfl
theorem two32 : (4294967296#64).toNat = 4294967296 := rfl
theorem dvL_holds {V1 V0 A U : Nat} {y0 y1 u q r : BitVec 64} {K : BitVec 64 → Tree AV} {Z : AV → Prop} (hy0 : y0.toNat = V0) (hy1 : y1.toNat = V1) (hu : u.toNat = U) (hq : q.toNat = A / V1) (hr : r.toNat = A % V1)
    (h1 : 2147483648 ≤ V1) (h1' : V1 < 4294967296) (h0 : V0 < 4294967296) (hU : U < 4294967296) (hA : A < V1 * 4294967296 + V0)
    (hK : ∀ q' : BitVec 64, q'.toNat = (A * 4294967296 + U) / (V1 * 4294967296 + V0) → (K q').holds Z) : (dvL y0 y1 u K 2 q r).holds Z := by
  obtain ⟨Q, hQ⟩ : ∃ Q, Q = (A * 4294967296 + U) / (V1 * 4294967296 + V0) := ⟨_, rfl⟩
  rw [← hQ] at hK
  obtain ⟨b1, b2, b3, b4, b5⟩ := dg_bounds h1 h0 hU hA hQ
  have hV : 0 < V1 := by omega
  have hdm := Nat.div_add_mod A V1
  have hm := Nat.mod_lt A hV
  rw [Nat.mul_comm] at hdm
  generalize A % V1 = ρ at *
  generalize A / V1 = κ at *
  clear hQ
  -- whether a digit is too great, told by the test
  have test : ∀ (x y : BitVec 64) (X R : Nat), x.toNat = X → y.toNat = R → X * V1 + R = A → R < 4294967296 → X ≤ 4294967296 + 1 → (BitVec.ult (4294967296#64 * y + u) (x * y0) = true ↔ Q < X) := by
    intro x y X R hx hy hXR hR hX
    have m1 : X * V0 ≤ 4294967297 * 4294967295 := Nat.mul_le_mul hX (by omega)
    have e1 : (x * y0).toNat = X * V0 := by rw [BitVec.toNat_mul, hx, hy0]; omega
    have e2 : (4294967296#64 * y + u).toNat = 4294967296 * R + U := by
      rw [BitVec.toNat_add, BitVec.toNat_mul, two32, hy, hu]; omega
    have e3 : BitVec.ult (4294967296#64 * y + u) (x * y0) = decide (4294967296 * R + U < X * V0) := by
      unfold BitVec.ult; rw [e1, e2]
    rw [e3, decide_eq_true_iff]
    have e4 : X * (V1 * 4294967296 + V0) = (X * V1) * 4294967296 + X * V0 := by rw [Nat.mul_add, Nat.mul_assoc]
    constructor
    · intro h
      rcases Nat.lt_or_ge Q X with hc | hc
      · exact hc
      · exfalso
        have : X * (V1 * 4294967296 + V0) ≤ Q * (V1 * 4294967296 + V0) := Nat.mul_le_mul_right _ hc
        omega
    · intro h
      have : (Q + 1) * (V1 * 4294967296 + V0) ≤ X * (V1 * 4294967296 + V0) := Nat.mul_le_mul_right _ h
      omega
  have big : ∀ (x : BitVec 64) (X : Nat), x.toNat = X → (BitVec.ule 4294967296#64 x = true ↔ 4294967296 ≤ X) := by
    intro x X hx
    unfold BitVec.ule
    rw [decide_eq_true_iff, hx, two32]
  -- a step down
  have dec : ∀ (x y : BitVec 64) (X R : Nat), x.toNat = X → y.toNat = R → R < 4294967296 → 0 < X → (x - bitW true).toNat = X - 1 ∧ (y + y1).toNat = R + V1 := by
    intro x y X R hx hy hR hX
    refine ⟨?_, ?_⟩
    · rw [BitVec.toNat_sub, one_nat, hx]
      have := x.isLt
      omega
    · rw [BitVec.toNat_add, hy, hy1]; omega
  -- behind a step with so great a rest the digit is right
  have fin : ∀ (X R : Nat), X * V1 + R = A → 4294967296 ≤ R → X ≤ 4294967296 → X ≤ Q := by
    intro X R hXR hR hX
    have m1 : X * V0 ≤ 4294967296 * V0 := Nat.mul_le_mul_right _ hX
    have e4 : X * (V1 * 4294967296 + V0) = (X * V1) * 4294967296 + X * V0 := by rw [Nat.mul_add, Nat.mul_assoc]
    rcases Nat.lt_or_ge Q X with hc | hc
    · exfalso
      have : (Q + 1) * (V1 * 4294967296 + V0) ≤ X * (V1 * 4294967296 + V0) := Nat.mul_le_mul_right _ hc
      omega
    · exact hc
  -- one round
  have round : ∀ (k : Nat) (x y : BitVec 64) (X R : Nat), x.toNat = X → y.toNat = R → X * V1 + R = A → R < 4294967296 → Q ≤ X → X ≤ 4294967297 →
      (∀ (x' y' : BitVec 64), Q < X → x'.toNat = X - 1 → y'.toNat = R + V1 → R + V1 < 4294967296 → (dvL y0 y1 u K k x' y').holds Z) → (dvL y0 y1 u K (k + 1) x y).holds Z := by
    intro k x y X R hx hy hXR hR hQX hX next
    have down : Q < X → (Tree.br (BitVec.ule 4294967296#64 (y + y1)) (K (x - bitW true)) (dvL y0 y1 u K k (x - bitW true) (y + y1))).holds Z := by
      intro hlt
      obtain ⟨d1, d2⟩ := dec x y X R hx hy hR (by omega)
      have hs : (X - 1) * V1 + (R + V1) = A := by
        have : X * V1 = (X - 1) * V1 + V1 := by
          conv => lhs; rw [show X = (X - 1) + 1 by omega]
          rw [Nat.add_mul, Nat.one_mul]
        omega
      refine ⟨fun hb => ?_, fun hb => ?_⟩
      · have hge := (big _ _ d2).1 hb
        have := fin (X - 1) (R + V1) hs hge (by omega)
        exact hK _ (by rw [d1]; omega)
      · refine next _ _ hlt d1 d2 ?_
        rcases Nat.lt_or_ge (R + V1) 4294967296 with hc | hc
        · exact hc
        · rw [(big _ _ d2).2 hc] at hb; cases hb
    refine ⟨fun hb => down ?_, fun _ => ⟨fun hb => down ((test x y X R hx hy hXR hR hX).1 hb), fun hb => ?_⟩⟩
    · have := (big _ _ hx).1 hb
      omega
    · refine hK _ ?_
      rw [hx]
      have : ¬ Q < X := fun hc => by rw [(test x y X R hx hy hXR hR hX).2 hc] at hb; cases hb
      omega
  refine round 1 q r κ ρ hq hr hdm (by omega) b2 (by omega) ?_
  intro x' y' hlt hx' hy' hlt'
  refine round 0 x' y' (κ - 1) (ρ + V1) hx' hy' ?_ hlt' (by omega) (by omega) ?_
  · have : κ * V1 = (κ - 1) * V1 + V1 := by
      conv => lhs; rw [show κ = (κ - 1) + 1 by omega]
      rw [Nat.add_mul, Nat.one_mul]
    omega
  · intro x'' y'' _ _ _ h
    omega
end Go.Rq
namespace Go.Rq
open Go
theorem dv_c {A W B : Nat} (h : A + W = B) : A ≤ B := by omega
theorem dv_d {A W R : Nat} (h : A + W = A + R) : W = R := by omega
theorem dv_e {N M : Nat} (h : M ≤ N) : N = M + (N - M) := by omega
theorem dvG_nat {B BB p k K Y H L N U32 U1 U0 Q1 U21 Q0 W : Nat} (hB : BB = B * B) (kp : 0 < k) (Kp : 0 < K) (hk : k * K = BB) (hY : Y = p * k) (hH : H < p) (hN : N = H * BB + L) (e1 : U32 = H * k + L / K)
    (e2 : U1 = L * k % BB / B) (e3 : U0 = L * k % BB % B) (f1 : U32 * B + U1 = Q1 * Y + U21) (f2 : U21 * B + U0 = Q0 * Y + W) (hW : W < Y) :
    Q1 * B + Q0 = N / p ∧ W / k = N % p := by
  have hpp : 0 < p := Nat.lt_of_le_of_lt (Nat.zero_le _) hH
  obtain ⟨a, ha⟩ : ∃ a, a = L / K := ⟨_, rfl⟩
  obtain ⟨b, hb⟩ : ∃ b, b = L % K := ⟨_, rfl⟩
  have hab : L = a * K + b := by rw [ha, hb]; exact (Nat.div_add_mod' L K).symm
  have hbK : b < K := by rw [hb]; exact Nat.mod_lt _ Kp
  have hbk : b * k < BB := by
    rw [← hk, Nat.mul_comm k K]
    exact Nat.mul_lt_mul_of_pos_right hbK kp
  have hLk : L * k = BB * a + b * k := by
    rw [hab, Nat.add_mul, Nat.mul_assoc, Nat.mul_comm K k, hk, Nat.mul_comm a]
  have hU10 : L * k % BB = b * k := by rw [hLk, Nat.mul_add_mod, Nat.mod_eq_of_lt hbk]
  rw [← ha] at e1
  rw [hU10] at e2 e3
  have hU : U1 * B + U0 = b * k := by
    rw [e2, e3]
    exact Nat.div_add_mod' (b * k) B
  have g1 : U32 * BB + b * k = (Q1 * B + Q0) * Y + W := by
    have x1 : (Q1 * B + Q0) * Y = (Q1 * Y) * B + Q0 * Y := by rw [Nat.add_mul, Nat.mul_right_comm]
    rw [x1, Nat.add_assoc, ← f2, ← Nat.add_assoc, ← Nat.add_mul, ← f1, hB, ← hU, Nat.add_mul, Nat.mul_assoc, Nat.add_assoc]
  have g2 : U32 * BB + b * k = N * k := by
    rw [hN, Nat.add_mul, hLk, e1, Nat.add_mul, Nat.mul_right_comm, Nat.add_assoc, Nat.mul_comm a]
  have g3 : ((Q1 * B + Q0) * p) * k + W = N * k := by
    rw [← g2, g1, hY, Nat.mul_assoc]
  generalize Q1 * B + Q0 = Q at g3 ⊢
  have hle : Q * p ≤ N := Nat.le_of_mul_le_mul_right (dv_c g3) kp
  obtain ⟨R, hR⟩ : ∃ R, N = Q * p + R := ⟨N - Q * p, dv_e hle⟩
  have hWR : W = R * k := by
    rw [hR, Nat.add_mul] at g3
    exact dv_d g3
  have hRp : R < p := by
    rw [hWR, hY] at hW
    exact Nat.lt_of_mul_lt_mul_right hW
  rw [hR, hWR, Nat.mul_div_cancel _ kp]
  refine ⟨?_, ?_⟩
  · rw [Nat.mul_comm Q p, Nat.mul_add_div hpp, Nat.div_eq_of_lt hRp, Nat.add_zero]
  · rw [Nat.mul_comm Q p, Nat.mul_add_mod, Nat.mod_eq_of_lt hRp]

/-- What Div64 comes to at a divisor whose shift is told. -/
def dvU (s t : Nat) (hi lo : BitVec 64) : BitVec 64 := hi <<< s ||| lo >>> t
def dvM (s : Nat) (Y lo u32 q1 : BitVec 64) : BitVec 64 := u32 * 4294967296#64 + (lo <<< s) >>> 32 - q1 * Y
def dvTG (kUU : BitVec 64 × BitVec 64 → AV) (y Y y1 y0 : BitVec 64) (s t : Nat) (hi lo : BitVec 64) : Tree AV :=
  .br (BitVec.ule y hi) .fail (.br (hi == 0#64) (.leaf (kUU (lo / y, lo % y)))
    (dvL y0 y1 ((lo <<< s) >>> 32) (fun q1 => dvL y0 y1 ((lo <<< s) &&& 4294967295#64) (fun q0 =>
        .leaf (kUU (q1 * 4294967296#64 + q0, (dvM s Y lo (dvU s t hi lo) q1 * 4294967296#64 + ((lo <<< s) &&& 4294967295#64) - q0 * Y) >>> s)))
        2 (dvM s Y lo (dvU s t hi lo) q1 / y1) (dvM s Y lo (dvU s t hi lo) q1 - dvM s Y lo (dvU s t hi lo) q1 / y1 * y1))
      2 (dvU s t hi lo / y1) (dvU s t hi lo - dvU s t hi lo / y1 * y1)))

theorem dvU_is {s t p : Nat} (hst : s + t = 64) {hi lo : BitVec 64} (h : hi.toNat < p) (hY : p * 2 ^ s ≤ 18446744073709551616) : (dvU s t hi lo).toNat = hi.toNat * 2 ^ s + lo.toNat / 2 ^ t := by
  unfold dvU
  have hb : (lo >>> t).toNat = lo.toNat / 2 ^ t := by rw [BitVec.toNat_ushiftRight, Nat.shiftRight_eq_div_pow]
  have hlt : hi.toNat * 2 ^ s < 18446744073709551616 := Nat.lt_of_lt_of_le (Nat.mul_lt_mul_of_pos_right h (Nat.two_pow_pos s)) hY
  have ha : (hi <<< s).toNat = hi.toNat * 2 ^ s := by
    rw [BitVec.toNat_shiftLeft, Nat.shiftLeft_eq]
    exact Nat.mod_eq_of_lt hlt
  have hl : lo.toNat < 2 ^ t * 2 ^ s := by
    have := lo.isLt
    rw [← Nat.pow_add, Nat.add_comm t s, hst]; exact this
  have hq : lo.toNat / 2 ^ t < 2 ^ s := Nat.div_lt_of_lt_mul hl
  have hz : (hi <<< s) &&& (lo >>> t) = 0#64 := by
    apply BitVec.eq_of_toNat_eq
    rw [BitVec.toNat_and, ha, hb, Nat.mul_comm]
    apply Nat.eq_of_testBit_eq
    intro i
    rw [Nat.testBit_and]
    by_cases hi' : i < s
    · rw [Nat.testBit_two_pow_mul]
      simp
      intro h44
      omega
    · rw [Nat.testBit_lt_two_pow (Nat.lt_of_lt_of_le hq (Nat.pow_le_pow_right (by decide) (by omega)))]
      simp
  rw [← BitVec.add_eq_or_of_and_eq_zero _ _ hz, BitVec.toNat_add, ha, hb]
  apply Nat.mod_eq_of_lt
  have : (hi.toNat + 1) * 2 ^ s ≤ p * 2 ^ s := Nat.mul_le_mul_right _ h
  rw [Nat.add_mul, Nat.one_mul] at this
  omega

theorem mod_of_sub {a v q : BitVec 64} {A V : Nat} (ha : a.toNat = A) (hv : v.toNat = V) (hq : q = a / v) : q.toNat = A / V ∧ (a - q * v).toNat = A % V := by
  have h1 : q.toNat = A / V := by rw [hq, BitVec.toNat_udiv, ha, hv]
  refine ⟨h1, ?_⟩
  have hA := a.isLt
  have hle : A / V * V ≤ A := Nat.div_mul_le_self A V
  have hm : (q * v).toNat = A / V * V := by
    rw [BitVec.toNat_mul, h1, hv]
    apply Nat.mod_eq_of_lt
    omega
  have hdm := Nat.div_add_mod A V
  rw [Nat.mul_comm] at hdm
  rw [BitVec.toNat_sub, hm, ha]
  omega

theorem dvTG_holds {kUU : BitVec 64 × BitVec 64 → AV} {y Y y1 y0 : BitVec 64} {s t p Yn V1 V0 : Nat} (hst : s + t = 64) (hy : y.toNat = p) (hYb : Y.toNat = Yn) (h1 : y1.toNat = V1) (h0 : y0.toNat = V0) (hYk : Yn = p * 2 ^ s) (hYV : Yn = V1 * 4294967296 + V0)
    (hV1 : 2147483648 ≤ V1) (hV1' : V1 < 4294967296) (hV0 : V0 < 4294967296) {hi lo : BitVec 64} (hh : hi.toNat < p) {Z : AV → Prop}
    (hZ : Z (kUU (BitVec.ofNat 64 ((hi.toNat * 18446744073709551616 + lo.toNat) / p), BitVec.ofNat 64 ((hi.toNat * 18446744073709551616 + lo.toNat) % p)))) : (dvTG kUU y Y y1 y0 s t hi lo).holds Z := by
  have hlo : lo.toNat < 18446744073709551616 := lo.isLt
  have hYlt : Yn < 18446744073709551616 := by rw [← hYb]; exact Y.isLt
  refine ⟨fun hb => ?_, fun _ => ⟨fun hb => ?_, fun _ => ?_⟩⟩
  · exfalso
    have : y.toNat ≤ hi.toNat := by simpa [BitVec.ule] using hb
    omega
  · have e : hi = 0#64 := by simpa using hb
    subst e
    have e0 : (0#64).toNat * 18446744073709551616 + lo.toNat = lo.toNat := by simp
    rw [e0] at hZ
    have e1 : lo / y = BitVec.ofNat 64 (lo.toNat / p) := by
      apply BitVec.eq_of_toNat_eq
      rw [BitVec.toNat_udiv, hy, BitVec.toNat_ofNat, Nat.mod_eq_of_lt]
      exact Nat.lt_of_le_of_lt (Nat.div_le_self _ _) hlo
    have e2 : lo % y = BitVec.ofNat 64 (lo.toNat % p) := by
      apply BitVec.eq_of_toNat_eq
      rw [BitVec.toNat_umod, hy, BitVec.toNat_ofNat]
      exact (Nat.mod_eq_of_lt (Nat.lt_of_le_of_lt (Nat.mod_le _ _) hlo)).symm
    show Z (kUU (lo / y, lo % y))
    rw [e1, e2]; exact hZ
  · have hk : 2 ^ s * 2 ^ t = 18446744073709551616 := by rw [← Nat.pow_add, hst]
    have u32 := dvU_is (p := p) hst (hi := hi) (lo := lo) hh (by omega)
    have s10 : (lo <<< s).toNat = lo.toNat * 2 ^ s % 18446744073709551616 := by rw [BitVec.toNat_shiftLeft, Nat.shiftLeft_eq]
    have u1 : ((lo <<< s) >>> 32).toNat = lo.toNat * 2 ^ s % 18446744073709551616 / 4294967296 := by
      rw [BitVec.toNat_ushiftRight, Nat.shiftRight_eq_div_pow, s10]
    have u0 : ((lo <<< s) &&& 4294967295#64).toNat = lo.toNat * 2 ^ s % 18446744073709551616 % 4294967296 := by
      rw [BitVec.toNat_and, s10]
      show _ &&& (2 ^ 32 - 1) = _
      rw [Nat.and_two_pow_sub_one_eq_mod]
    obtain ⟨U32, hU32⟩ : ∃ x, x = hi.toNat * 2 ^ s + lo.toNat / 2 ^ t := ⟨_, rfl⟩
    obtain ⟨U1, hU1⟩ : ∃ x, x = lo.toNat * 2 ^ s % 18446744073709551616 / 4294967296 := ⟨_, rfl⟩
    obtain ⟨U0, hU0⟩ : ∃ x, x = lo.toNat * 2 ^ s % 18446744073709551616 % 4294967296 := ⟨_, rfl⟩
    have l1 : U1 < 4294967296 := by omega
    have l0 : U0 < 4294967296 := by omega
    have lU : U32 < V1 * 4294967296 + V0 := by
      have hq : lo.toNat / 2 ^ t < 2 ^ s := Nat.div_lt_of_lt_mul (by rw [Nat.mul_comm, hk]; exact hlo)
      have : (hi.toNat + 1) * 2 ^ s ≤ p * 2 ^ s := Nat.mul_le_mul_right _ hh
      rw [Nat.add_mul, Nat.one_mul] at this
      omega
    rw [← hU32] at u32
    rw [← hU1] at u1
    rw [← hU0] at u0
    generalize dvU s t hi lo = x32 at u32
    obtain ⟨m1, m2⟩ := mod_of_sub u32 h1 rfl
    refine dvL_holds h0 h1 u1 m1 m2 hV1 hV1' hV0 l1 lU ?_
    intro q1 hq1
    rw [← hYV] at hq1 lU
    have hYp : 0 < Yn := by omega
    obtain ⟨Q1, hQ1⟩ : ∃ x, x = (U32 * 4294967296 + U1) / Yn := ⟨_, rfl⟩
    obtain ⟨U21, hU21⟩ : ∃ x, x = (U32 * 4294967296 + U1) % Yn := ⟨_, rfl⟩
    have f1 : U32 * 4294967296 + U1 = Q1 * Yn + U21 := by
      have := Nat.div_add_mod (U32 * 4294967296 + U1) Yn
      rw [← hQ1, ← hU21, Nat.mul_comm] at this
      exact this.symm
    have l21 : U21 < Yn := by rw [hU21]; exact Nat.mod_lt _ hYp
    rw [← hQ1] at hq1
    have m21 : (dvM s Y lo x32 q1).toNat = U21 := by
      unfold dvM
      rw [BitVec.toNat_sub, BitVec.toNat_add, BitVec.toNat_mul, BitVec.toNat_mul, two32, u32, u1, hq1, hYb]
      omega
    generalize dvM s Y lo x32 q1 = x21 at m21
    obtain ⟨n1, n2⟩ := mod_of_sub m21 h1 rfl
    refine dvL_holds h0 h1 u0 n1 n2 hV1 hV1' hV0 l0 (by omega) ?_
    intro q0 hq0
    rw [← hYV] at hq0
    obtain ⟨Q0, hQ0⟩ : ∃ x, x = (U21 * 4294967296 + U0) / Yn := ⟨_, rfl⟩
    obtain ⟨W, hW⟩ : ∃ x, x = (U21 * 4294967296 + U0) % Yn := ⟨_, rfl⟩
    have f2 : U21 * 4294967296 + U0 = Q0 * Yn + W := by
      have := Nat.div_add_mod (U21 * 4294967296 + U0) Yn
      rw [← hQ0, ← hW, Nat.mul_comm] at this
      exact this.symm
    have lW : W < Yn := by rw [hW]; exact Nat.mod_lt _ hYp
    rw [← hQ0] at hq0
    have mW : (x21 * 4294967296#64 + ((lo <<< s) &&& 4294967295#64) - q0 * Y).toNat = W := by
      rw [BitVec.toNat_sub, BitVec.toNat_add, BitVec.toNat_mul, BitVec.toNat_mul, two32, m21, u0, hq0, hYb]
      omega
    obtain ⟨g1, g2⟩ := dvG_nat (B := 4294967296) (BB := 18446744073709551616) rfl (Nat.two_pow_pos s) (Nat.two_pow_pos t) hk hYk hh rfl hU32 hU1 hU0 f1 f2 lW
    have e1 : q1 * 4294967296#64 + q0 = BitVec.ofNat 64 ((hi.toNat * 18446744073709551616 + lo.toNat) / p) := by
      apply BitVec.eq_of_toNat_eq
      rw [BitVec.toNat_add, BitVec.toNat_mul, two32, hq1, hq0, BitVec.toNat_ofNat, ← g1, Nat.mod_add_mod]
    have e2 : (x21 * 4294967296#64 + ((lo <<< s) &&& 4294967295#64) - q0 * Y) >>> s = BitVec.ofNat 64 ((hi.toNat * 18446744073709551616 + lo.toNat) % p) := by
      apply BitVec.eq_of_toNat_eq
      rw [BitVec.toNat_ushiftRight, Nat.shiftRight_eq_div_pow, mW, g2, BitVec.toNat_ofNat]
      refine (Nat.mod_eq_of_lt ?_).symm
      have h5 := Nat.mod_lt (hi.toNat * 18446744073709551616 + lo.toNat) (Nat.lt_of_le_of_lt (Nat.zero_le _) hh)
      have hpY : p * 1 ≤ p * 2 ^ s := Nat.mul_le_mul_left _ (Nat.two_pow_pos s)
      rw [Nat.mul_one, ← hYk] at hpY
      exact Nat.lt_of_lt_of_le h5 (Nat.le_of_lt (Nat.lt_of_le_of_lt hpY hYlt))
    show Z (kUU (_, _))
    rw [e1, e2]
    exact hZ
end Go.Rq

/- Primes: Euclid, Fermat, Pocklington. Plain numbers; no program. -/
namespace Go.Rq

end Go.Rq

/- The great field's prime and the great groups' prime are primes. -/
namespace Go.Rq

end Go.Rq

/- What the words' functions reckon, as numbers. -/
namespace Go.Rq
open Go

theorem mul64_nat (x y : BitVec 64) : (mul64 x y).2.toNat + 18446744073709551616 * (mul64 x y).1.toNat = x.toNat * y.toNat := by
  have hx := x.isLt
  have hy := y.isLt
  have e1 : (mul64 x y).2.toNat = x.toNat * y.toNat % 18446744073709551616 := BitVec.toNat_mul x y
  have h : x.toNat * y.toNat < 18446744073709551616 * 18446744073709551616 := Nat.mul_lt_mul'' hx hy
  have e2 : (mul64 x y).1.toNat = x.toNat * y.toNat / 18446744073709551616 := by
    show (BitVec.ofNat 64 (x.toNat * y.toNat / 2 ^ 64)).toNat = _
    rw [BitVec.toNat_ofNat]
    exact Nat.mod_eq_of_lt (Nat.div_lt_of_lt_mul h)
  rw [e1, e2]
  omega

end Go.Rq

/- A function whose answer and whose writing are told for what it is handed. -/
namespace Go.Rq
open Go

/-- What comes of a function, and what lies behind it. (A structure: nothing looks behind it by itself.) -/
structure OutH (t : Tree (AV × AH)) (r : AV) (H : AH) : Prop where
  out : t.holds (fun q => q.1 = r ∧ ∀ id B, H.get id = some B → q.2.get id = some B)
/-- What is told of a function is so. -/
def SpecOk (P : Program) (f : Nat) (spec : List AV → AH → Nat → Option (AV × AH)) : Prop := ∀ args h n r h', spec args h n = some (r, h') →
  ∃ E sym tab lf fn c, EnvOk P E ∧ P.follows .mixedOrders = true ∧ P.funcs.toList[f]? = some fn ∧ fn.body = some c ∧ codeOk E c = true ∧ TabOk P n tab c ∧
    OutH (afun P E sym tab lf f args h n) r h'

def deepS (spec : List AV → AH → Nat → Option (AV × AH)) (kk : Nat) (rd : Bool) (args : List AV) (h : AH) (z : Nat) : Option (Bool × AV × AH) :=
  match closeI h 65536 (args.foldr nm3 []) [] with
  | none => none
  | some ids => match spec (args.map (mv3 (inM ids))) (inH h (inM ids) (!rd) ids 0) ids.length with
    | none => none
    | some (r, h') => backL kk rd ids z r h' (closeX h' ids.length 65536 (nm3 r (bif rd then [] else namesH h' ids.length)) [])

theorem deepS_ok {P : Program} {f kk : Nat} {rd : Bool} {spec : List AV → AH → Nat → Option (AV × AH)} (X : SpecOk P f spec) : ActOk P kk f (deepS spec kk rd) := by
  have same : ∀ {args : List AV} {h h' : AH} {z : Nat} {x : Bool × AV × AH}, (∀ ids, closeI h 65536 (args.foldr nm3 []) [] = some ids → closeI h' 65536 (args.foldr nm3 []) [] = some ids ∧ ∀ i ∈ ids, h.get i = h'.get i) →
      deepS spec kk rd args h z = some x → deepS spec kk rd args h' z = some x := by
    intro args h h' z x hh hg
    unfold deepS at hg ⊢
    split at hg
    · cases hg
    · rename_i ids hi
      obtain ⟨h1, h2⟩ := hh ids hi
      have e : ∀ (l : List Nat) (n : Nat), (∀ i ∈ l, h.get i = h'.get i) → inH h (inM ids) (!rd) l n = inH h' (inM ids) (!rd) l n := by
        intro l
        induction l with
        | nil => intro n _; rfl
        | cons i t ih =>
          intro n hl
          simp only [inH]
          rw [hl i (by simp), ih (n + 1) (fun j hj => hl j (by simp [hj]))]
      simp only [h1]
      rw [← e ids 0 h2]
      exact hg
  have hin : ∀ {args : List AV} {h : AH} {ids : List Nat}, closeI h 65536 (args.foldr nm3 []) [] = some ids → ∀ i ∈ ids, ∃ B, h.get i = some B := fun e => closeI_in e (fun i hi => by simp at hi)
  refine ⟨?_, fun args h h' z x hle hg => same (fun ids hi => ⟨closeI_mono hle hi, fun i hm => ?_⟩) hg, fun F ρ args xs z u h w x hx hw hu hg => ?_, fun args h z c' r ups hg => ?_⟩
  · intro F ρ args xs h z r ups w hg hx hw hz
    unfold deepS at hg
    split at hg
    · cases hg
    rename_i ids hi
    split at hg
    · cases hg
    rename_i r0 h0 hq
    unfold backL at hg
    obtain ⟨hc, hg⟩ := cond_some hg
    simp only [Bool.and_eq_true] at hc
    obtain ⟨c1, c2, c3⟩ := hc
    simp at hg
    obtain ⟨rfl, rfl⟩ := hg
    have hnd : ids.Nodup := closeI_nodup hi List.nodup_nil
    obtain ⟨E, sym, tab, lf, fn, c, hE, hm, hf, hb, hok, htab, hrun⟩ := X _ _ _ _ _ hq
    have hcall := afun_calls hE hm hf hb hok htab (K := fun a h' => a = r0 ∧ ∀ id B, h0.get id = some B → h'.get id = some B) hrun.out (F := deepF ρ h (bif rd then [] else ids) w)
      (Rvs.mapS (mv3_ok NmOk.ins) hx) (deep_in hw rd hnd) (fun id hid => by
        have : ids[id]? = none := by rw [List.getElem?_eq_none_iff]; exact hid
        simp [Ren.ins, this])
    refine Calls.mono hcall ?_
    rintro e w' ⟨v, q, h', ρ', rfl, ⟨rfl, hk⟩, hrv, hrw, hsame⟩
    have hrw := hrw.sub hk
    have c1 := Nat.le_of_ble_eq_true c1
    refine ⟨v, ρ.out ρ' _ z, rfl, Ren.le_out hz c1, fun j hj => ?_, mv3_ok (NmOk.out hz c1 hsame) _ _ hrv, ?_⟩
    · exact (Ren.out_old (fun hh => hj ⟨hh.1, by omega⟩)).1
    · exact deep_out hw (hin hi) hz c1 (nodB_spec c2) (newOk_spec c3) hrw hsame
  · obtain ⟨B, hB⟩ := hin hi i hm
    rw [hB, hle i B hB]
  · refine same (fun ids hi => ?_) hg
    have hn : ∀ i ∈ args.foldr nm3 [], ρ i ≠ none := fun i hm => (foldr_named nm3_named hx hm).resolve_left (by simp)
    have h1 := closeI_local hw hu hn hi
    refine ⟨h1, fun i hm => ?_⟩
    obtain ⟨B, hB⟩ := hin h1 i hm
    obtain ⟨b, o, g1, _⟩ := hw.blk i B hB
    rw [AH.get_append, if_neg]
    rintro ⟨p, hp, rfl⟩
    rw [hu p hp] at g1; cases g1
  · unfold deepS at hg
    split at hg
    · cases hg
    rename_i ids hi
    split at hg
    · cases hg
    unfold backL at hg
    obtain ⟨hc, hg⟩ := cond_some hg
    simp only [Bool.and_eq_true] at hc
    have c1 := Nat.le_of_ble_eq_true hc.1
    simp at hg
    obtain ⟨-, -, rfl⟩ := hg
    intro p hp
    rcases List.mem_append.1 hp with hp | hp
    · have := newH_dom p hp
      exact .inl ⟨this.1, by omega⟩
    · refine .inr (hin hi p.1 ?_)
      have := oldH_dom p hp
      cases rd with
      | true => simp at this
      | false => exact this
end Go.Rq

/- Contracts of functions that read one slice. -/
namespace Go.Rq
open Go

def s1V {β : Type} (B : Cod β) (ok : SA × List AV → Bool) (G : SA × List AV → β) (args : List AV) (h : AH) : Option (Bool × AV × AH) := match args with
  | [a] => match readS a h with
    | some x => some (ok x, B.enc (G x), [])
    | none => none
  | _ => none
def ok1 {α : Type} (sh : SA → Bool) (A : CC α) (x : SA × List AV) : Bool := sh x.1 && (decS A x).isSome
def g1 {α β : Type} (A : CC α) (G : List α → β) (x : SA × List AV) : β := G ((decS A x).getD [])

theorem s1V_ok {α β : Type} {P : Program} {E : SA → Env} {sym : List Tmp} {lf f : Nat} {c : Code} {fn : Func} (hE : ∀ s, EnvOk P (E s)) (hm : P.follows .mixedOrders = true) (hf : P.funcs.toList[f]? = some fn) (hb : fn.body = some c)
    (hok : ∀ s, codeOk (E s) c = true) {A : CC α} {B : Cod β} {sh : SA → Bool} {G : List α → β}
    (hr : ∀ s c1 t (l : List α), sh s = true → l.length = s.len → GivesH (afun P (E s) sym (fun _ => none) lf f [s.at 0 c1] (hpS 0 s t (encL A l)) 1) (B.val (G l))) :
    HeapOk P f (s1V B (ok1 sh A) (g1 A G)) := by
  have key : ∀ {args : List AV} {h : AH} {o : Bool × AV × AH}, s1V B (ok1 sh A) (g1 A G) args h = some o → ∃ a x, args = [a] ∧ readS a h = some x ∧ o = (ok1 sh A x, B.enc (g1 A G x), []) := by
    intro args h o hg
    unfold s1V at hg
    split at hg
    · rename_i a
      split at hg
      · rename_i x hx
        simp at hg
        exact ⟨a, x, rfl, hx, hg.symm⟩
      · cases hg
    · cases hg
  have again : ∀ {args : List AV} {h h' : AH} {o : Bool × AV × AH}, s1V B (ok1 sh A) (g1 A G) args h = some o → (∀ i, i ∈ idsOf args → ∀ B, h.get i = some B → h'.get i = some B) → s1V B (ok1 sh A) (g1 A G) args h' = some o := by
    intro args h h' o hg hh
    obtain ⟨a, x, rfl, hx, rfl⟩ := key hg
    have ma : a ∈ [a] := by simp
    unfold s1V
    simp only [readS_congr ma hh hx]
  refine ⟨?_, fun args h h' x hle hg => again hg (fun i _ B hB => hle i B hB), fun ρ args xs z b h x hx hz hg => again hg (fun i hi B hB => by
      rw [AH.get_cons, if_neg (fun e => hx.ids_ne hz i hi e.symm)] at hB; exact hB), fun args h c' r ups hg => ?_, fun args h h' x hh hg => again hg hh⟩
  · intro F' ρ args xs h q ups w hg hx hw
    obtain ⟨a, x, rfl, h1, ho⟩ := key hg
    simp only [Prod.mk.injEq] at ho
    obtain ⟨hsh, rfl, rfl⟩ := ho
    obtain ⟨u, ys, rfl, hu, hys⟩ := hx.uncons
    obtain rfl := hys.unnil
    have hsh := hsh.symm
    unfold ok1 at hsh
    simp only [Bool.and_eq_true] at hsh
    obtain ⟨g1', g2⟩ := hsh
    obtain ⟨l, hl⟩ := Option.isSome_iff_exists.1 g2
    obtain ⟨s1, cs1⟩ := x
    obtain ⟨X, x1, x2, x3⟩ := hand_of hw h1 hl hu
    have hW := hRW hw.gw (w := w) (l := [X]) (fun x hx => by
      simp only [List.mem_cons, List.not_mem_nil, or_false] at hx
      subst hx
      exact ⟨_, x3⟩)
    have r1 : Rv (hRen [X]) (s1.at 0 X.cap) u := by have := hRen_at (l := [X]) (j := 0) rfl x3; rw [x1] at this; exact this
    have hheap : hHeap 0 [X] = hpS 0 s1 X.t (encL A l) := by
      rw [← x1, ← x2]
      show hpS 0 X.s X.t X.cs ++ [] = _
      rw [List.append_nil]
    rw [hheap] at hW
    have hval : Rq.g1 A G (s1, cs1) = G l := by simp [Rq.g1, hl]
    rw [hval]
    have := afun_calls (hE s1) hm hf hb (hok s1) (tabOk_none c) (K := fun q _ => flat q = some (B.val (G l))) (hr s1 X.cap X.t l g1' (decL_len hl)).out (F := frameOf w)
      (Rvs.cons r1 .nil) hW (fun id hid => hRen_none id (by simpa using hid))
    refine Calls.mono this ?_
    rintro e w' ⟨v', q', h', ρ', rfl, hk', hrv, hrw, _⟩
    have := hrv.flat_eq hk'
    subst this
    exact ⟨_, rfl, .of_flat (B.h1 _), hw.below hrw.to_below⟩
  · obtain ⟨a, x, _, _, ho⟩ := key hg
    simp only [Prod.mk.injEq] at ho
    obtain ⟨_, _, rfl⟩ := ho
    simp
/-- A list of which the length is told, by its places. -/
def lstB (b : Nat → Int) : Nat → Nat → List Int
  | _, 0 => []
  | i, n + 1 => b i :: lstB b (i + 1) n
theorem lstB_is : ∀ (l : List Int) (f : Nat → Int) (j : Nat), (∀ i, i < l.length → f (j + i) = l.getD i 0) → lstB f j l.length = l
  | [], f, j, h => rfl
  | x :: t, f, j, h => by
    simp only [List.length_cons, lstB]
    have h0 := h 0 (by simp)
    rw [Nat.add_zero] at h0
    rw [h0, lstB_is t f (j + 1) (fun i hi => by
      have := h (i + 1) (by simpa using hi)
      rw [show j + 1 + i = j + (i + 1) by omega, this]; simp)]
    simp
theorem lstB_of (l : List Int) : l = lstB (fun i => l.getD i 0) 0 l.length := (lstB_is l _ 0 (fun i _ => by rw [Nat.zero_add])).symm
end Go.Rq

/- Operations, reckoned by small steps: what they come to is what the abstract machine's come to. -/
namespace Go.Rq
open Go

/-! Integers. -/
noncomputable def wrapF (k : IntKind) (z : Int) : Int := match k with
  | .u8 => Int.emod z (.ofNat 256)
  | .u16 => Int.emod z (.ofNat 65536)
  | .u32 => Int.emod z (.ofNat 4294967296)
  | .u64 => Int.emod z (.ofNat 18446744073709551616)
  | .i64 => match z with
    | .ofNat n => cond (Nat.blt n 9223372036854775808) (.ofNat n) (IntKind.i64.wrap (.ofNat n))
    | .negSucc n => cond (Nat.blt n 9223372036854775808) (.negSucc n) (IntKind.i64.wrap (.negSucc n))
  | k => k.wrap z
theorem blt_lt {n m : Nat} (h : Nat.blt n m = true) : n < m := Nat.le_of_ble_eq_true h
theorem wrap_idF {n : Int} (h0 : -9223372036854775808 ≤ n) (h1 : n < 9223372036854775808) : IntKind.i64.wrap n = n := by
  simp [IntKind.wrap, IntKind.bits, IntKind.signed]
  split <;> omega
theorem wrapF_eq (k : IntKind) (z : Int) : wrapF k z = k.wrap z := by
  cases k with
  | u8 => simp [wrapF, IntKind.wrap, IntKind.bits, IntKind.signed]; rfl
  | u16 => simp [wrapF, IntKind.wrap, IntKind.bits, IntKind.signed]; rfl
  | u32 => simp [wrapF, IntKind.wrap, IntKind.bits, IntKind.signed]; rfl
  | u64 => simp [wrapF, IntKind.wrap, IntKind.bits, IntKind.signed]; rfl
  | i64 =>
    simp only [wrapF]
    split
    · rename_i n
      cases hb : Nat.blt n 9223372036854775808 with
      | false => rw [cond_false]
      | true =>
        have := blt_lt hb
        rw [cond_true]
        exact (wrap_idF (n := (n : Int)) (by omega) (by omega)).symm
    · rename_i n
      cases hb : Nat.blt n 9223372036854775808 with
      | false => rw [cond_false]
      | true =>
        have := blt_lt hb
        rw [cond_true]
        exact (wrap_idF (by omega) (by omega)).symm
  | _ => rfl

def iEq : Int → Int → Bool
  | .ofNat a, .ofNat b => Nat.beq a b
  | .negSucc a, .negSucc b => Nat.beq a b
  | _, _ => false
def iLt : Int → Int → Bool
  | .ofNat a, .ofNat b => Nat.blt a b
  | .negSucc _, .ofNat _ => true
  | .ofNat _, .negSucc _ => false
  | .negSucc a, .negSucc b => Nat.blt b a
theorem iEq_eq (m n : Int) : iEq m n = (m == n) := by
  cases hb : iEq m n with
  | true =>
    unfold iEq at hb
    split at hb
    · rw [(beq_iff _ _).1 hb]; simp
    · rw [(beq_iff _ _).1 hb]; simp
    · cases hb
  | false =>
    unfold iEq at hb
    split at hb
    · have := beq_off.1 hb
      symm; simp; omega
    · have := beq_off.1 hb
      symm; simp; omega
    · symm
      cases m with
      | ofNat a => cases n with
        | ofNat b => rename_i h1 h2; exact absurd rfl (h1 a b rfl)
        | negSucc b => rfl
      | negSucc a => cases n with
        | ofNat b => rfl
        | negSucc b => rename_i h1 h2; exact absurd rfl (h2 a b rfl)
theorem blt_dec (a b : Nat) : Nat.blt a b = decide (a < b) := by
  cases hb : Nat.blt a b with
  | true => simp [blt_lt hb]
  | false =>
    symm; simp
    rcases Nat.lt_or_ge a b with h | h
    · rw [show Nat.blt a b = true from Nat.ble_eq_true_of_le h] at hb; cases hb
    · exact h
theorem iLt_eq (m n : Int) : iLt m n = decide (m < n) := by
  cases m with
  | ofNat a => cases n with
    | ofNat b => simp only [iLt, blt_dec]; congr 1; apply propext; exact Int.ofNat_lt.symm
    | negSucc b => simp only [iLt]; symm; simp; omega
  | negSucc a => cases n with
    | ofNat b => simp only [iLt]; symm; simp; omega
    | negSucc b => simp only [iLt, blt_dec]; congr 1; apply propext; constructor <;> intro h <;> omega

/-- Two to the width of a kind without a sign. -/
def uMod : IntKind → Option Nat
  | .u8 => some 256
  | .u16 => some 65536
  | .u32 => some 4294967296
  | .u64 => some 18446744073709551616
  | _ => none
theorem uMod_eq {k : IntKind} {M : Nat} (h : uMod k = some M) : M = 2 ^ k.bits ∧ k.signed = false := by
  cases k <;> simp [uMod] at h <;> subst h <;> exact ⟨rfl, rfl⟩
theorem wrap_nat {k : IntKind} {M : Nat} (h : uMod k = some M) (a : Nat) : k.wrap (a : Int) = ((a % M : Nat) : Int) := by
  obtain ⟨h1, h2⟩ := uMod_eq h
  subst h1
  simp [IntKind.wrap, h2]
def bitF (op : BinOp) (M a b : Nat) : Option Nat := match op with
  | .and => some (Nat.land (Nat.mod a M) (Nat.mod b M))
  | .or => some (Nat.lor (Nat.mod a M) (Nat.mod b M))
  | .xor => some (Nat.xor (Nat.mod a M) (Nat.mod b M))
  | _ => none

def bitsVv (op : BinOp) (k : IntKind) (m n : Int) : Option Value := match m, n, uMod k with
  | .ofNat a, .ofNat b, some M => match bitF op M a b with
    | some r => some (.int k (.ofNat r))
    | none => none
  | _, _, _ => none
noncomputable def intF (op : BinOp) (k : IntKind) (m n : Int) : Option Value := match op with
  | .add => some (.int k (wrapF k (Int.add m n)))
  | .sub => some (.int k (wrapF k (Int.sub m n)))
  | .mul => some (.int k (wrapF k (Int.mul m n)))
  | .eql => some (.bool (iEq m n))
  | .neq => some (.bool (not (iEq m n)))
  | .lss => some (.bool (iLt m n))
  | .leq => some (.bool (not (iLt n m)))
  | .gtr => some (.bool (iLt n m))
  | .geq => some (.bool (not (iLt m n)))
  | .quo => match m, n with
    | .ofNat a, .ofNat (b + 1) => some (.int k (wrapF k (.ofNat (Nat.div a (b + 1)))))
    | _, _ => none
  | .rem => match m, n with
    | .ofNat a, .ofNat (b + 1) => some (.int k (.ofNat (Nat.mod a (b + 1))))
    | _, _ => none
  | op => bitsVv op k m n

theorem ofInt_nat (w a : Nat) : (BitVec.ofInt w (Int.ofNat a)).toNat = a % 2 ^ w := by
  simp [BitVec.ofInt_natCast]

theorem intF_run {P : Program} {op : BinOp} {t : TypeId} {x y : Operand} {k : IntKind} {m n : Int} {r : Value} (h : intF op k m n = some r) :
    pureRun P (do eqGuard op t x y (.int k m) (.int k n); binOp op t (.int k m) (.int k n)) = some r := by
  have hg : (do eqGuard op t x y (.int k m) (.int k n); binOp op t (.int k m) (.int k n) : Sem Value) = binOp op t (.int k m) (.int k n) := by cases op <;> rfl
  rw [hg]
  have bits : ∀ {a b M q : Nat}, uMod k = some M → bitF op M a b = some q → pureRun P (Op.intBits op k (Int.ofNat a) (Int.ofNat b)) = some (.int k (.ofNat q)) := by
    intro a b M q hM hq
    obtain ⟨h1, h2⟩ := uMod_eq hM
    have hlt : ∀ c, c % M < M := fun c => Nat.mod_lt _ (by rw [h1]; exact Nat.two_pow_pos _)
    cases op <;> simp only [bitF, Option.some.injEq, reduceCtorEq] at hq <;> subst hq <;> simp only [Op.intBits]
    · show some (Value.int k (k.wrap ((BitVec.ofInt k.bits (Int.ofNat a) &&& BitVec.ofInt k.bits (Int.ofNat b)).toNat : Int))) = _
      rw [wrap_nat hM, Nat.mod_eq_of_lt (by rw [h1]; exact BitVec.isLt _), BitVec.toNat_and, ofInt_nat, ofInt_nat, ← h1]
      rfl
    · show some (Value.int k (k.wrap ((BitVec.ofInt k.bits (Int.ofNat a) ||| BitVec.ofInt k.bits (Int.ofNat b)).toNat : Int))) = _
      rw [wrap_nat hM, Nat.mod_eq_of_lt (by rw [h1]; exact BitVec.isLt _), BitVec.toNat_or, ofInt_nat, ofInt_nat, ← h1]
      rfl
    · show some (Value.int k (k.wrap ((BitVec.ofInt k.bits (Int.ofNat a) ^^^ BitVec.ofInt k.bits (Int.ofNat b)).toNat : Int))) = _
      rw [wrap_nat hM, Nat.mod_eq_of_lt (by rw [h1]; exact BitVec.isLt _), BitVec.toNat_xor, ofInt_nat, ofInt_nat, ← h1]
      rfl
  have rest : (∀ a b, binOp op t (.int k a) (.int k b) = Op.intBits op k a b) → bitsVv op k m n = some r → pureRun P (binOp op t (.int k m) (.int k n)) = some r := by
    intro hb h2
    clear h hg
    rw [hb]
    cases m with
    | negSucc a => cases h2
    | ofNat a => cases n with
      | negSucc b => cases h2
      | ofNat b =>
        simp only [bitsVv] at h2
        cases hM : uMod k with
        | none => rw [hM] at h2; cases h2
        | some M =>
          rw [hM] at h2
          simp only at h2
          split at h2
          · rename_i q hq
            simp only [Option.some.injEq] at h2; subst h2
            exact bits hM hq
          · cases h2
  cases op with
  | add => simp only [intF, Option.some.injEq] at h; subst h; simp only [binOp, ne_eq, not_true, if_false, Op.intArith, wrapF_eq]; rfl
  | sub => simp only [intF, Option.some.injEq] at h; subst h; simp only [binOp, ne_eq, not_true, if_false, Op.intArith, wrapF_eq]; rfl
  | mul => simp only [intF, Option.some.injEq] at h; subst h; simp only [binOp, ne_eq, not_true, if_false, Op.intArith, wrapF_eq]; rfl
  | eql => simp only [intF, Option.some.injEq] at h; subst h; simp only [binOp, ne_eq, not_true, if_false, Op.intCmp, iEq_eq]; rfl
  | neq => simp only [intF, Option.some.injEq] at h; subst h; simp only [binOp, ne_eq, not_true, if_false, Op.intCmp, iEq_eq]; rfl
  | lss => simp only [intF, Option.some.injEq] at h; subst h; simp only [binOp, ne_eq, not_true, if_false, Op.intCmp, iLt_eq]; rfl
  | gtr => simp only [intF, Option.some.injEq] at h; subst h; simp only [binOp, ne_eq, not_true, if_false, Op.intCmp, iLt_eq]; rfl
  | leq =>
    simp only [intF, Option.some.injEq] at h; subst h; simp only [binOp, ne_eq, not_true, if_false, Op.intCmp, iLt_eq]
    refine congrArg (fun b => some (Value.bool b)) ?_
    by_cases hh : n < m
    · simp [hh]
    · simp [hh]; omega
  | geq =>
    simp only [intF, Option.some.injEq] at h; subst h; simp only [binOp, ne_eq, not_true, if_false, Op.intCmp, iLt_eq]
    refine congrArg (fun b => some (Value.bool b)) ?_
    by_cases hh : m < n
    · simp [hh]
    · simp [hh]; omega
  | quo =>
    simp only [intF] at h
    split at h
    · rename_i a b
      simp only [Option.some.injEq] at h; subst h
      simp only [binOp, ne_eq, not_true, if_false, Op.intDiv, wrapF_eq]
      rw [if_neg (by simp; omega)]; rfl
    · cases h
  | rem =>
    simp only [intF] at h
    split at h
    · rename_i a b
      simp only [Option.some.injEq] at h; subst h
      simp only [binOp, ne_eq, not_true, if_false, Op.intDiv]
      rw [if_neg (by simp; omega)]; rfl
    · cases h
  | and => exact rest (fun a b => by simp only [binOp, ne_eq, not_true, if_false]) h
  | or => exact rest (fun a b => by simp only [binOp, ne_eq, not_true, if_false]) h
  | xor => exact rest (fun a b => by simp only [binOp, ne_eq, not_true, if_false]) h
  | andNot => exact rest (fun a b => by simp only [binOp, ne_eq, not_true, if_false]) h
  | shl =>
    simp only [intF, bitsVv] at h
    split at h
    · simp [bitF] at h
    · cases h
  | shr =>
    simp only [intF, bitsVv] at h
    split at h
    · simp [bitF] at h
    · cases h
end Go.Rq

/- The product of two elements, as a number. -/
namespace Go.Rq
open Go

end Go.Rq

/- The curves' formulas go alike over fields that go alike; the two fields as numbers. -/
namespace Go.Rq
open Go

section
variable {A B : Type} {R : A → B → Prop} {o : FO A} {o' : FO B} {e : A → A → Bool} {e' : B → B → Bool}

end

/-! The first field as numbers. -/

end Go.Rq

/- Operations, reckoned by small steps: all kinds. -/
namespace Go.Rq
open Go

/-! Two values. -/
def amtF : AV → Option Nat
  | .u y => some y.toNat
  | .v (.int _ (.ofNat n)) => some n
  | _ => none
noncomputable def kNum (k : IntKind) : Nat := IntKind.rec 0 1 2 3 4 5 6 7 k
theorem kNum_inj {k j : IntKind} (h : Nat.beq (kNum k) (kNum j) = true) : k = j := by
  have := (beq_iff _ _).1 h
  cases k <;> cases j <;> first | rfl | (exact absurd this (by decide))
noncomputable def shV (op : BinOp) (k : IntKind) (a n : Nat) : Option (Bool × AV) := match op with
  | .shl => some (true, .v (.int k (wrapF k (.ofNat (Nat.mul a (Nat.pow 2 n))))))
  | .shr => some (true, .v (.int k (.ofNat (Nat.div a (Nat.pow 2 n)))))
  | _ => none
noncomputable def fastSh (op : BinOp) (k : IntKind) (m : Int) (b : AV) : Option (Bool × AV) := match m with
  | .ofNat a => match amtF b with
    | some n => cond (Nat.blt n k.bits) (shV op k a n) none
    | none => none
  | _ => none
noncomputable def fastI (op : BinOp) (k : IntKind) (m : Int) (b : AV) : Option (Bool × AV) := match isShift op with
  | true => fastSh op k m b
  | false => match b with
    | .v (.int j n) => cond (Nat.beq (kNum k) (kNum j)) (match intF op k m n with
      | some r => some (true, .v r)
      | none => none) none
    | _ => none
def fastU (op : BinOp) (x : BitVec 64) (b : AV) : Option (Bool × AV) := match isShift op with
  | true => match amtF b with
    | some n => match ushift op x n with
      | some r => some (true, r)
      | none => none
    | none => none
  | false => match b with
    | .u y => match ubin op x y with
      | some r => some (true, r)
      | none => match udivA op x y with
        | some r => some (!(y == 0#64), r)
        | none => none
    | .bit c => match ubin op x (bitW c) with
      | some r => some (true, r)
      | none => none
    | _ => none
noncomputable def fastBin (op : BinOp) (a b : AV) : Option (Bool × AV) := match a with
  | .v (.int k m) => fastI op k m b
  | .u x => fastU op x b
  | _ => none

theorem amtF_flat {b : AV} {n : Nat} (h : amtF b = some n) : ∃ j, flat b = some (.int j (n : Int)) ∧ toShift b = some (n : Int) := by
  unfold amtF at h
  split at h
  · simp at h; subst h; exact ⟨.u64, rfl, rfl⟩
  · simp at h; subst h; exact ⟨_, rfl, rfl⟩
  · cases h

theorem fastBin_ok {P : Program} {E : Env} {op : BinOp} {t : TypeId} {x y : Operand} {a b : AV} {q : Bool × AV} (h : fastBin op a b = some q) : binF P E op t x y a b = some q := by
  unfold fastBin at h
  split at h
  · rename_i k m
    unfold fastI at h
    split at h
    · rename_i hs
      unfold fastSh at h
      split at h
      · rename_i a
        split at h
        · rename_i n hn
          obtain ⟨hb, h⟩ := cond_some h
          have hb := blt_lt hb
          obtain ⟨j, h1, h2⟩ := amtF_flat hn
          have hmin : Nat.min n k.bits = n := Nat.min_eq_left (Nat.le_of_lt hb)
          have key : ∀ r, pureRun P (do eqGuard op t x y (.int k (Int.ofNat a)) (.int j (n : Int)); binOp op t (.int k (Int.ofNat a)) (.int j (n : Int))) = some r → binF P E op t x y (.v (.int k (Int.ofNat a))) b = some (true, .v r) := by
            intro r hr
            unfold binF
            simp only [hs, Rq.toU]
            unfold binPlain
            simp only [hs, h1, show flat (.v (.int k (Int.ofNat a))) = some (.int k (Int.ofNat a)) from rfl]
            rw [hr]
          cases op <;> simp only [shV, reduceCtorEq, Option.some.injEq] at h
          · subst h
            refine key _ ?_
            show pureRun P (Op.shift .shl k (Int.ofNat a) j (n : Int)) = _
            simp only [Op.shift]
            rw [if_neg (by omega), wrapF_eq]
            show some (Value.int k (k.wrap (Int.ofNat a * 2 ^ Nat.min n k.bits))) = _
            rw [hmin]
            congr 3
            try simp
          · subst h
            refine key _ ?_
            show pureRun P (Op.shift .shr k (Int.ofNat a) j (n : Int)) = _
            simp only [Op.shift]
            rw [if_neg (by omega)]
            show some (Value.int k ((Int.ofNat a).fdiv (2 ^ Nat.min n k.bits))) = _
            rw [hmin]
            congr 2
            have h2 : (2 : Int) ^ n = ((2 ^ n : Nat) : Int) := by simp
            rw [h2, Int.fdiv_eq_ediv_of_nonneg _ (Int.natCast_nonneg _)]
            try rfl
        · cases h
      · cases h
    · rename_i hs
      split at h
      · rename_i j n
        obtain ⟨hk, h⟩ := cond_some h
        obtain rfl : k = j := kNum_inj hk
        clear hk
        split at h
        · rename_i r hr
          simp at h; subst h
          unfold binF
          simp only [hs, Rq.toU]
          unfold binPlain
          simp only [hs, Rq.toU, Rq.aggOf, show ∀ z, flat (.v (.int k z)) = some (.int k z) from fun _ => rfl]
          rw [intF_run hr]
        · exact absurd h (by simp)
      · cases h
  · rename_i u
    unfold fastU at h
    split at h
    · rename_i hs
      split at h
      · rename_i n hn
        obtain ⟨j, h1, h2⟩ := amtF_flat hn
        split at h
        · rename_i r hr
          simp at h; subst h
          unfold binF
          simp only [hs, Rq.toU, h2, Int.toNat_natCast, hr]
          rw [show decide ((0 : Int) ≤ (n : Int)) = true by simp]
        · cases h
      · cases h
    · rename_i hs
      split at h
      · rename_i v
        have hu : ∀ r, ubin op u v = some r → binPlain P E op t x y (.u u) (.u v) = some r := by
          intro r hr
          unfold binPlain
          simp only [hs, Rq.toU, ubinB, hr]
        split at h
        · rename_i r hr
          simp at h; subst h
          unfold binF
          simp only [hs, hu r hr]
        · rename_i hn
          split at h
          · rename_i r hr
            simp at h; subst h
            have : binPlain P E op t x y (.u u) (.u v) = none := by
              unfold binPlain
              simp only [hs, Rq.toU, ubinB, hn]
            unfold binF
            simp only [hs, this, Rq.toU, hr]
          · cases h
      · rename_i v
        split at h
        · rename_i r hr
          simp at h; subst h
          have : binPlain P E op t x y (.u u) (.bit v) = some r := by
            unfold binPlain
            simp only [hs, Rq.toU, ubinB, hr]
          unfold binF
          simp only [hs, this]
        · cases h
      · cases h
  · cases h

/-! All kinds. -/
noncomputable def oOr (r : Option (Bool × AV)) (s : Option (Bool × AV × AH)) : Option (Bool × AV × AH) := match r with
  | some (c, r) => some (c, r, [])
  | none => s
noncomputable def oP (r : Option (Bool × AV)) : Option (Bool × AV × AH) := match r with
  | some (c, r) => some (c, r, [])
  | none => none
noncomputable def oLd (r : Option (Bool × AV)) : Option (Bool × AV × AH) := match r with
  | some (c, r) => some (c, r, [])
  | none => none
noncomputable def oLoad (P : Program) (E : Env) (h : AH) (t : TypeId) (a : AV) (s : Option (Bool × AV × AH)) : Option (Bool × AV × AH) := match a with
  | .ptr i off => match h.getC i with
    | some B => oLd (loadE P E.wide t B.cs off)
    | none => none
  | _ => s
noncomputable def oSt (i : Nat) (B : Blk) (cs : Option (Bool × List AV)) : Option (Bool × AV × AH) := match cs with
  | some (c, cs) => some (c, .v undef, [(i, some ⟨true, B.ty, cs⟩)])
  | none => none
noncomputable def oStore (P : Program) (E : Env) (h : AH) (t : TypeId) (a x : AV) : Option (Bool × AV × AH) := match a with
  | .ptr i off => match h.getC i with
    | some B => match B.wr with
      | true => oSt i B (storeE P E.wst t B.cs off x)
      | false => none
    | none => none
  | _ => none
def nilF : AV → Option (Bool × AV)
  | .ptr id off => some (true, .ptr id off)
  | _ => none
def oFA (P : Program) (s : TypeId) (f : Nat) (a : AV) : Option (Bool × AV) := match a with
  | .ptr id off => match P.underlying s with
    | some (.struct fs) => match fs.toList[f]? with
      | some fl => match sz P fl.type with
        | some (_ + 1) => some (true, .ptr id (off + fl.offset))
        | _ => none
      | none => none
    | _ => none
  | _ => none
def oIA (P : Program) (t : TypeId) (a ix : AV) : Option (Bool × AV) := match ix with
  | .v (.int _ (.ofNat n)) => match P.underlying t with
    | some (.array len el) => match a with
      | .ptr id off => match sz P el with
        | some m => some (Nat.blt n len, .ptr id (off + n * m))
        | none => none
      | _ => none
    | some (.slice el) => match a with
      | .slc id off len _ => match sz P el with
        | some m => some (Nat.blt n len, .ptr id (off + n * m))
        | none => none
      | .own id es k len => match sz P el with
        | some m => some (Nat.blt n len, .ptr id (k * es + n * m))
        | none => none
      | _ => none
    | _ => none
  | _ => none
def oEx (i : Nat) (a : AV) : Option (Bool × AV) := match a with
  | .tup cs => match cs[i]? with
    | some r => some (true, r)
    | none => none
  | _ => none
noncomputable def oCv (P : Program) (s d : TypeId) (a : AV) : Option (Bool × AV) := match a with
  | .v (.int _ n) => match P.underlying s, P.underlying d with
    | some (.int _), some (.int .u64) => some (true, .u (BitVec.ofInt 64 n))
    | some (.int _), some (.int k) => some (true, .v (.int k (wrapF k n)))
    | _, _ => none
  | .u x => match P.underlying s, P.underlying d with
    | some (.int _), some (.int .u64) => some (true, .u x)
    | some (.int _), some (.int k) => some (true, .v (.int k (wrapF k (.ofNat x.toNat))))
    | _, _ => none
  | _ => none
noncomputable def oUn (op : UnOp) (a : AV) : Option (Bool × AV) := match a with
  | .v (.bool b) => match op with
    | .not => some (true, .v (.bool (not b)))
    | _ => none
  | .lit b => match op with
    | .not => some (true, .v (.bool (not b)))
    | _ => none
  | .v (.int k n) => match op with
    | .neg => some (true, .v (.int k (wrapF k (Int.sub (.ofNat 0) n))))
    | .xor => match n, uMod k with
      | .ofNat a, some M => some (true, .v (.int k (.ofNat (Nat.xor (Nat.mod (Nat.pred M) M) (Nat.mod a M)))))
      | _, _ => none
    | _ => none
  | _ => none
noncomputable def oAct (ro : Bool) (id kk : Nat) (r : Option (Bool × AV × AH)) : Option (Bool × AV × AH) := match ro with
  | false => r
  | true => match r with
    | some (c, r, ups) => match allB id kk ups with
      | true => some (c, r, ups)
      | false => none
    | none => none
noncomputable def oCallT (E : Env) (h : AH) (id fid : Nat) (as : List AV) (s : Option (Bool × AV × AH)) : Option (Bool × AV × AH) := match E.pure fid with
  | some g => oP (g as)
  | none => match E.heap fid with
    | some _ => s
    | none => match E.lay fid with
      | some _ => s
      | none => match E.act fid with
        | some g => oAct (memN fid E.ro) id E.kk (g as h id)
        | none => none
noncomputable def oCallV (E : Env) (ev : Operand → AV) (h : AH) (id : Nat) (f : Operand) (args : List Operand) (s : Option (Bool × AV × AH)) : Option (Bool × AV × AH) := match f with
  | .func fid => frcL frc2 (maps ev args) fun as => oCallT E h id fid as s
  | _ => s
noncomputable def oCall (E : Env) (ev : Operand → AV) (h : AH) (id : Nat) (c : Call) (s : Option (Bool × AV × AH)) : Option (Bool × AV × AH) := match c.callee with
  | .value f => oCallV E ev h id f c.args.toList s
  | _ => s

noncomputable def fastOp (P : Program) (E : Env) (ev : Operand → AV) (h : AH) (id : Nat) (op : Op) : Option (Bool × AV × AH) := match op with
  | .move x => some (true, ev x, [])
  | .assign x => some (true, ev x, [])
  | .binOp o t x y u => oOr (fastBin o (ev x) (ev y)) (effOp P E ev h id (.binOp o t x y u))
  | .load t a => oLoad P E h t (ev a) (effOp P E ev h id (.load t a))
  | .store t a x => oStore P E h t (ev a) (ev x)
  | .nilCheck x => oOr (nilF (ev x)) (effOp P E ev h id (.nilCheck x))
  | .fieldAddr s x f => oP (oFA P s f (ev x))
  | .indexAddr t x ix => oOr (oIA P t (ev x) (ev ix)) (effOp P E ev h id (.indexAddr t x ix))
  | .extract x i => oOr (oEx i (ev x)) (effOp P E ev h id (.extract x i))
  | .convert s d x => oOr (oCv P s d (ev x)) (effOp P E ev h id (.convert s d x))
  | .unOp o t x => oOr (oUn o (ev x)) (effOp P E ev h id (.unOp o t x))
  | .call c => oCall E ev h id c (effOp P E ev h id (.call c))
  | op => effOp P E ev h id op
end Go.Rq

/- Operations reckoned by small steps come to what the abstract machine's come to. -/
namespace Go.Rq
open Go

theorem oOr_ok {r : Option (Bool × AV)} {s : Option (Bool × AV × AH)} {x : Bool × AV × AH} (h : oOr r s = some x) (hr : ∀ c v, r = some (c, v) → s = some (c, v, [])) : s = some x := by
  unfold oOr at h
  split at h
  · rw [hr _ _ rfl]; exact h
  · exact h

theorem xor_max {k : IntKind} {M : Nat} (h : uMod k = some M) : k.max = Int.ofNat (Nat.pred M) := by
  cases k <;> simp [uMod] at h <;> subst h <;> rfl

theorem intBits_xor {P : Program} {k : IntKind} {M a b : Nat} (hM : uMod k = some M) : pureRun P (Op.intBits .xor k (Int.ofNat a) (Int.ofNat b)) = some (.int k (.ofNat (Nat.xor (Nat.mod a M) (Nat.mod b M)))) := by
  obtain ⟨h1, h2⟩ := uMod_eq hM
  simp only [Op.intBits]
  show some (Value.int k (k.wrap ((BitVec.ofInt k.bits (Int.ofNat a) ^^^ BitVec.ofInt k.bits (Int.ofNat b)).toNat : Int))) = _
  rw [wrap_nat hM, Nat.mod_eq_of_lt (by rw [h1]; exact BitVec.isLt _), BitVec.toNat_xor, ofInt_nat, ofInt_nat, ← h1]
  rfl

theorem pureRun_bind {α β : Type} {P : Program} {f : α → Sem β} : ∀ {s : Sem α} {a : α}, pureRun P s = some a → pureRun P (s >>= f) = pureRun P (f a) := by
  intro s a h
  induction s with
  | pure b => simp only [pureRun, Option.some.injEq] at h; subst h; rfl
  | program k ih => simp only [pureRun] at h; exact ih _ h
  | _ => simp only [pureRun] at h; cases h
theorem pureRun_underlying {P : Program} {t : TypeId} {d : TypeDesc} (h : P.underlying t = some d) : pureRun P (underlying t) = some d := by
  show pureRun P (match P.underlying t with
    | some d => pure d
    | none => stuck "no such type") = _
  rw [h]; rfl
theorem convert_int {P : Program} {s d : TypeId} {k j : IntKind} {a : TypeDesc} {n : Int} (h1 : P.underlying s = some a) (h2 : P.underlying d = some (.int k)) : pureRun P (convert s d (.int j n)) = some (.int k (wrapF k n)) := by
  rw [wrapF_eq]
  unfold convert
  rw [pureRun_bind (pureRun_underlying h1), pureRun_bind (pureRun_underlying h2)]
  cases a <;> rfl

theorem oCv_ok {P : Program} {E : Env} {ev : Operand → AV} {h : AH} {id : Nat} {s d : TypeId} {x : Operand} {c : Bool} {v : AV} (e : oCv P s d (ev x) = some (c, v)) : effOp P E ev h id (.convert s d x) = some (c, v, []) := by
  have main : isSl (ev x) = false → effBytes P id s d (ev x) = none → opPure P E ev (.convert s d x) = some (c, v) → effOp P E ev h id (.convert s d x) = some (c, v, []) := by
    intro h1 h2 h3
    simp only [effOp, isMark, h1, h2, h3, Bool.and_false]
  unfold oCv at e
  split at e
  · rename_i j n hx
    refine main (by rw [hx]; rfl) (by rw [hx]; unfold effBytes; split <;> simp_all) ?_
    simp only [opPure, hx, Rq.toU, show flat (.v (.int j n)) = some (.int j n) from rfl]
    split at e
    · rename_i a h1 h2
      simp at e; obtain ⟨rfl, rfl⟩ := e
      simp only [h1, h2]
    · rename_i a k hk h1 h2
      simp at e; obtain ⟨rfl, rfl⟩ := e
      rw [h1, h2]
      have hc := convert_int (n := n) (j := j) h1 h2
      cases k with
      | u64 => exact absurd rfl hk
      | _ => simp only [hc]
    · cases e
  · rename_i u hx
    refine main (by rw [hx]; rfl) (by rw [hx]; unfold effBytes; split <;> simp_all) ?_
    simp only [opPure, hx, Rq.toU]
    split at e
    · rename_i a h1 h2
      simp at e; obtain ⟨rfl, rfl⟩ := e
      simp only [h1, h2]
    · rename_i a k hk h1 h2
      simp at e; obtain ⟨rfl, rfl⟩ := e
      rw [h1, h2]
      cases k with
      | u64 => exact absurd rfl hk
      | _ => simp only [wrapF_eq]; rfl
    · cases e
  · cases e

theorem oUn_ok {P : Program} {E : Env} {ev : Operand → AV} {h : AH} {id : Nat} {o : UnOp} {t : TypeId} {x : Operand} {c : Bool} {v : AV} (e : oUn o (ev x) = some (c, v)) : effOp P E ev h id (.unOp o t x) = some (c, v, []) := by
  have main : opPure P E ev (.unOp o t x) = some (c, v) → effOp P E ev h id (.unOp o t x) = some (c, v, []) := by
    intro h3
    simp only [effOp, h3]
  refine main ?_
  unfold oUn at e
  split at e
  · rename_i b hx
    split at e
    · simp at e; obtain ⟨rfl, rfl⟩ := e
      simp only [opPure, hx, Rq.toU, show flat (.v (.bool b)) = some (.bool b) from rfl]
      rfl
    · cases e
  · rename_i b hx
    split at e
    · simp at e; obtain ⟨rfl, rfl⟩ := e
      simp only [opPure, hx, Rq.toU, show flat (.lit b) = some (.bool b) from rfl]
      rfl
    · cases e
  · rename_i k n hx
    split at e
    · simp at e; obtain ⟨rfl, rfl⟩ := e
      simp only [opPure, hx, Rq.toU, show flat (.v (.int k n)) = some (.int k n) from rfl]
      rw [wrapF_eq]; rfl
    · split at e
      · rename_i a M hM
        simp at e; obtain ⟨rfl, rfl⟩ := e
        simp only [opPure, hx, Rq.toU, show flat (.v (.int k (.ofNat a))) = some (.int k (.ofNat a)) from rfl]
        have : pureRun P (Op.unary .xor (.int k (.ofNat a))) = some (.int k (.ofNat (Nat.xor (Nat.mod (Nat.pred M) M) (Nat.mod a M)))) := by
          simp only [Op.unary, (uMod_eq hM).2]
          rw [if_neg (by simp), xor_max hM]
          exact intBits_xor hM
        simp only [this]
        rfl
      · cases e
    · cases e
  · cases e

theorem oIA_ok {P : Program} {E : Env} {ev : Operand → AV} {h : AH} {id : Nat} {t : TypeId} {x ix : Operand} {c : Bool} {v : AV} (e : oIA P t (ev x) (ev ix) = some (c, v)) : effOp P E ev h id (.indexAddr t x ix) = some (c, v, []) := by
  have main : opPure P E ev (.indexAddr t x ix) = some (c, v) → effOp P E ev h id (.indexAddr t x ix) = some (c, v, []) := by
    intro h3
    simp only [effOp, h3]
  have hd : ∀ (n len : Nat), decide (0 ≤ (n : Int) ∧ (n : Int) < (len : Int)) = Nat.blt n len := by
    intro n len
    rw [blt_dec]
    congr 1
    apply propext
    constructor
    · intro h; exact Int.ofNat_lt.1 h.2
    · intro h; exact ⟨Int.natCast_nonneg _, Int.ofNat_lt.2 h⟩
  refine main ?_
  unfold oIA at e
  split at e
  · rename_i k n hix
    simp only [opPure, hix, show flat (.v (.int k (.ofNat n))) = some (.int k (.ofNat n)) from rfl]
    split at e
    · rename_i len el hu
      split at e
      · rename_i hx
        split at e
        · rename_i m hm
          simp at e; obtain ⟨rfl, rfl⟩ := e
          simp only [hu, hx, hm, Int.ofNat_eq_natCast, Int.toNat_natCast, hd]
        · cases e
      · cases e
    · rename_i el hu
      split at e
      · rename_i hx
        split at e
        · rename_i m hm
          simp at e; obtain ⟨rfl, rfl⟩ := e
          simp only [hu, hx, hm, Int.ofNat_eq_natCast, Int.toNat_natCast, hd]
        · cases e
      · rename_i hx
        split at e
        · rename_i m hm
          simp at e; obtain ⟨rfl, rfl⟩ := e
          simp only [hu, hx, hm, Int.ofNat_eq_natCast, Int.toNat_natCast, hd]
        · cases e
      · cases e
    · cases e
  · cases e

theorem fastBin_eff {P : Program} {E : Env} {ev : Operand → AV} {h : AH} {id : Nat} {o : BinOp} {t u : TypeId} {x y : Operand} {c : Bool} {v : AV} (e : fastBin o (ev x) (ev y) = some (c, v)) : effOp P E ev h id (.binOp o t x y u) = some (c, v, []) := by
  have hb := fastBin_ok (P := P) (E := E) (t := t) (x := x) (y := y) e
  have main : opPure P E ev (.binOp o t x y u) = some (c, v) → effOp P E ev h id (.binOp o t x y u) = some (c, v, []) := by
    intro h3
    simp only [effOp, h3]
  refine main ?_
  unfold fastBin at e
  split at e
  · rename_i k m hx
    simp only [opPure, hx]
    rw [hx] at hb
    exact hb
  · rename_i w hx
    simp only [opPure, hx]
    rw [hx] at hb
    exact hb
  · cases e

theorem oCallV_ok {P : Program} {E : Env} {ev : Operand → AV} (hf : ∀ f, ev (.func f) = .fn (.func f) [] []) {h : AH} {id : Nat} {c : Call} {f : Operand} (hc : c.callee = .value f) {x : Bool × AV × AH}
    (e : oCallV E ev h id f c.args.toList (effOp P E ev h id (.call c)) = some x) : effOp P E ev h id (.call c) = some x := by
  unfold oCallV at e
  split at e
  · rename_i fid
    rw [frcL_eq frc2_eq] at e
    unfold oCallT at e
    have hs : effOp P E ev h id (.call c) = effCall E ev h id (.func fid) c.args.toList := by simp only [effOp, hc]
    split at e
    · rename_i g hg
      rw [hs]
      unfold effCall
      rw [hf]
      simp only [hg, List.nil_append, List.append_nil]
      exact e
    · rename_i hp
      split at e
      · exact e
      · rename_i hh
        split at e
        · exact e
        · rename_i hl
          rw [hs]
          unfold effCall
          rw [hf]
          simp only [hp, hh, hl]
          split at e
          · rename_i g hg
            unfold oAct at e
            simp only [hg]
            exact e
          · cases e
  · exact e

theorem fastOp_ok {P : Program} {E : Env} {ev : Operand → AV} (hf : ∀ f, ev (.func f) = .fn (.func f) [] []) {h : AH} {id : Nat} {op : Op} {x : Bool × AV × AH} (e : fastOp P E ev h id op = some x) : effOp P E ev h id op = some x := by
  cases op with
  | move y => exact e
  | assign y => exact e
  | binOp o t y z u => exact oOr_ok e fun c v hr => fastBin_eff hr
  | load t a =>
    simp only [fastOp, oLoad] at e
    split at e
    · rename_i i off ha
      simp only [effOp, ha]
      exact e
    · exact e
  | store t a y =>
    simp only [fastOp, oStore] at e
    split at e
    · rename_i i off ha
      simp only [effOp, ha]
      exact e
    · cases e
  | nilCheck y =>
    refine oOr_ok e fun c v hr => ?_
    unfold nilF at hr
    split at hr
    · rename_i i off hy
      simp at hr; obtain ⟨rfl, rfl⟩ := hr
      simp only [effOp, opPure, hy]
    · cases hr
  | fieldAddr s y f =>
    simp only [fastOp, oP] at e
    split at e
    · rename_i c v hr
      unfold oFA at hr
      split at hr
      · rename_i i off hy
        split at hr
        · rename_i fs hu
          simp only [effOp, opPure, hu, hy]
          split at hr
          · rename_i fl hfl
            simp only [hfl]
            split at hr
            · rename_i n hn
              simp at hr; obtain ⟨rfl, rfl⟩ := hr
              simp only [hn]; exact e
            · cases hr
          · cases hr
        · cases hr
      · cases hr
    · cases e
  | indexAddr t y z => exact oOr_ok e fun c v hr => oIA_ok hr
  | extract y i =>
    refine oOr_ok e fun c v hr => ?_
    unfold oEx at hr
    split at hr
    · rename_i cs hy
      split at hr
      · rename_i q hq
        simp at hr; obtain ⟨rfl, rfl⟩ := hr
        simp only [effOp, opPure, hy, hq]
      · cases hr
    · cases hr
  | convert s d y => exact oOr_ok e fun c v hr => oCv_ok hr
  | unOp o t y => exact oOr_ok e fun c v hr => oUn_ok hr
  | call c =>
    simp only [fastOp, oCall] at e
    split at e
    · rename_i f hc
      exact oCallV_ok hf hc e
    · exact e
  | _ => exact e
end Go.Rq
