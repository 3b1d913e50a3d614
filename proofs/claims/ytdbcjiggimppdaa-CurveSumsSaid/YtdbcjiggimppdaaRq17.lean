/- The reference's formulas over a field; multiples by the program and by the reference. -/
import Derived.Test.YtdbcjiggimppdaaRq16
import Derived.Test.YtdbcjiggimppdaaRq15
import Derived.Test.YtdbcjiggimppdaaRq10
namespace Go.Rq
open Go Go.Proofs

/-! Points of three elements, by the reference. -/
section
variable {K : Type} [Rg K] {iv : K → K} {e : K → K → Bool}

/-- The reference's operations go like a field's. -/
structure TRel (S : K → D6 → Prop) (o : Bool) (e : K → K → Bool) (t : TH) : Prop where
  mu : ∀ {p : Th} {x y : K} {a b : D6}, p.one = o → S x a → S y b → S (x * y) (t.mu p a b)
  tm : ∀ {x : K} {a : D6} (s : Sm), S x a → S (tmK x s.n) (t.tm a s)
  sb : ∀ {x y : K} {a b : D6}, S x a → S y b → S (x - y) (t.sb a b)
  zero : S 0 zeroD
  eq : ∀ {x y : K} {a b : D6}, S x a → S y b → e x y = eqD a b

structure TJ (S : K → D6 → Prop) (o : Bool) (p : Jp K) (q : Th) : Prop where
  x : S p.x q.x
  y : S p.y q.y
  z : S p.z q.z
  one : q.one = o

variable {S : K → D6 → Prop} {o : Bool} {t : TH}

theorem noneT_rel (h : TRel S o e t) {b : Bool} (hq : b = o) : TJ S o noneJ (noneT b) := ⟨h.zero, h.zero, h.zero, hq⟩

theorem dblF_rel (h : TRel S o e t) {p : Jp K} {q : Th} (hp : TJ S o p q) : TJ S o (dblF p) (dblP t q) := by
  have yy := h.mu hp.one hp.y hp.y
  have s := h.tm .n4 (h.mu hp.one hp.x yy)
  have m := h.tm .n3 (h.mu hp.one hp.x hp.x)
  have x := h.sb (h.mu hp.one m m) (h.tm .n2 s)
  exact ⟨x, h.sb (h.mu hp.one m (h.sb s x)) (h.tm .n8 (h.mu hp.one yy yy)), h.tm .n2 (h.mu hp.one hp.y hp.z), hp.one⟩

theorem dbl_rel (h : TRel S o e t) {p : Jp K} {q : Th} (hp : TJ S o p q) : TJ S o (dblK e p) (dblG t q) := by
  unfold dblK dblG
  rw [h.eq hp.z h.zero, h.eq hp.y h.zero]
  cases eqD q.z zeroD
  · cases eqD q.y zeroD
    · exact dblF_rel h hp
    · exact noneT_rel h hp.one
  · exact noneT_rel h hp.one

theorem hK_rel (h : TRel S o e t) {p u : Jp K} {q v : Th} (hp : TJ S o p q) (hu : TJ S o u v) : S (hK p u) (tAddH t q v) := h.sb (h.mu hp.one hu.x (h.mu hp.one hp.z hp.z)) hp.x
theorem kK_rel (h : TRel S o e t) {p u : Jp K} {q v : Th} (hp : TJ S o p q) (hu : TJ S o u v) : S (kK p u) (tAddK t q v) := h.sb (h.mu hp.one hu.y (h.mu hp.one (h.mu hp.one hp.z hp.z) hp.z)) hp.y

theorem addF_rel (h : TRel S o e t) {p u : Jp K} {q v : Th} (hp : TJ S o p q) (hu : TJ S o u v) (D : Th → Th) : TJ S o (addF p u) (addP t D q v) := by
  have hh := hK_rel h hp hu
  have k := kK_rel h hp hu
  have h2 := h.mu hp.one hh hh
  have h3 := h.mu hp.one h2 hh
  have w := h.mu hp.one hp.x h2
  have x := h.sb (h.sb (h.mu hp.one k k) h3) (h.tm .n2 w)
  exact ⟨x, h.sb (h.mu hp.one k (h.sb w x)) (h.mu hp.one hp.y h3), h.mu hp.one hp.z hh, hp.one⟩

theorem add_rel (h : TRel S o e t) {p u : Jp K} {q v : Th} (hp : TJ S o p q) (hu : TJ S o u v) : TJ S o (addK e p u) (addG t (dblG t) q v) := by
  unfold addK addG
  rw [h.eq hp.z h.zero, h.eq (hK_rel h hp hu) h.zero, h.eq (kK_rel h hp hu) h.zero]
  cases eqD q.z zeroD
  · cases eqD (tAddH t q v) zeroD
    · exact addF_rel h hp hu (dblG t)
    · cases eqD (tAddK t q v) zeroD
      · exact noneT_rel h hp.one
      · exact dbl_rel h hp
  · exact hu

theorem mult_rel (h : TRel S o e t) {p : Jp K} {q : Th} (hp : TJ S o p q) (w : W6) : ∀ (k : Nat) {u : Jp K} {v : Th}, TJ S o u v → TJ S o (multK e w.bit p k u) (multG ⟨dblG t, addG t (dblG t)⟩ q w k v)
  | 0, u, v, hu => hu
  | k + 1, u, v, hu => by
    simp only [multK, multG]
    apply mult_rel h hp w k
    cases w.bit k
    · exact dbl_rel h hu
    · exact add_rel h (dbl_rel h hu) hp

/-- The two elements. -/
theorem two_rel (h : TRel S o e t) {r : RO} {i2 : D6 → D6} (hi : ∀ {x : K} {a : D6}, S x a → S (iv x) (bif o then ⟨r.iv r.fp a.a, zeroW⟩ else i2 a)) {p : Jp K} {q : Th} (hp : TJ S o p q) :
    (twG r i2 t.mu q).2.2 = !(lowK iv e p).zero ∧ S (lowK iv e p).x (twG r i2 t.mu q).1 ∧ S (lowK iv e p).y (twG r i2 t.mu q).2.1 := by
  have low : ∀ {d : D6}, S (iv p.z) d → S (p.x * (iv p.z * iv p.z)) (twP t.mu q d).1 ∧ S (p.y * ((iv p.z * iv p.z) * iv p.z)) (twP t.mu q d).2.1 := fun {d} hd =>
    ⟨h.mu hp.one hp.x (h.mu hp.one hd hd), h.mu hp.one hp.y (h.mu hp.one (h.mu hp.one hd hd) hd)⟩
  unfold twG lowK
  rw [h.eq hp.z h.zero]
  cases eqD q.z zeroD
  · have hz := hi hp.z
    rw [hp.one]
    cases ho : o
    · rw [ho, cond_false] at hz
      exact ⟨rfl, low hz⟩
    · rw [ho, cond_true] at hz
      exact ⟨rfl, low hz⟩
  · exact ⟨rfl, h.zero, h.zero⟩
end

/-! Bits and lengths. -/
theorem bit_out (n : W6) {i : Nat} (h : 384 ≤ i) : n.bit i = false := by
  unfold W6.bit
  have : n.get (i / 64) = 0#64 := by
    unfold W6.get
    rw [List.getD_eq_getElem?_getD, List.getElem?_eq_none (by simp; omega)]
    rfl
  rw [this, BitVec.zero_ushiftRight]
  rfl

theorem bitI_bit (n : W6) (i : Nat) : (bitI n (i : Int) == 1) = n.bit i := by
  unfold bitI
  rw [show decide ((i : Int) < 0) = false from decide_eq_false (by omega)]
  by_cases h : 384 ≤ i
  · rw [show decide ((i : Int) ≥ 384) = true from decide_eq_true (by omega), bit_out n h]; rfl
  · rw [show decide ((i : Int) ≥ 384) = false from decide_eq_false (by omega)]
    rw [show ((i : Int)).toNat = i from rfl]
    cases n.bit i <;> rfl

theorem rlenL_zero (B : W6 → Int → Int) (n : W6) : ∀ (k i : Nat), i < k → chainV (rlenL B n k) 0 ≤ (i : Int) → (B n (i : Int) == 1) = false
  | 0, i, h, _ => by omega
  | k + 1, i, h, hc => by
    simp only [rlenL, chainV] at hc
    cases hb : B n (k : Int) == 1 with
    | true =>
      rw [hb, cond_true] at hc
      omega
    | false =>
      rw [hb, cond_false] at hc
      by_cases he : i = k
      · subst he; exact hb
      · exact rlenL_zero B n k i (by omega) hc

theorem rlen_bits (n : W6) {i : Nat} (h : (rlenI n).toNat ≤ i) : n.bit i = false := by
  by_cases hi : 384 ≤ i
  · exact bit_out n hi
  · rw [← bitI_bit]
    refine rlenL_zero bitI n 384 i (by omega) ?_
    have := (rlenI_le n).1
    show rlenI n ≤ (i : Int)
    omega

theorem word_bit (w : BitVec 64) {j : Nat} (h : w.toNat < 2 ^ j) : (((w >>> j) &&& 1#64) == 1#64) = false := by
  have : w >>> j = 0#64 := by
    apply BitVec.eq_of_toNat_eq
    rw [BitVec.toNat_ushiftRight, Nat.shiftRight_eq_div_pow, Nat.div_eq_of_lt h]
    rfl
  rw [this]
  rfl

theorem bl_bits {w : BitVec 64} {j : Nat} (h : bl w.toNat ≤ j) : (((w >>> j) &&& 1#64) == 1#64) = false := word_bit w (bl_spec.1 h)

theorem bl_le (x : BitVec 64) : bl x.toNat ≤ 64 := bl_spec.2 x.isLt

theorem len_step {w : BitVec 64} {k : Int} {l : List (Bool × Int)} {i : Nat} (h0 : 0 ≤ k) (h1 : k ≤ 320) (h : chainV ((w != 0#64, IntKind.i64.wrap (k + ((bl w.toNat : Nat) : Int))) :: l) 0 ≤ (i : Int)) :
    k + ((bl w.toNat : Nat) : Int) ≤ (i : Int) ∨ (w = 0#64 ∧ chainV l 0 ≤ (i : Int)) := by
  have hb := bl_le w
  simp only [chainV] at h
  cases hc : w != 0#64 with
  | true =>
    rw [hc, cond_true, wrap_id (by omega) (by omega)] at h
    exact .inl h
  | false =>
    rw [hc, cond_false] at h
    exact .inr ⟨by simpa using hc, h⟩

theorem len_bits (n : W6) {i : Nat} (h : (lenI n).toNat ≤ i) : n.bit i = false := by
  by_cases hi : 384 ≤ i
  · exact bit_out n hi
  have h0 := (lenI_le n).1
  have h' : lenI n ≤ (i : Int) := by omega
  have z : ∀ j, (((0#64 >>> j) &&& 1#64) == 1#64) = false := fun j => word_bit 0#64 (by simp; exact Nat.two_pow_pos j)
  have hcases : i / 64 = 0 ∨ i / 64 = 1 ∨ i / 64 = 2 ∨ i / 64 = 3 ∨ i / 64 = 4 ∨ i / 64 = 5 := by omega
  have gb : ∀ {w : BitVec 64} {k : Nat}, n.get (i / 64) = w → i / 64 = k → 64 * (k : Int) + ((bl w.toNat : Nat) : Int) ≤ (i : Int) → n.bit i = false := fun {w k} hw hk hl => by
    unfold W6.bit
    rw [hw]
    exact bl_bits (by omega)
  have gz : n.get (i / 64) = 0#64 → n.bit i = false := fun hw => by
    unfold W6.bit
    rw [hw]
    exact z _
  have b0 := bl_le n.w0; have b1 := bl_le n.w1; have b2 := bl_le n.w2; have b3 := bl_le n.w3; have b4 := bl_le n.w4; have b5 := bl_le n.w5
  have up : ∀ {m : Nat} {x : Nat}, i / 64 < m → (64 * m + x : Int) ≤ (i : Int) → False := fun {m x} h1 h2 => by omega
  unfold lenI lenL at h'
  rcases len_step (by omega) (by omega) h' with h5 | ⟨z5, h'⟩
  · rcases hcases with c | c | c | c | c | c
    · exact (up (m := 5) (by omega) h5).elim
    · exact (up (m := 5) (by omega) h5).elim
    · exact (up (m := 5) (by omega) h5).elim
    · exact (up (m := 5) (by omega) h5).elim
    · exact (up (m := 5) (by omega) h5).elim
    · exact gb (by rw [c]; rfl) c h5
  rcases len_step (by omega) (by omega) h' with h4 | ⟨z4, h'⟩
  · rcases hcases with c | c | c | c | c | c
    · exact (up (m := 4) (by omega) h4).elim
    · exact (up (m := 4) (by omega) h4).elim
    · exact (up (m := 4) (by omega) h4).elim
    · exact (up (m := 4) (by omega) h4).elim
    · exact gb (by rw [c]; rfl) c h4
    · exact gz (by rw [c]; exact z5)
  rcases len_step (by omega) (by omega) h' with h3 | ⟨z3, h'⟩
  · rcases hcases with c | c | c | c | c | c
    · exact (up (m := 3) (by omega) h3).elim
    · exact (up (m := 3) (by omega) h3).elim
    · exact (up (m := 3) (by omega) h3).elim
    · exact gb (by rw [c]; rfl) c h3
    · exact gz (by rw [c]; exact z4)
    · exact gz (by rw [c]; exact z5)
  rcases len_step (by omega) (by omega) h' with h2 | ⟨z2, h'⟩
  · rcases hcases with c | c | c | c | c | c
    · exact (up (m := 2) (by omega) h2).elim
    · exact (up (m := 2) (by omega) h2).elim
    · exact gb (by rw [c]; rfl) c h2
    · exact gz (by rw [c]; exact z3)
    · exact gz (by rw [c]; exact z4)
    · exact gz (by rw [c]; exact z5)
  rcases len_step (by omega) (by omega) h' with h1 | ⟨z1, h'⟩
  · rcases hcases with c | c | c | c | c | c
    · exact (up (m := 1) (by omega) h1).elim
    · exact gb (by rw [c]; rfl) c h1
    · exact gz (by rw [c]; exact z2)
    · exact gz (by rw [c]; exact z3)
    · exact gz (by rw [c]; exact z4)
    · exact gz (by rw [c]; exact z5)
  rcases len_step (by omega) (by omega) h' with h0 | ⟨z0, h'⟩
  · rcases hcases with c | c | c | c | c | c
    · exact gb (by rw [c]; rfl) c h0
    · exact gz (by rw [c]; exact z1)
    · exact gz (by rw [c]; exact z2)
    · exact gz (by rw [c]; exact z3)
    · exact gz (by rw [c]; exact z4)
    · exact gz (by rw [c]; exact z5)
  · rcases hcases with c | c | c | c | c | c
    · exact gz (by rw [c]; exact z0)
    · exact gz (by rw [c]; exact z1)
    · exact gz (by rw [c]; exact z2)
    · exact gz (by rw [c]; exact z3)
    · exact gz (by rw [c]; exact z4)
    · exact gz (by rw [c]; exact z5)

/-! Multiples, by the program. -/
section
variable {K : Type} [Rg K] {iv : K → K} {e : K → K → Bool}

theorem times_run (f : Fl K) (p : Jp K) (n : W6) : ∀ (k : Nat) (u : Jp K), timesG (tOf (foK iv) e) f p n k u = runK iv e f n.bit p k u
  | 0, u => rfl
  | k + 1, u => by
    show timesG (tOf (foK iv) e) f p n k (bif bitI n (k : Int) == 1 then sumE (foK iv) e f (twiceJ (foK iv) u) p else twiceJ (foK iv) u) = _
    rw [bitI_bit, times_run f p n k]
    rfl

def timesF (iv : K → K) (e : K → K → Bool) (f : Fl K) (p : Jp K) (n : W6) : Jp K := timesG (tOf (foK iv) e) f p n (lenI n).toNat ⟨f.one, f.one, 0⟩
def gaF (iv : K → K) (e : K → K → Bool) : GO K := gOf (foK iv) e (timesF iv e)

theorem twice_none {u : Jp K} (hu : u.z = 0) : (twiceJ (foK iv) u).z = 0 := by rw [twice_z, hu]; exact rg [u.y]

theorem run_none (F : Fd K iv e) {f : Fl K} {b : Nat → Bool} {p : Jp K} (hp : p.z = 0) : ∀ (k : Nat) {u : Jp K}, u.z = 0 → (runK iv e f b p k u).z = 0
  | 0, u, hu => hu
  | k + 1, u, hu => by
    simp only [runK]
    apply run_none F hp k
    cases b k
    · exact twice_none hu
    · show (sumE (foK iv) e f (twiceJ (foK iv) u) p).z = 0
      unfold sumE
      rw [show (foK iv).zero = (0 : K) from rfl, F.eq.2 (twice_none hu)]
      exact hp

theorem low_none (F : Fd K iv e) {u : Jp K} (hu : u.z = 0) : lowerE (foK iv) e u = ⟨0, 0, true⟩ := by
  unfold lowerE
  rw [show (foK iv).zero = (0 : K) from rfl, F.eq.2 hu]
  rfl

theorem sum_none (F : Fd K iv e) (f : Fl K) {u v : Jp K} (hu : u.z = 0) : sumE (foK iv) e f u v = v := by
  unfold sumE
  rw [show (foK iv).zero = (0 : K) from rfl, F.eq.2 hu]
  rfl

/-- A multiple by the program is that by the reference. -/
theorem times_low (F : Fd K iv e) {f : Fl K} (hf : f.one = 1) {p : Ap K} (hp : p.zero = true → p = ⟨0, 0, true⟩) (n : W6) {l : Nat} (hl : (rlenI n).toNat ≤ l) :
    lowerE (foK iv) e (timesF iv e f (raiseJ (foK iv) f p) n) = bif p.zero then p else lowK iv e (multK e n.bit ⟨p.x, p.y, 1⟩ l noneJ) := by
  unfold timesF
  rw [times_run]
  cases hz : p.zero with
  | true =>
    have hr : (raiseJ (foK iv) f p).z = 0 := by unfold raiseJ; rw [hz]; rfl
    rw [low_none F (run_none F hr _ rfl), cond_true]
    exact (hp hz).symm
  | false =>
    have hr : raiseJ (foK iv) f p = ⟨p.x, p.y, 1⟩ := by unfold raiseJ; rw [hz, hf]; rfl
    rw [hr, cond_false]
    exact low_eq F (run_mult2 F rfl (fun i hi => len_bits n hi) (fun i hi => rlen_bits n (Nat.le_trans hl hi)) rfl rfl)

theorem ga1_low (F : Fd K iv e) {f : Fl K} (hf : f.one = 1) {p : Ap K} (hp : p.zero = true → p = ⟨0, 0, true⟩) (hon : onE (foK iv) e f p = true) (n : W6) {l : Nat} (hl : (rlenI n).toNat ≤ l) :
    ga1 (gaF iv e) 0 f p n = (bif p.zero then p else lowK iv e (multK e n.bit ⟨p.x, p.y, 1⟩ l noneJ), 0) := by
  have h : ga1 (gaF iv e) 0 f p n = bif onE (foK iv) e f p then (lowerE (foK iv) e (sumE (foK iv) e f ⟨f.one, f.one, 0⟩ (timesF iv e f (raiseJ (foK iv) f p) n)), 0) else (⟨0, 0, false⟩, 5) := rfl
  rw [h, hon, cond_true, sum_none F f rfl, times_low F hf hp n hl]

theorem one_len : (lenI (ofW (bitW true))).toNat = 1 := by decide +kernel
theorem one_bit : (ofW (bitW true)).bit 0 = true := by decide +kernel
theorem times_one (F : Fd K iv e) (f : Fl K) (p : Jp K) : timesF iv e f p (ofW (bitW true)) = p := by
  unfold timesF
  rw [times_run, one_len]
  simp only [runK]
  rw [one_bit, cond_true, sum_none F f (twice_none rfl)]

theorem ga2_low (F : Fd K iv e) {f : Fl K} (hf : f.one = 1) {p q : Ap K} (hp : p.zero = true → p = ⟨0, 0, true⟩) (hq : q.zero = true → q = ⟨0, 0, true⟩) (hon : onE (foK iv) e f p = true) (hoq : onE (foK iv) e f q = true) :
    ga2 (gaF iv e) 0 f (p, q) (ofW (bitW true), ofW (bitW true)) = (sumA iv e p q, 0) := by
  have h : ga2 (gaF iv e) 0 f (p, q) (ofW (bitW true), ofW (bitW true)) = bif onE (foK iv) e f p then (bif onE (foK iv) e f q then (lowerE (foK iv) e (sumE (foK iv) e f (sumE (foK iv) e f ⟨f.one, f.one, 0⟩ (timesF iv e f (raiseJ (foK iv) f p) (ofW (bitW true)))) (timesF iv e f (raiseJ (foK iv) f q) (ofW (bitW true)))), 0) else (⟨0, 0, false⟩, 5)) else (⟨0, 0, false⟩, 5) := rfl
  have eqn : ∀ {p : Ap K}, onE (foK iv) e f p = true → p.zero = false → p.y * p.y = p.x * p.x * p.x + f.b := fun {p} h1 h2 => by
    unfold onE at h1
    rw [h2, cond_false] at h1
    exact F.eq.1 h1
  rw [h, hon, hoq, cond_true, cond_true, times_one F, times_one F, sum_none F f (u := ⟨f.one, f.one, 0⟩) rfl, sum_slope F hf hp hq (eqn hon) (eqn hoq)]
end
end Go.Rq

/- The law CurveFirst holds of what the functions come to. -/
namespace Go.Rq
open Go Go.Proofs

/-! The reference's operations go like a field's. -/
section
variable {K : Type} [Rg K] {iv : K → K} {e : K → K → Bool} {R : K → W6 → Prop} {t : RO}

structure RRel (R : K → W6 → Prop) (iv : K → K) (e : K → K → Bool) (t : RO) : Prop where
  mu : ∀ {x y : K} {a b : W6}, R x a → R y b → R (x * y) (t.mu t.fp a b)
  ad : ∀ {x y : K} {a b : W6}, R x a → R y b → R (x + y) (t.ad t.fp a b)
  sb : ∀ {x y : K} {a b : W6}, R x a → R y b → R (x - y) (t.sb t.fp a b)
  ne : ∀ {x : K} {a : W6}, R x a → R (-x) (t.ne t.fp a)
  iv : ∀ {x : K} {a : W6}, R x a → R (iv x) (t.iv t.fp a)
  zero : R 0 zeroW
  one : R 1 numOne
  eq : ∀ {x y : K} {a b : W6}, R x a → R y b → e x y = eqW a b
  inj : ∀ {x : K} {a b : W6}, R x a → R x b → a = b

/-- An element of one part. -/
structure S1 (R : K → W6 → Prop) (x : K) (d : D6) : Prop where
  a : R x d.a
  b : d.b = zeroW

theorem RRel.cast {J : Type} {R : J → W6 → Prop} {x y : J} {a : W6} (h : R x a) (e : x = y) : R y a := e ▸ h

theorem s1_add (h : RRel R iv e t) {x y : K} {a b : D6} (p : S1 R x a) (q : S1 R y b) : S1 R (x + y) (radd2G t a b) :=
  ⟨h.ad p.a q.a, by
    show t.ad t.fp a.b b.b = zeroW
    rw [p.b, q.b]
    exact h.inj (RRel.cast (h.ad h.zero h.zero) (Rg.add_zero 0)) h.zero⟩
theorem s1_neg (h : RRel R iv e t) {x : K} {a : D6} (p : S1 R x a) : S1 R (-x) (rneg2G t a) :=
  ⟨h.ne p.a, by
    show t.ne t.fp a.b = zeroW
    rw [p.b]
    exact h.inj (RRel.cast (h.ne h.zero) rg_neg_zero) h.zero⟩
theorem s1_sub (h : RRel R iv e t) {x y : K} {a b : D6} (p : S1 R x a) (q : S1 R y b) : S1 R (x - y) (rsub2G t a b) := by
  have := s1_add h p (s1_neg h q)
  rw [← Rg.sub_eq x y] at this
  exact this
theorem s1_tm (h : RRel R iv e t) {x : K} {a : D6} (p : S1 R x a) : ∀ k : Nat, S1 R (tmK x k) (timesA (radd2G t) a k)
  | 0 => ⟨h.zero, rfl⟩
  | k + 1 => s1_add h (s1_tm h p k) p

def thG (t : RO) : TH := ⟨thmG t (rmul2G t), fun a s => timesA (radd2G t) a s.n, rsub2G t⟩
theorem trel1 (h : RRel R iv e t) : TRel (S1 R) true e (thG t) where
  mu := fun {p x y a b} ho ha hb => by
    show S1 R (x * y) (bif p.one then ⟨t.mu t.fp a.a b.a, zeroW⟩ else rmul2G t a b)
    rw [ho]
    exact ⟨h.mu ha.a hb.a, rfl⟩
  tm s ha := s1_tm h ha s.n
  sb ha hb := s1_sub h ha hb
  zero := ⟨h.zero, rfl⟩
  eq := fun {x y a b} ha hb => by
    rw [eqW_D, ha.b, hb.b, h.eq ha.a hb.a, (eqW_iff zeroW zeroW).2 rfl]
    cases eqW a.a b.a <;> rfl

theorem lowK_zero {p : Jp K} (h : (lowK iv e p).zero = true) : lowK iv e p = ⟨0, 0, true⟩ := by
  unfold lowK at h ⊢
  cases hz : e p.z 0 with
  | true => rfl
  | false => rw [hz] at h; cases h

def multOf (t : RO) (p : Th) (w : W6) (len : Nat) : Th := multG ⟨dblG (thG t), addG (thG t) (dblG (thG t))⟩ p w (64 * len) (noneT p.one)
def manyOf (t : RO) : Ap W6 → W6 → Nat → Ap W6 := manyG (twG t (rinv2G t) (thmG t (rmul2G t))) (multOf t)

theorem many_rel (h : RRel R iv e t) {P : Ap K} {p : Ap W6} (hp : RA R P p) (n : W6) (len : Nat) : RA R (bif P.zero then P else lowK iv e (multK e n.bit ⟨P.x, P.y, 1⟩ (64 * len) noneJ)) (manyOf t p n len) := by
  have hT := trel1 h
  unfold manyOf manyG
  rw [hp.z]
  cases hz : p.zero with
  | true => exact hp
  | false =>
    rw [cond_false, cond_false]
    have hb : TJ (S1 R) true ⟨P.x, P.y, 1⟩ (thOf p) := ⟨⟨hp.x, rfl⟩, ⟨hp.y, rfl⟩, ⟨h.one, rfl⟩, rfl⟩
    have hm := mult_rel hT hb n (64 * len) (noneT_rel hT (b := true) rfl)
    have hi : ∀ {x : K} {a : D6}, S1 R x a → S1 R (iv x) (bif true then ⟨t.iv t.fp a.a, zeroW⟩ else rinv2G t a) := fun hx => ⟨h.iv hx.a, rfl⟩
    obtain ⟨h1, h2, h3⟩ := two_rel hT (r := t) hi hm
    have h1' : (twG t (rinv2G t) (thmG t (rmul2G t)) (multOf t (thOf p) n len)).2.2 = !(lowK iv e (multK e n.bit ⟨P.x, P.y, 1⟩ (64 * len) noneJ)).zero := h1
    rw [h1', Bool.not_not]
    cases hl : (lowK iv e (multK e n.bit ⟨P.x, P.y, 1⟩ (64 * len) noneJ)).zero with
    | true =>
      rw [lowK_zero hl]
      exact ⟨h.zero, h.zero, rfl⟩
    | false => exact ⟨h2.a, h3.a, hl⟩

theorem rcheck_rel (h : RRel R iv e t) {f : Fl K} (hf : R f.b (ofW 4#64)) {P : Ap K} {p : Ap W6} (hp : RA R P p) {bl : W6 → Bool} (h1 : bl p.x = true) (h2 : bl p.y = true) :
    rcheckG t bl (rsideG t) p = onE (foK iv) e f P := by
  have hs : eqW (t.mu t.fp p.y p.y) (rsideG t p.x) = e (P.y * P.y) (P.x * P.x * P.x + f.b) := (h.eq (h.mu hp.y hp.y) (h.ad (h.mu (h.mu hp.x hp.x) hp.x) hf)).symm
  unfold rcheckG onE
  rw [hp.z, h1, h2, foK_zero, ← h.eq hp.x h.zero, ← h.eq hp.y h.zero, hs]
  rfl

theorem eqP13_iff (a b : Ap W6) : eqP13 a b = true ↔ a = b := by
  obtain ⟨⟨a0, a1, a2, a3, a4, a5⟩, ⟨a6, a7, a8, a9, a10, a11⟩, az⟩ := a
  obtain ⟨⟨b0, b1, b2, b3, b4, b5⟩, ⟨b6, b7, b8, b9, b10, b11⟩, bz⟩ := b
  simp [eqP13, and_assoc]

theorem ra_eq (h : RRel R iv e t) {A B : Ap K} {a b : Ap W6} (ha : RA R A a) (hb : RA R B b) : eqP13 a b = eqA e A B := by
  rw [Bool.eq_iff_iff, eqP13_iff]
  unfold eqA
  rw [h.eq ha.x hb.x, h.eq ha.y hb.y, ha.z, hb.z]
  simp only [Bool.and_eq_true, eqW_iff, beq_iff_eq]
  obtain ⟨ax, ay, az⟩ := a
  obtain ⟨bx, bY, bz⟩ := b
  simp

theorem rneg_rel (h : RRel R iv e t) {A : Ap K} {a : Ap W6} (ha : RA R A a) : RA R (negK A) (rneg1G t a) := ⟨ha.x, h.ne ha.y, ha.z⟩

theorem rchord_rel (h : RRel R iv e t) {A B : Ap K} {a b : Ap W6} (ha : RA R A a) (hb : RA R B b) {m : K} {w : W6} (hm : R m w) : RA R (chordK A B m) (rchord t a b w) := by
  have x := h.sb (h.sb (h.mu hm hm) ha.x) hb.x
  exact ⟨x, h.sb (h.mu hm (h.sb ha.x x)) ha.y, rfl⟩

theorem radd_rel (h : RRel R iv e t) {A B : Ap K} {a b : Ap W6} (ha : RA R A a) (hb : RA R B b) : RA R (sumA iv e A B) (radd1G t (rneg1G t) a b) := by
  unfold sumA radd1G
  rw [ha.z, hb.z, ra_eq h ha (rneg_rel h hb), ra_eq h ha hb]
  cases a.zero
  · cases b.zero
    · cases eqA e A (negK B)
      · cases eqA e A B
        · exact rchord_rel h ha hb (h.mu (h.sb hb.y ha.y) (h.iv (h.sb hb.x ha.x)))
        · have s := h.mu ha.x ha.x
          exact rchord_rel h ha hb (h.mu (h.ad (h.ad s s) s) (h.iv (h.ad ha.y ha.y)))
      · exact ⟨h.zero, h.zero, rfl⟩
    · exact ha
  · exact hb

theorem ra_inj (h : RRel R iv e t) {A : Ap K} {a b : Ap W6} (ha : RA R A a) (hb : RA R A b) : a = b := by
  obtain ⟨ax, ay, az⟩ := a
  obtain ⟨bx, bY, bz⟩ := b
  have h1 := h.inj ha.x hb.x
  have h2 := h.inj ha.y hb.y
  have h3 := ha.z.symm.trans hb.z
  simp at h1 h2 h3
  rw [h1, h2, h3]
end

theorem on_none {K : Type} [Rg K] {iv : K → K} {e : K → K → Bool} (F : Fd K iv e) {f : Fl K} {p : Ap K} (h : onE (foK iv) e f p = true) (hz : p.zero = true) : p = ⟨0, 0, true⟩ := by
  unfold onE at h
  rw [hz, cond_true, foK_zero] at h
  obtain ⟨x, y, z⟩ := p
  simp only at h hz
  cases h1 : e x 0 with
  | false => rw [h1] at h; cases h
  | true =>
    rw [h1, cond_true] at h
    rw [F.eq.1 h1, F.eq.1 h, hz]

/-- A field, its elements as the program keeps them (M) and as they are told (P). -/
structure Lk {K : Type} [Rg K] (iv : K → K) (e : K → K → Bool) (M P : K → W6 → Prop) (f : Fl K) : Prop where
  F : Fd K iv e
  rel : FRel M (foK iv) fW e eqW
  m1 : M 1 oneW
  m0 : M 0 zeroW
  to : ∀ {x : K} {w : W6}, P x w → M x (toW w)
  fr : ∀ {x : K} {w : W6}, M x w → P x (fromW w)
  of : ∀ {w : W6}, w.val < pN → ∃ x, P x w
  ref : RRel P iv e roO
  f1 : f.one = 1
  fb : P f.b (ofW 4#64)

section
variable {K : Type} [Rg K] {iv : K → K} {e : K → K → Bool} {M P : K → W6 → Prop} {f : Fl K}

theorem fl_of {J : Type} {Q M : J → W6 → Prop} {t : W6 → W6} (ht : ∀ {x : J} {w : W6}, Q x w → M x (t w)) {f : Fl J} {o w : W6} (h1 : M f.one o) (hb : Q f.b w) : RFl M f ⟨o, t w⟩ := ⟨h1, ht hb⟩
theorem ra_of {J : Type} {Q M : J → W6 → Prop} {t : W6 → W6} (ht : ∀ {x : J} {w : W6}, Q x w → M x (t w)) {A : Ap J} {p : Ap W6} (h : RA Q A p) : RA M A ⟨t p.x, t p.y, p.zero⟩ := ⟨ht h.x, ht h.y, h.z⟩
theorem Lk.fl (L : Lk iv e M P f) : RFl M f fld1 := by
  unfold fld1
  exact fl_of (Q := P) (M := M) (t := toW) L.to (by rw [L.f1]; exact L.m1) L.fb
theorem Lk.inn (L : Lk iv e M P f) {A : Ap K} {p : Ap W6} (h : RA P A p) : RA M A (inP1 p) := by
  unfold inP1
  exact ra_of (Q := P) (M := M) (t := toW) L.to h
theorem Lk.out (L : Lk iv e M P f) {A : Ap K} {p : Ap W6} (h : RA M A p) : RA P A (outP1 p) := by
  unfold outP1
  exact ra_of (Q := M) (M := P) (t := fromW) L.fr h

theorem Lk.times (L : Lk iv e M P f) {f : Fl K} {g : Fl W6} {p : Jp K} {q : Jp W6} (hf : RFl M f g) (hp : RJ M p q) (n : W6) : RJ M (timesF iv e f p n) (timesW g q n) := by
  unfold timesF timesW
  exact times_rel L.rel hf hp n _ ⟨hf.one, hf.one, L.m0⟩
theorem Lk.ga (L : Lk iv e M P f) : GRel M (gaF iv e) gaOW := g_rel L.rel L.times

theorem Lk.below (L : Lk iv e M P f) {p : Ap W6} (h : belowP1 p = true) : ∃ A : Ap K, RA P A p := by
  unfold belowP1 at h
  cases hx : belowI p.x with
  | false => rw [hx] at h; cases h
  | true =>
    rw [hx, cond_true] at h
    rw [belowI_nat] at hx h
    obtain ⟨x, h1⟩ := L.of (of_decide_eq_true hx)
    obtain ⟨y, h2⟩ := L.of (of_decide_eq_true h)
    exact ⟨⟨x, y, p.zero⟩, h1, h2, rfl⟩

theorem zero_below : belowI zeroW = true := by rw [belowI_nat]; decide +kernel

theorem Lk.check (L : Lk iv e M P f) (p : Ap W6) : checkP1 p = rcheck1 p := by
  unfold checkP1
  cases hb : belowP1 p with
  | true =>
    obtain ⟨A, hP⟩ := L.below hb
    unfold belowP1 at hb
    have hx : belowI p.x = true := by
      cases hx : belowI p.x with
      | false => rw [hx] at hb; cases hb
      | true => rfl
    rw [hx, cond_true] at hb
    rw [cond_true, ← on_rel L.rel L.fl (L.inn hP)]
    exact (rcheck_rel L.ref L.fb hP hx hb).symm
  | false =>
    rw [cond_false]
    unfold rcheck1 rcheckG
    unfold belowP1 at hb
    cases hz : p.zero with
    | true =>
      rw [cond_true]
      cases hx : eqW p.x zeroW with
      | false => rfl
      | true =>
        cases hy : eqW p.y zeroW with
        | false => rfl
        | true =>
          rw [(eqW_iff _ _).1 hx, (eqW_iff _ _).1 hy, zero_below] at hb
          cases hb
    | false =>
      rw [cond_false]
      cases hx : belowI p.x with
      | false => rfl
      | true =>
        rw [hx, cond_true] at hb
        rw [hb]; rfl

/-- What is a point. -/
theorem Lk.point (L : Lk iv e M P f) {p : Ap W6} (h : rcheck1 p = true) : belowP1 p = true ∧ ∃ A : Ap K, RA P A p ∧ onE (foK iv) e f A = true := by
  rw [← L.check] at h
  unfold checkP1 at h
  cases hb : belowP1 p with
  | false => rw [hb] at h; cases h
  | true =>
    obtain ⟨A, hP⟩ := L.below hb
    rw [hb, cond_true, ← on_rel L.rel L.fl (L.inn hP)] at h
    exact ⟨rfl, A, hP, h⟩
theorem Lk.on (L : Lk iv e M P f) {p : Ap W6} (h : rcheck1 p = true) : onE fW eqW fld1 (inP1 p) = true := by
  obtain ⟨-, A, hP, hon⟩ := L.point h
  rw [← on_rel L.rel L.fl (L.inn hP)]
  exact hon
theorem Lk.off (L : Lk iv e M P f) {p : Ap W6} (h : rcheck1 p = false) (hb : belowP1 p = true) : onE fW eqW fld1 (inP1 p) = false := by
  rw [← L.check] at h
  unfold checkP1 at h
  rw [hb, cond_true] at h
  exact h

theorem Lk.rmul (L : Lk iv e M P f) {A : Ap K} {p : Ap W6} (hp : RA P A p) (n : W6) : RA P (bif A.zero then A else lowK iv e (multK e n.bit ⟨A.x, A.y, 1⟩ (64 * wdL rlenI n) noneJ)) (rmul1 p n) := many_rel L.ref hp n (wdL rlenI n)

theorem Lk.n0 (L : Lk iv e M P f) : fromW zeroW = zeroW := L.ref.inj (L.fr L.m0) L.ref.zero
theorem Lk.nn (L : Lk iv e M P f) : ((outP1 ⟨zeroW, zeroW, false⟩, 5) : Ap W6 × Int) = (noneP, 5) := by
  unfold outP1
  rw [L.n0]
  rfl

theorem sum1_def (p : Ap W6) (n : W6) : sumP1W p n = bif belowP1 p then (outP1 (ga1 gaOW zeroW fld1 (inP1 p) n).1, (ga1 gaOW zeroW fld1 (inP1 p) n).2) else (noneP, 5) := by unfold sumP1W sm1 suOW gath1W; rfl
theorem ga1_def (p : Ap W6) (n : W6) (h : onE fW eqW fld1 p = false) : ga1 gaOW zeroW fld1 p n = (⟨zeroW, zeroW, false⟩, 5) := by
  have hg : ga1 gaOW zeroW fld1 p n = bif onE fW eqW fld1 p then (gaOW.lo fld1 (gaOW.su fld1 ⟨fld1.one, fld1.one, zeroW⟩ (gaOW.ti fld1 (gaOW.ra fld1 p) n)), 0) else (⟨zeroW, zeroW, false⟩, 5) := rfl
  rw [hg, h]; rfl
def unitN : W6 × W6 := (ofW (bitW true), ofW (bitW true))
theorem add1_def (p q : Ap W6) : addP1 p q = bif belowP1 p then (bif belowP1 q then (outP1 (ga2 gaOW zeroW fld1 (inP1 p, inP1 q) unitN).1, (ga2 gaOW zeroW fld1 (inP1 p, inP1 q) unitN).2) else (noneP, 5)) else (noneP, 5) := by
  unfold addP1 sumP2W sm2 suOW gath2W; rfl
theorem ga2_defA (p q : Ap W6) (n : W6 × W6) (h : onE fW eqW fld1 p = false) : ga2 gaOW zeroW fld1 (p, q) n = (⟨zeroW, zeroW, false⟩, 5) := by
  have hg : ga2 gaOW zeroW fld1 (p, q) n = bif onE fW eqW fld1 p then (bif onE fW eqW fld1 q then
      (gaOW.lo fld1 (gaOW.su fld1 (gaOW.su fld1 ⟨fld1.one, fld1.one, zeroW⟩ (gaOW.ti fld1 (gaOW.ra fld1 p) n.1)) (gaOW.ti fld1 (gaOW.ra fld1 q) n.2)), 0) else (⟨zeroW, zeroW, false⟩, 5)) else (⟨zeroW, zeroW, false⟩, 5) := rfl
  rw [hg, h]; rfl
theorem ga2_defB (p q : Ap W6) (n : W6 × W6) (h : onE fW eqW fld1 q = false) : ga2 gaOW zeroW fld1 (p, q) n = (⟨zeroW, zeroW, false⟩, 5) := by
  have hg : ga2 gaOW zeroW fld1 (p, q) n = bif onE fW eqW fld1 p then (bif onE fW eqW fld1 q then
      (gaOW.lo fld1 (gaOW.su fld1 (gaOW.su fld1 ⟨fld1.one, fld1.one, zeroW⟩ (gaOW.ti fld1 (gaOW.ra fld1 p) n.1)) (gaOW.ti fld1 (gaOW.ra fld1 q) n.2)), 0) else (⟨zeroW, zeroW, false⟩, 5)) else (⟨zeroW, zeroW, false⟩, 5) := rfl
  rw [hg, h]
  cases onE fW eqW fld1 p <;> rfl

theorem Lk.mul (L : Lk iv e M P f) (p : Ap W6) (n : W6) : sumP1W p n = bif rcheck1 p then (rmul1 p n, 0) else (noneP, 5) := by
  rw [sum1_def]
  cases hc : rcheck1 p with
  | true =>
    obtain ⟨hb, A, hP, hon⟩ := L.point hc
    obtain ⟨h1, h2⟩ := ga1_rel L.ga L.m0 L.fl (L.inn hP) n
    have h3 := ga1_low L.F L.f1 (on_none L.F hon) hon n (wdL_le n).2
    rw [h3] at h1 h2
    rw [hb, cond_true, cond_true, ← h2, ra_inj L.ref (L.out h1) (L.rmul hP n)]
  | false =>
    rw [cond_false]
    cases hb : belowP1 p with
    | false => rfl
    | true =>
      rw [cond_true, ga1_def _ n (L.off hc hb)]
      exact L.nn

theorem Lk.add (L : Lk iv e M P f) (p q : Ap W6) : addP1 p q = bif rcheck1 p then (bif rcheck1 q then (radd1 p q, 0) else (Go.Rq.noneP, 5)) else (Go.Rq.noneP, 5) := by
  rw [add1_def]
  cases hc : rcheck1 p with
  | false =>
    rw [cond_false]
    cases hb : belowP1 p with
    | false => rfl
    | true =>
      cases hb2 : belowP1 q with
      | false => rfl
      | true =>
        rw [cond_true, cond_true, ga2_defA _ _ _ (L.off hc hb)]
        exact L.nn
  | true =>
    rw [cond_true, (L.point hc).1, cond_true]
    cases hd : rcheck1 q with
    | false =>
      rw [cond_false]
      cases hb2 : belowP1 q with
      | false => rfl
      | true =>
        rw [cond_true, ga2_defB _ _ _ (L.off hd hb2)]
        exact L.nn
    | true =>
      rw [cond_true, (L.point hd).1, cond_true]
      obtain ⟨-, A, hP, hon⟩ := L.point hc
      obtain ⟨-, B, hQ, hoq⟩ := L.point hd
      obtain ⟨h1, h2⟩ := ga2_rel L.ga L.m0 L.fl (x := (A, B)) (y := (inP1 p, inP1 q)) (L.inn hP) (L.inn hQ) unitN
      have h3 : ga2 (gaF iv e) 0 f (A, B) unitN = (sumA iv e A B, 0) := ga2_low L.F L.f1 (on_none L.F hon) (on_none L.F hoq) hon hoq
      rw [h3] at h1 h2
      have h4 : RA P (sumA iv e A B) (radd1 p q) := radd_rel L.ref hP hQ
      rw [← h2, ra_inj L.ref (L.out h1) h4]

theorem Lk.neg (L : Lk iv e M P f) (p : Ap W6) : negP1 p = bif rcheck1 p then (rneg1G roO p, 0) else (Go.Rq.noneP, 5) := by
  unfold negP1
  rw [L.check]
  cases hc : rcheck1 p with
  | false => rw [Bool.not_false, cond_true, cond_false]; rfl
  | true =>
    obtain ⟨-, A, hP, -⟩ := L.point hc
    have h1 := L.out (neg_rel L.rel (L.inn hP))
    have h2 : negE (foK iv) A = negK A := by
      unfold negE negK
      rw [foK_zero, foK_sub]
      congr 1
      rw [Rg.sub_eq]
      exact rg_zero_add _
    rw [h2] at h1
    rw [ra_inj L.ref h1 (rneg_rel L.ref hP), Bool.not_true, cond_false, cond_true]

theorem rin1_def (p : Ap W6) : rin1 p = bif rcheck1 p then (rmul1 p orderW).zero else false := by unfold rin1 rin1G; rfl
theorem inGroup_def (p : Ap W6) : inGroup1 p = bif belowP1 p then (bif onE fW eqW fld1 (inP1 p) then (lowerE fW eqW (timesW fld1 (raiseJ fW fld1 (inP1 p)) orderW)).zero else false) else false := by
  unfold inGroup1 inEW inGW lowFW; rfl
theorem Lk.ing (L : Lk iv e M P f) (p : Ap W6) : inGroup1 p = bif rcheck1 p then rin1 p else false := by
  rw [inGroup_def, rin1_def]
  cases hc : rcheck1 p with
  | true =>
    obtain ⟨hb, A, hP, hon⟩ := L.point hc
    have h1 := lower_rel L.rel (L.times L.fl (raise_rel L.rel L.fl (L.inn hP)) orderW)
    rw [times_low L.F L.f1 (on_none L.F hon) orderW (wdL_le orderW).2] at h1
    rw [hb, cond_true, L.on hc, cond_true, cond_true, cond_true, ← h1.z, (L.rmul hP orderW).z]
  | false =>
    rw [cond_false]
    cases hb : belowP1 p with
    | false => rfl
    | true =>
      rw [L.off hc hb]; rfl

theorem ap_eq {V : Type} {x y u v : V} {b : Bool} (h : x = u) (k : y = v) : (⟨x, y, b⟩ : Ap V) = ⟨u, v, b⟩ := by rw [h, k]
theorem gen1_eq : gen1P = rgen1P := by
  unfold gen1P rgen1P
  exact ap_eq (by decide +kernel) (by decide +kernel)

def loO : LO W6 := ⟨rcheck1, checkP1, rin1, inGroup1, rgen1P, gen1P, rneg1G roO, negP1, radd1, addP1, rmul1, sumP1W, oneG⟩
theorem Lk.law (L : Lk iv e M P f) : LOk eqP13 Go.Rq.noneP loO where
  on _ _ _ _ := rfl
  refl p := (eqP13_iff p p).2 rfl
  ck p := L.check p
  ig p := L.ing p
  ge := gen1_eq
  ne p := L.neg p
  ad p q := L.add p q
  mu p n := L.mul p n
end

/-! The great prime. -/
theorem pow_rel {K : Type} [Rg K] {R : K → W6 → Prop} {t : PO} {f : Fa} {a e : W6} (hm : ∀ {x y : K} {v w : W6}, R x v → R y w → R (x * y) (t.mu f v w)) {x : K} (h : R x a) :
    ∀ (k : Nat) {y : K} {o : Option W6}, R y (ovP o) → R (pwB (fun i => t.bt e (i : Int) == 1) x k y) (ovP (powR t f a e k o))
  | 0, y, o, hy => hy
  | k + 1, y, o, hy => by
    simp only [pwB, powR]
    apply pow_rel hm h k
    cases t.bt e (k : Int) == 1
    · exact hm hy hy
    · exact hm (hm hy hy) h

theorem rp_mul {x y : F1} {a b : W6} (h : RP x a) (k : RP y b) : RP (x * y) (rmulW fastP a b) := rp_of_mul h k (rmulW_nat a b (rp_lt k))
theorem exp_eq : (rsubW primeW numTwo).1 = expInv := by decide +kernel
theorem exp_len : (rlenI expInv).toNat = 381 := by decide +kernel
theorem exp_bitsI : bitsV (fun i => bitI expInv (i : Int) == 1) 381 = pN - 2 := by decide +kernel
theorem rpoO_mu : rpoO.mu = rmulW := by simp only [rpoO]
theorem rpoO_bt : rpoO.bt = bitI := by simp only [rpoO]
theorem roO_fp : roO.fp = fastP := by simp only [roO]
theorem roO_mu : roO.mu = rmulW := by simp only [roO]
theorem roO_ad : roO.ad = rfadd := by simp only [roO]
theorem roO_sb : roO.sb = rfsub := by simp only [roO]
theorem roO_ne : roO.ne = rfneg := by simp only [roO]
theorem roO_iv : roO.iv = rinvW := by simp only [roO]
theorem rinvW_pow (a : W6) : rinvW fastP a = ovP (powR rpoO fastP a expInv 381 none) := by
  unfold rinvW rpowW rpowO
  rw [show fastP.1 = primeW from rfl, exp_eq, exp_len]
theorem rp_inv {x : F1} {a : W6} (h : RP x a) : RP (iv1 x) (rinvW fastP a) := by
  have h1 := pow_rel (K := F1) (R := RP) (t := rpoO) (f := fastP) (e := expInv) (fun h k => by rw [rpoO_mu]; exact rp_mul h k) h 381 (y := 1) (o := none) (rp_of_one (by decide +kernel))
  rw [rpoO_bt, pwB_one exp_bitsI] at h1
  rw [rinvW_pow, iv1_pow]
  exact h1

theorem rrel1 : RRel RP iv1 eq1 roO where
  mu := fun h k => by rw [roO_mu, roO_fp]; exact rp_mul h k
  ad := fun {x y a b} h k => by
    have hv := rfadd_nat (rp_lt h) (rp_lt k)
    rw [roO_ad, roO_fp]
    generalize rfadd fastP a b = w at hv ⊢
    exact rp_of_add h k hv
  sb := fun {x y a b} h k => by
    have hv := rfsub_nat (rp_lt h) (rp_lt k)
    rw [roO_sb, roO_fp]
    generalize rfsub fastP a b = w at hv ⊢
    exact rp_of_sub h k hv
  ne := fun {x a} h => by
    have hv := rfneg_nat (rp_lt h)
    rw [roO_ne, roO_fp]
    generalize rfneg fastP a = w at hv ⊢
    exact rp_of_neg h hv
  iv := fun h => by rw [roO_iv, roO_fp]; exact rp_inv h
  zero := rp_zero
  one := rp_of_one (by decide +kernel)
  eq := fun h k => rp_eq h k
  inj := fun h k => rp_inj h k

theorem four_lt : (ofW 4#64).val < pN := by decide +kernel
theorem link1 : ∃ b : F1, Lk iv1 eq1 RM RP ⟨1, b⟩ := by
  obtain ⟨b, hb⟩ := rp_of four_lt
  exact ⟨b, fd1, relM, rm_one, rm_zero, rm_to, rp_from, rp_of, rrel1, rfl, hb⟩
theorem loO_ok : LOk eqP13 noneP loO := by
  obtain ⟨b, L⟩ := link1
  exact L.law
end Go.Rq

/- Numbers: shifts by 194, products. -/
namespace Go.Rq
open Go Go.Proofs

/-! The two shifts that are told. -/
inductive Sh | up | down
def Sh.i : Sh → Int | .up => 194 | .down => -194
def shOf (k : IntKind) (n : Int) : Option Sh := match decide (k = .i64) with
  | false => none
  | true => match decide (n = 194) with
    | true => some .up
    | false => match decide (n = -194) with
      | true => some .down
      | false => none
def kSh : Cod Sh where
  enc s := .v (.int .i64 s.i)
  dec a := match a with
    | .v (.int k n) => shOf k n
    | _ => none
  val s := .int .i64 s.i
  h1 _ := rfl
  h2 ρ a v x h r := by
    split at h
    · rename_i k n
      cases r
      unfold shOf at h
      split at h
      · cases h
      · rename_i hk
        have hk := of_decide_eq_true hk
        subst hk
        split at h
        · rename_i e; simp at h; subst h; rw [of_decide_eq_true e]; rfl
        · split at h
          · rename_i e; simp at h; subst h; rw [of_decide_eq_true e]; rfl
          · cases h
    · cases h
def shUp (a : W6) : W6 := ⟨0#64, 0#64, 0#64, a.w0 <<< 2, a.w1 <<< 2 ||| a.w0 >>> 62, a.w2 <<< 2 ||| a.w1 >>> 62⟩
def shDown (a : W6) : W6 := ⟨a.w4 <<< 62 ||| a.w3 >>> 2, a.w5 <<< 62 ||| a.w4 >>> 2, 0#64 ||| a.w5 >>> 2, 0#64, 0#64, 0#64⟩
def shW (a : W6) : Sh → W6
  | .up => shUp a
  | .down => shDown a
set_option maxRecDepth 100000 in
theorem shUp_run (a : W6) : (afunR PR (envOf eqsT []) [] (fun _ => none) 40 60 [c6.agg.enc a, (kInt .i64).enc 194]).strict = .leaf (c6.agg.enc (shUp a)) := by kernel_rfl
set_option maxRecDepth 100000 in
theorem shDown_run (a : W6) : (afunR PR (envOf eqsT []) [] (fun _ => none) 40 60 [c6.agg.enc a, (kInt .i64).enc (-194)]).strict = .leaf (c6.agg.enc (shDown a)) := by kernel_rfl
theorem sh_gives (a : W6) (s : Sh) : Gives (afunR PR (envOf eqsT []) [] (fun _ => none) 40 60 [c6.agg.enc a, kSh.enc s]) (c6.agg.val (shW a s)) := by
  cases s
  · exact leafVal (B := c6.agg) (y := shUp a) (shUp_run a)
  · exact leafVal (B := c6.agg) (y := shDown a) (shDown_run a)
theorem sh2_ok : CallOk PR 60 (fn2 c6.agg kSh c6.agg shW) :=
  .inl ⟨enters_of (fn := Try.f60) (by kernel_rfl) (by kernel_rfl) (by kernel_rfl), pure2 (C := kSh) shift_ctx sh_gives⟩

/-! The product of two numbers. -/
def mrG (M : BitVec 64 → BitVec 64 → BitVec 64 × BitVec 64) (S : BitVec 64 → BitVec 64 → Bool → BitVec 64 × Bool) (t : W6) (a : BitVec 64) (b : W6) : BitVec 64 × W6 :=
  let mc := fun (y u c : BitVec 64) => let p := M a y; let s := S p.2 u false; let h := p.1 + bitW s.2; let r := S s.1 c false; ((r.1, h + bitW r.2) : BitVec 64 × BitVec 64)
  let r0 := mc b.w0 t.w0 (bitW false)
  let r1 := mc b.w1 t.w1 r0.2
  let r2 := mc b.w2 t.w2 r1.2
  let r3 := mc b.w3 t.w3 r2.2
  let r4 := mc b.w4 t.w4 r3.2
  let r5 := mc b.w5 t.w5 r4.2
  (r0.1, ⟨r1.1, r2.1, r3.1, r4.1, r5.1, r5.2⟩)
def wmG (M : BitVec 64 → BitVec 64 → BitVec 64 × BitVec 64) (S : BitVec 64 → BitVec 64 → Bool → BitVec 64 × Bool) (a b : W6) : W6 × W6 :=
  let q0 := mrG M S zeroW a.w0 b
  let q1 := mrG M S q0.2 a.w1 b
  let q2 := mrG M S q1.2 a.w2 b
  let q3 := mrG M S q2.2 a.w3 b
  let q4 := mrG M S q3.2 a.w4 b
  let q5 := mrG M S q4.2 a.w5 b
  (⟨q0.1, q1.1, q2.1, q3.1, q4.1, q5.1⟩, q5.2)
def kNN : Cod (W6 × W6) := kTup c6.agg c6.agg (fun _ => rfl) (fun _ => rfl)
set_option maxRecDepth 1000000 in
theorem wm_run (M : BitVec 64 → BitVec 64 → BitVec 64 × BitVec 64) (S : BitVec 64 → BitVec 64 → Bool → BitVec 64 × Bool) (a b : W6) : (afunR PR (rowE M S) [] (fun _ => none) 60 62 [c6.agg.enc a, c6.agg.enc b]).strict = .leaf (kNN.enc (wmG M S a b)) := by kernel_rfl
def wmW : W6 → W6 → W6 × W6 := wmG mul64 add64
theorem wm_ctx : Ctx PR (rowE mul64 add64) [] (fun _ => none) 60 62 :=
  ctx_of (envH_ok eqsT_ok (TabPOk.cons mul64_ok (TabPOk.cons add64_ok TabPOk.nil)) TabHOk.nil) mixed (fn := Try.f62) (by kernel_rfl) (by kernel_rfl) (by kernel_rfl) (tabOk_none _)
theorem wm_ok : CallOk PR 62 (fn2 c6.agg c6.agg kNN wmW) :=
  .inl ⟨enters_of (fn := Try.f62) (by kernel_rfl) (by kernel_rfl) (by kernel_rfl), pure2 wm_ctx (fun a b => leafVal (B := kNN) (y := wmW a b) (wm_run mul64 add64 a b))⟩

/-! As numbers. -/
theorem mrW_eq {t : W6} {a : BitVec 64} {b : W6} {r0 r1 r2 r3 r4 r5 : BitVec 64 × BitVec 64}
    (h0 : mac a b.w0 t.w0 (bitW false) = r0) (h1 : mac a b.w1 t.w1 r0.2 = r1) (h2 : mac a b.w2 t.w2 r1.2 = r2) (h3 : mac a b.w3 t.w3 r2.2 = r3) (h4 : mac a b.w4 t.w4 r3.2 = r4) (h5 : mac a b.w5 t.w5 r4.2 = r5) :
    mrG mul64 add64 t a b = (r0.1, ⟨r1.1, r2.1, r3.1, r4.1, r5.1, r5.2⟩) := by
  subst h0 h1 h2 h3 h4 h5
  rfl
theorem mr_sum {p0 t0 r0 c0 p1 t1 r1 c1 p2 t2 r2 c2 p3 t3 r3 c3 p4 t4 r4 c4 p5 t5 r5 c5 : Nat} (e0 : r0 + 18446744073709551616 * c0 = p0 + t0) (e1 : r1 + 18446744073709551616 * c1 = p1 + t1 + c0) (e2 : r2 + 18446744073709551616 * c2 = p2 + t2 + c1) (e3 : r3 + 18446744073709551616 * c3 = p3 + t3 + c2) (e4 : r4 + 18446744073709551616 * c4 = p4 + t4 + c3) (e5 : r5 + 18446744073709551616 * c5 = p5 + t5 + c4) :
    r0 + 18446744073709551616 * (r1 + 18446744073709551616 * r2 + 340282366920938463463374607431768211456 * r3 + 6277101735386680763835789423207666416102355444464034512896 * r4 + 115792089237316195423570985008687907853269984665640564039457584007913129639936 * r5 + 2135987035920910082395021706169552114602704522356652769947041607822219725780640550022962086936576 * c5) =
    (t0 + 18446744073709551616 * t1 + 340282366920938463463374607431768211456 * t2 + 6277101735386680763835789423207666416102355444464034512896 * t3 + 115792089237316195423570985008687907853269984665640564039457584007913129639936 * t4 + 2135987035920910082395021706169552114602704522356652769947041607822219725780640550022962086936576 * t5) +
    (p0 + 18446744073709551616 * p1 + 340282366920938463463374607431768211456 * p2 + 6277101735386680763835789423207666416102355444464034512896 * p3 + 115792089237316195423570985008687907853269984665640564039457584007913129639936 * p4 + 2135987035920910082395021706169552114602704522356652769947041607822219725780640550022962086936576 * p5) := by
  omega
theorem mr_nat (t : W6) (a : BitVec 64) (b : W6) : (mrG mul64 add64 t a b).1.toNat + 18446744073709551616 * (mrG mul64 add64 t a b).2.val = t.val + a.toNat * b.val := by
  obtain ⟨r0, hr0⟩ : ∃ r, mac a b.w0 t.w0 (bitW false) = r := ⟨_, rfl⟩
  obtain ⟨r1, hr1⟩ : ∃ r, mac a b.w1 t.w1 r0.2 = r := ⟨_, rfl⟩
  obtain ⟨r2, hr2⟩ : ∃ r, mac a b.w2 t.w2 r1.2 = r := ⟨_, rfl⟩
  obtain ⟨r3, hr3⟩ : ∃ r, mac a b.w3 t.w3 r2.2 = r := ⟨_, rfl⟩
  obtain ⟨r4, hr4⟩ : ∃ r, mac a b.w4 t.w4 r3.2 = r := ⟨_, rfl⟩
  obtain ⟨r5, hr5⟩ : ∃ r, mac a b.w5 t.w5 r4.2 = r := ⟨_, rfl⟩
  have hres := mrW_eq hr0 hr1 hr2 hr3 hr4 hr5
  have e0 := mac_nat a b.w0 t.w0 (bitW false)
  rw [hr0, show (bitW false).toNat = 0 from rfl, Nat.add_zero] at e0
  have e1 := mac_nat a b.w1 t.w1 r0.2
  rw [hr1] at e1
  have e2 := mac_nat a b.w2 t.w2 r1.2
  rw [hr2] at e2
  have e3 := mac_nat a b.w3 t.w3 r2.2
  rw [hr3] at e3
  have e4 := mac_nat a b.w4 t.w4 r3.2
  rw [hr4] at e4
  have e5 := mac_nat a b.w5 t.w5 r4.2
  rw [hr5] at e5
  have sum := mr_sum e0 e1 e2 e3 e4 e5
  rw [← val_mul a.toNat b] at sum
  rw [hres]
  exact sum
theorem wm_sum {o0 o1 o2 o3 o4 o5 v1 v2 v3 v4 v5 v6 x0 x1 x2 x3 x4 x5 : Nat} (h0 : o0 + 18446744073709551616 * v1 = 0 + x0) (h1 : o1 + 18446744073709551616 * v2 = v1 + x1) (h2 : o2 + 18446744073709551616 * v3 = v2 + x2) (h3 : o3 + 18446744073709551616 * v4 = v3 + x3) (h4 : o4 + 18446744073709551616 * v5 = v4 + x4) (h5 : o5 + 18446744073709551616 * v6 = v5 + x5) :
    (o0 + 18446744073709551616 * o1 + 340282366920938463463374607431768211456 * o2 + 6277101735386680763835789423207666416102355444464034512896 * o3 + 115792089237316195423570985008687907853269984665640564039457584007913129639936 * o4 + 2135987035920910082395021706169552114602704522356652769947041607822219725780640550022962086936576 * o5) + 39402006196394479212279040100143613805079739270465446667948293404245721771497210611414266254884915640806627990306816 * v6 =
    (x0 + 18446744073709551616 * x1 + 340282366920938463463374607431768211456 * x2 + 6277101735386680763835789423207666416102355444464034512896 * x3 + 115792089237316195423570985008687907853269984665640564039457584007913129639936 * x4 + 2135987035920910082395021706169552114602704522356652769947041607822219725780640550022962086936576 * x5) := by
  omega
theorem wm_nat (a b : W6) : (wmW a b).1.val + 39402006196394479212279040100143613805079739270465446667948293404245721771497210611414266254884915640806627990306816 * (wmW a b).2.val = a.val * b.val := by
  have hb : a.val * b.val = (a.w0.toNat * b.val) + 18446744073709551616 * (a.w1.toNat * b.val) + 340282366920938463463374607431768211456 * (a.w2.toNat * b.val) + 6277101735386680763835789423207666416102355444464034512896 * (a.w3.toNat * b.val) + 115792089237316195423570985008687907853269984665640564039457584007913129639936 * (a.w4.toNat * b.val) + 2135987035920910082395021706169552114602704522356652769947041607822219725780640550022962086936576 * (a.w5.toNat * b.val) := by
    rw [Nat.mul_comm, val_mul]
    simp only [Nat.mul_comm b.val]
  rw [hb]
  have h0 := mr_nat zeroW a.w0 b
  rw [zero_val] at h0
  have h1 := mr_nat (mrG mul64 add64 zeroW a.w0 b).2 a.w1 b
  have h2 := mr_nat (mrG mul64 add64 (mrG mul64 add64 zeroW a.w0 b).2 a.w1 b).2 a.w2 b
  have h3 := mr_nat (mrG mul64 add64 (mrG mul64 add64 (mrG mul64 add64 zeroW a.w0 b).2 a.w1 b).2 a.w2 b).2 a.w3 b
  have h4 := mr_nat (mrG mul64 add64 (mrG mul64 add64 (mrG mul64 add64 (mrG mul64 add64 zeroW a.w0 b).2 a.w1 b).2 a.w2 b).2 a.w3 b).2 a.w4 b
  have h5 := mr_nat (mrG mul64 add64 (mrG mul64 add64 (mrG mul64 add64 (mrG mul64 add64 (mrG mul64 add64 zeroW a.w0 b).2 a.w1 b).2 a.w2 b).2 a.w3 b).2 a.w4 b).2 a.w5 b
  exact wm_sum h0 h1 h2 h3 h4 h5

/-- The lowest 190 bits. -/
def cutW (a : W6) : W6 := shDown (shUp a)
theorem down_lt (a : W6) : (shDown a).val < 1569275433846670190958947355801916604025588861116008628224 := by
  have h0 := (a.w4 <<< 62 ||| a.w3 >>> 2).isLt
  have h1 := (a.w5 <<< 62 ||| a.w4 >>> 2).isLt
  have h2 : (0#64 ||| a.w5 >>> 2).toNat < 4611686018427387904 := by
    rw [BitVec.zero_or, BitVec.toNat_ushiftRight, Nat.shiftRight_eq_div_pow]
    have := a.w5.isLt
    omega
  unfold shDown W6.val
  simp only
  generalize (a.w4 <<< 62 ||| a.w3 >>> 2).toNat = x at *
  generalize (a.w5 <<< 62 ||| a.w4 >>> 2).toNat = y at *
  generalize (0#64 ||| a.w5 >>> 2).toNat = z at *
  simp only [BitVec.toNat_ofNat, Nat.zero_mod]
  omega
theorem small_sum {m n : W6} (hm : m.val < 1569275433846670190958947355801916604025588861116008628224) (hn : n.val < 1569275433846670190958947355801916604025588861116008628224) : (wAddW m n).1.val = m.val + n.val := by
  have h := adds_nat m n
  have hb := b2n_le (adds m n).2
  show (adds m n).1.val = _
  generalize (adds m n).1.val = v at *
  generalize b2n (adds m n).2 = c at *
  omega
theorem small_mul {m n : W6} (hm : m.val < 1569275433846670190958947355801916604025588861116008628224) (hn : n.val < 1569275433846670190958947355801916604025588861116008628224) : (wmW m n).1.val = m.val * n.val := by
  have h := wm_nat m n
  have hp : m.val * n.val < 1569275433846670190958947355801916604025588861116008628224 * 1569275433846670190958947355801916604025588861116008628224 := Nat.mul_lt_mul'' hm hn
  generalize m.val * n.val = x at *
  omega
end Go.Rq

/- The law CurveTimes, gone through: what is called left open. -/
namespace Go.Rq
open Go Go.Proofs

structure TL (K : Type) where
  ck : Ap K → Bool
  ad : Ap K → Ap K → Ap K × Int
  mu : Ap K → W6 → Ap K × Int
structure WL where
  sh : W6 → Sh → W6
  ad : W6 → W6 → W6 × Bool
  mu : W6 → W6 → W6 × W6

def tmPart {K : Type} (eqP : Ap K → Ap K → Bool) (t : TL K) (a : Ap K) (m n s p : W6) (rest : Tree AV) : Tree AV :=
  .br (t.ck a) (.br (!(eqP (t.mu a s).1 (t.ad (t.mu a m).1 (t.mu a n).1).1)) grF (.br (!(eqP (t.mu (t.mu a m).1 n).1 (t.mu a p).1)) grF (.br (!((t.ad (t.mu a m).1 (t.mu a n).1).2 == 0)) grF (.br (!((t.mu a p).2 == 0)) grF rest)))) rest
def tmTree {K L : Type} (eqP : Ap K → Ap K → Bool) (eqQ : Ap L → Ap L → Bool) (t : TL K) (u : TL L) (w : WL) (a : Ap K) (b : Ap L) (m n : W6) : Tree AV :=
  tmPart eqP t a (w.sh (w.sh m .up) .down) (w.sh (w.sh n .up) .down) (w.ad (w.sh (w.sh m .up) .down) (w.sh (w.sh n .up) .down)).1 (w.mu (w.sh (w.sh m .up) .down) (w.sh (w.sh n .up) .down)).1
    (tmPart eqQ u b (w.sh (w.sh m .up) .down) (w.sh (w.sh n .up) .down) (w.ad (w.sh (w.sh m .up) .down) (w.sh (w.sh n .up) .down)).1 (w.mu (w.sh (w.sh m .up) .down) (w.sh (w.sh n .up) .down)).1 grT)

def tmT (t : TL W6) (u : TL D6) (w : WL) : PureTab := [(55, fn0 kBool true), (60, fn2 c6.agg kSh c6.agg w.sh), (61, fn2 c6.agg c6.agg kWB w.ad), (62, fn2 c6.agg c6.agg kNN w.mu),
  (30, fn1 aW.agg kBool t.ck), (36, fn2 aW.agg aW.agg kPW t.ad), (37, fn2 aW.agg c6.agg kPW t.mu),
  (43, fn1 aD.agg kBool u.ck), (49, fn2 aD.agg aD.agg kPD u.ad), (50, fn2 aD.agg c6.agg kPD u.mu)]
noncomputable def tmE (t : TL W6) (u : TL D6) (w : WL) : Env := envH eqsT (tmT t u w) []
set_option maxRecDepth 1000000 in
theorem times_law (t : TL W6) (u : TL D6) (w : WL) (a : Ap W6) (b : Ap D6) (m n : W6) : (afunR PR (tmE t u w) [58, 98, 103, 107, 110, 112, 152, 157, 161, 164] (fun _ => none) 10 9 [aW.agg.enc a, aD.agg.enc b, c6.agg.enc m, c6.agg.enc n]).strict =
    tmTree eqP13 eqP25 t u w a b m n := by kernel_rfl

/-- What makes the law true. -/
structure TLOk {K : Type} (eqP : Ap K → Ap K → Bool) (t : TL K) : Prop where
  refl : ∀ p, eqP p p = true
  main : ∀ (a : Ap K) (m n s p : W6), t.ck a = true → s.val = m.val + n.val → p.val = m.val * n.val →
    (t.mu a s).1 = (t.ad (t.mu a m).1 (t.mu a n).1).1 ∧ (t.mu (t.mu a m).1 n).1 = (t.mu a p).1 ∧ (t.ad (t.mu a m).1 (t.mu a n).1).2 = 0 ∧ (t.mu a p).2 = 0

theorem go_by {c : Bool} {x y : Tree AV} (hc : c = false) (h : y.holds (fun q => flat q = some (.bool true))) : (Tree.br c x y).holds (fun q => flat q = some (.bool true)) := ⟨fun ht => (by rw [hc] at ht; cases ht), fun _ => h⟩
theorem tmPart_true {K : Type} {eqP : Ap K → Ap K → Bool} {t : TL K} (h : TLOk eqP t) (a : Ap K) {m n s p : W6} (hs : s.val = m.val + n.val) (hp : p.val = m.val * n.val) {rest : Tree AV} (hr : rest.holds (fun q => flat q = some (.bool true))) :
    (tmPart eqP t a m n s p rest).holds (fun q => flat q = some (.bool true)) := by
  unfold tmPart
  refine ⟨fun hc => ?_, fun _ => hr⟩
  obtain ⟨h1, h2, h3, h4⟩ := h.main a m n s p hc hs hp
  refine go_by ?_ (go_by ?_ (go_by ?_ (go_by ?_ hr)))
  · rw [h1, h.refl]; rfl
  · rw [h2, h.refl]; rfl
  · rw [h3]; rfl
  · rw [h4]; rfl
end Go.Rq
