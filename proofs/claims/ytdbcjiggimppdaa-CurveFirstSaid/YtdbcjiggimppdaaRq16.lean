/- The reference's formulas over a field; multiples by the program and by the reference. -/
import Derived.Test.YtdbcjiggimppdaaRq14
import Derived.Test.YtdbcjiggimppdaaRq15
import Derived.Test.YtdbcjiggimppdaaRq09
import Derived.Test.YtdbcjiggimppdaaRq06
import Derived.Test.YtdbcjiggimppdaaRq07
namespace Go.Rq
open Go Go.Proofs

/-! Points of three elements, by the reference. -/
section
variable {K : Type} [Rg K] {iv : K → K} {e : K → K → Bool}

/-- The reference's operations go like a field's. -/
structure TRel (S : K → D6 → Prop) (o : Bool) (e : K → K → Bool) (t : TH) : Prop where
  mu : ∀ {p : Th} {x y : K} {a b : D6}, p.one = o → S x a → S y b → S (x * y) (t.mu p a b)
  tm : ∀ {x : K} {a : D6} (s : Sm), S x a → S (tmK x s.n) (t.tm a s)
  sb : ∀ {x y : K} {a b : D6}, S x a → S y b → S (x - y) (t.sb a b)
  zero : S 0 zeroD
  eq : ∀ {x y : K} {a b : D6}, S x a → S y b → e x y = eqD a b

structure TJ (S : K → D6 → Prop) (o : Bool) (p : Jp K) (q : Th) : Prop where
  x : S p.x q.x
  y : S p.y q.y
  z : S p.z q.z
  one : q.one = o

variable {S : K → D6 → Prop} {o : Bool} {t : TH}

theorem noneT_rel (h : TRel S o e t) {b : Bool} (hq : b = o) : TJ S o noneJ (noneT b) := ⟨h.zero, h.zero, h.zero, hq⟩

theorem dblF_rel (h : TRel S o e t) {p : Jp K} {q : Th} (hp : TJ S o p q) : TJ S o (dblF p) (dblP t q) := by
  have yy := h.mu hp.one hp.y hp.y
  have s := h.tm .n4 (h.mu hp.one hp.x yy)
  have m := h.tm .n3 (h.mu hp.one hp.x hp.x)
  have x := h.sb (h.mu hp.one m m) (h.tm .n2 s)
  exact ⟨x, h.sb (h.mu hp.one m (h.sb s x)) (h.tm .n8 (h.mu hp.one yy yy)), h.tm .n2 (h.mu hp.one hp.y hp.z), hp.one⟩

theorem dbl_rel (h : TRel S o e t) {p : Jp K} {q : Th} (hp : TJ S o p q) : TJ S o (dblK e p) (dblG t q) := by
  unfold dblK dblG
  rw [h.eq hp.z h.zero, h.eq hp.y h.zero]
  cases eqD q.z zeroD
  · cases eqD q.y zeroD
    · exact dblF_rel h hp
    · exact noneT_rel h hp.one
  · exact noneT_rel h hp.one

theorem hK_rel (h : TRel S o e t) {p u : Jp K} {q v : Th} (hp : TJ S o p q) (hu : TJ S o u v) : S (hK p u) (tAddH t q v) := h.sb (h.mu hp.one hu.x (h.mu hp.one hp.z hp.z)) hp.x
theorem kK_rel (h : TRel S o e t) {p u : Jp K} {q v : Th} (hp : TJ S o p q) (hu : TJ S o u v) : S (kK p u) (tAddK t q v) := h.sb (h.mu hp.one hu.y (h.mu hp.one (h.mu hp.one hp.z hp.z) hp.z)) hp.y

theorem addF_rel (h : TRel S o e t) {p u : Jp K} {q v : Th} (hp : TJ S o p q) (hu : TJ S o u v) (D : Th → Th) : TJ S o (addF p u) (addP t D q v) := by
  have hh := hK_rel h hp hu
  have k := kK_rel h hp hu
  have h2 := h.mu hp.one hh hh
  have h3 := h.mu hp.one h2 hh
  have w := h.mu hp.one hp.x h2
  have x := h.sb (h.sb (h.mu hp.one k k) h3) (h.tm .n2 w)
  exact ⟨x, h.sb (h.mu hp.one k (h.sb w x)) (h.mu hp.one hp.y h3), h.mu hp.one hp.z hh, hp.one⟩

theorem add_rel (h : TRel S o e t) {p u : Jp K} {q v : Th} (hp : TJ S o p q) (hu : TJ S o u v) : TJ S o (addK e p u) (addG t (dblG t) q v) := by
  unfold addK addG
  rw [h.eq hp.z h.zero, h.eq (hK_rel h hp hu) h.zero, h.eq (kK_rel h hp hu) h.zero]
  cases eqD q.z zeroD
  · cases eqD (tAddH t q v) zeroD
    · exact addF_rel h hp hu (dblG t)
    · cases eqD (tAddK t q v) zeroD
      · exact noneT_rel h hp.one
      · exact dbl_rel h hp
  · exact hu

theorem mult_rel (h : TRel S o e t) {p : Jp K} {q : Th} (hp : TJ S o p q) (w : W6) : ∀ (k : Nat) {u : Jp K} {v : Th}, TJ S o u v → TJ S o (multK e w.bit p k u) (multG ⟨dblG t, addG t (dblG t)⟩ q w k v)
  | 0, u, v, hu => hu
  | k + 1, u, v, hu => by
    simp only [multK, multG]
    apply mult_rel h hp w k
    cases w.bit k
    · exact dbl_rel h hu
    · exact add_rel h (dbl_rel h hu) hp

/-- The two elements. -/
theorem two_rel (h : TRel S o e t) {r : RO} {i2 : D6 → D6} (hi : ∀ {x : K} {a : D6}, S x a → S (iv x) (bif o then ⟨r.iv r.fp a.a, zeroW⟩ else i2 a)) {p : Jp K} {q : Th} (hp : TJ S o p q) :
    (twG r i2 t.mu q).2.2 = !(lowK iv e p).zero ∧ S (lowK iv e p).x (twG r i2 t.mu q).1 ∧ S (lowK iv e p).y (twG r i2 t.mu q).2.1 := by
  have low : ∀ {d : D6}, S (iv p.z) d → S (p.x * (iv p.z * iv p.z)) (twP t.mu q d).1 ∧ S (p.y * ((iv p.z * iv p.z) * iv p.z)) (twP t.mu q d).2.1 := fun {d} hd =>
    ⟨h.mu hp.one hp.x (h.mu hp.one hd hd), h.mu hp.one hp.y (h.mu hp.one (h.mu hp.one hd hd) hd)⟩
  unfold twG lowK
  rw [h.eq hp.z h.zero]
  cases eqD q.z zeroD
  · have hz := hi hp.z
    rw [hp.one]
    cases ho : o
    · rw [ho, cond_false] at hz
      exact ⟨rfl, low hz⟩
    · rw [ho, cond_true] at hz
      exact ⟨rfl, low hz⟩
  · exact ⟨rfl, h.zero, h.zero⟩
end

/-! Bits and lengths. -/
theorem bit_out (n : W6) {i : Nat} (h : 384 ≤ i) : n.bit i = false := by
  unfold W6.bit
  have : n.get (i / 64) = 0#64 := by
    unfold W6.get
    rw [List.getD_eq_getElem?_getD, List.getElem?_eq_none (by simp; omega)]
    rfl
  rw [this, BitVec.zero_ushiftRight]
  rfl

theorem bitI_bit (n : W6) (i : Nat) : (bitI n (i : Int) == 1) = n.bit i := by
  unfold bitI
  rw [show decide ((i : Int) < 0) = false from decide_eq_false (by omega)]
  by_cases h : 384 ≤ i
  · rw [show decide ((i : Int) ≥ 384) = true from decide_eq_true (by omega), bit_out n h]; rfl
  · rw [show decide ((i : Int) ≥ 384) = false from decide_eq_false (by omega)]
    rw [show ((i : Int)).toNat = i from rfl]
    cases n.bit i <;> rfl

theorem rlenL_zero (B : W6 → Int → Int) (n : W6) : ∀ (k i : Nat), i < k → chainV (rlenL B n k) 0 ≤ (i : Int) → (B n (i : Int) == 1) = false
  | 0, i, h, _ => by omega
  | k + 1, i, h, hc => by
    simp only [rlenL, chainV] at hc
    cases hb : B n (k : Int) == 1 with
    | true =>
      rw [hb, cond_true] at hc
      omega
    | false =>
      rw [hb, cond_false] at hc
      by_cases he : i = k
      · subst he; exact hb
      · exact rlenL_zero B n k i (by omega) hc

theorem rlen_bits (n : W6) {i : Nat} (h : (rlenI n).toNat ≤ i) : n.bit i = false := by
  by_cases hi : 384 ≤ i
  · exact bit_out n hi
  · rw [← bitI_bit]
    refine rlenL_zero bitI n 384 i (by omega) ?_
    have := (rlenI_le n).1
    show rlenI n ≤ (i : Int)
    omega

theorem word_bit (w : BitVec 64) {j : Nat} (h : w.toNat < 2 ^ j) : (((w >>> j) &&& 1#64) == 1#64) = false := by
  have : w >>> j = 0#64 := by
    apply BitVec.eq_of_toNat_eq
    rw [BitVec.toNat_ushiftRight, Nat.shiftRight_eq_div_pow, Nat.div_eq_of_lt h]
    rfl
  rw [this]
  rfl

theorem bl_bits {w : BitVec 64} {j : Nat} (h : bl w.toNat ≤ j) : (((w >>> j) &&& 1#64) == 1#64) = false := word_bit w (bl_spec.1 h)

theorem bl_le (x : BitVec 64) : bl x.toNat ≤ 64 := bl_spec.2 x.isLt

theorem len_step {w : BitVec 64} {k : Int} {l : List (Bool × Int)} {i : Nat} (h0 : 0 ≤ k) (h1 : k ≤ 320) (h : chainV ((w != 0#64, IntKind.i64.wrap (k + ((bl w.toNat : Nat) : Int))) :: l) 0 ≤ (i : Int)) :
    k + ((bl w.toNat : Nat) : Int) ≤ (i : Int) ∨ (w = 0#64 ∧ chainV l 0 ≤ (i : Int)) := by
  have hb := bl_le w
  simp only [chainV] at h
  cases hc : w != 0#64 with
  | true =>
    rw [hc, cond_true, wrap_id (by omega) (by omega)] at h
    exact .inl h
  | false =>
    rw [hc, cond_false] at h
    exact .inr ⟨by simpa using hc, h⟩

theorem len_bits (n : W6) {i : Nat} (h : (lenI n).toNat ≤ i) : n.bit i = false := by
  by_cases hi : 384 ≤ i
  · exact bit_out n hi
  have h0 := (lenI_le n).1
  have h' : lenI n ≤ (i : Int) := by omega
  have z : ∀ j, (((0#64 >>> j) &&& 1#64) == 1#64) = false := fun j => word_bit 0#64 (by simp; exact Nat.two_pow_pos j)
  have hcases : i / 64 = 0 ∨ i / 64 = 1 ∨ i / 64 = 2 ∨ i / 64 = 3 ∨ i / 64 = 4 ∨ i / 64 = 5 := by omega
  have gb : ∀ {w : BitVec 64} {k : Nat}, n.get (i / 64) = w → i / 64 = k → 64 * (k : Int) + ((bl w.toNat : Nat) : Int) ≤ (i : Int) → n.bit i = false := fun {w k} hw hk hl => by
    unfold W6.bit
    rw [hw]
    exact bl_bits (by omega)
  have gz : n.get (i / 64) = 0#64 → n.bit i = false := fun hw => by
    unfold W6.bit
    rw [hw]
    exact z _
  have b0 := bl_le n.w0; have b1 := bl_le n.w1; have b2 := bl_le n.w2; have b3 := bl_le n.w3; have b4 := bl_le n.w4; have b5 := bl_le n.w5
  have up : ∀ {m : Nat} {x : Nat}, i / 64 < m → (64 * m + x : Int) ≤ (i : Int) → False := fun {m x} h1 h2 => by omega
  unfold lenI lenL at h'
  rcases len_step (by omega) (by omega) h' with h5 | ⟨z5, h'⟩
  · rcases hcases with c | c | c | c | c | c
    · exact (up (m := 5) (by omega) h5).elim
    · exact (up (m := 5) (by omega) h5).elim
    · exact (up (m := 5) (by omega) h5).elim
    · exact (up (m := 5) (by omega) h5).elim
    · exact (up (m := 5) (by omega) h5).elim
    · exact gb (by rw [c]; rfl) c h5
  rcases len_step (by omega) (by omega) h' with h4 | ⟨z4, h'⟩
  · rcases hcases with c | c | c | c | c | c
    · exact (up (m := 4) (by omega) h4).elim
    · exact (up (m := 4) (by omega) h4).elim
    · exact (up (m := 4) (by omega) h4).elim
    · exact (up (m := 4) (by omega) h4).elim
    · exact gb (by rw [c]; rfl) c h4
    · exact gz (by rw [c]; exact z5)
  rcases len_step (by omega) (by omega) h' with h3 | ⟨z3, h'⟩
  · rcases hcases with c | c | c | c | c | c
    · exact (up (m := 3) (by omega) h3).elim
    · exact (up (m := 3) (by omega) h3).elim
    · exact (up (m := 3) (by omega) h3).elim
    · exact gb (by rw [c]; rfl) c h3
    · exact gz (by rw [c]; exact z4)
    · exact gz (by rw [c]; exact z5)
  rcases len_step (by omega) (by omega) h' with h2 | ⟨z2, h'⟩
  · rcases hcases with c | c | c | c | c | c
    · exact (up (m := 2) (by omega) h2).elim
    · exact (up (m := 2) (by omega) h2).elim
    · exact gb (by rw [c]; rfl) c h2
    · exact gz (by rw [c]; exact z3)
    · exact gz (by rw [c]; exact z4)
    · exact gz (by rw [c]; exact z5)
  rcases len_step (by omega) (by omega) h' with h1 | ⟨z1, h'⟩
  · rcases hcases with c | c | c | c | c | c
    · exact (up (m := 1) (by omega) h1).elim
    · exact gb (by rw [c]; rfl) c h1
    · exact gz (by rw [c]; exact z2)
    · exact gz (by rw [c]; exact z3)
    · exact gz (by rw [c]; exact z4)
    · exact gz (by rw [c]; exact z5)
  rcases len_step (by omega) (by omega) h' with h0 | ⟨z0, h'⟩
  · rcases hcases with c | c | c | c | c | c
    · exact gb (by rw [c]; rfl) c h0
    · exact gz (by rw [c]; exact z1)
    · exact gz (by rw [c]; exact z2)
    · exact gz (by rw [c]; exact z3)
    · exact gz (by rw [c]; exact z4)
    · exact gz (by rw [c]; exact z5)
  · rcases hcases with c | c | c | c | c | c
    · exact gz (by rw [c]; exact z0)
    · exact gz (by rw [c]; exact z1)
    · exact gz (by rw [c]; exact z2)
    · exact gz (by rw [c]; exact z3)
    · exact gz (by rw [c]; exact z4)
    · exact gz (by rw [c]; exact z5)

/-! Multiples, by the program. -/
section
variable {K : Type} [Rg K] {iv : K → K} {e : K → K → Bool}

theorem times_run (f : Fl K) (p : Jp K) (n : W6) : ∀ (k : Nat) (u : Jp K), timesG (tOf (foK iv) e) f p n k u = runK iv e f n.bit p k u
  | 0, u => rfl
  | k + 1, u => by
    show timesG (tOf (foK iv) e) f p n k (bif bitI n (k : Int) == 1 then sumE (foK iv) e f (twiceJ (foK iv) u) p else twiceJ (foK iv) u) = _
    rw [bitI_bit, times_run f p n k]
    rfl

def timesF (iv : K → K) (e : K → K → Bool) (f : Fl K) (p : Jp K) (n : W6) : Jp K := timesG (tOf (foK iv) e) f p n (lenI n).toNat ⟨f.one, f.one, 0⟩
def gaF (iv : K → K) (e : K → K → Bool) : GO K := gOf (foK iv) e (timesF iv e)

theorem twice_none {u : Jp K} (hu : u.z = 0) : (twiceJ (foK iv) u).z = 0 := by rw [twice_z, hu]; exact rg [u.y]

theorem run_none (F : Fd K iv e) {f : Fl K} {b : Nat → Bool} {p : Jp K} (hp : p.z = 0) : ∀ (k : Nat) {u : Jp K}, u.z = 0 → (runK iv e f b p k u).z = 0
  | 0, u, hu => hu
  | k + 1, u, hu => by
    simp only [runK]
    apply run_none F hp k
    cases b k
    · exact twice_none hu
    · show (sumE (foK iv) e f (twiceJ (foK iv) u) p).z = 0
      unfold sumE
      rw [show (foK iv).zero = (0 : K) from rfl, F.eq.2 (twice_none hu)]
      exact hp

theorem low_none (F : Fd K iv e) {u : Jp K} (hu : u.z = 0) : lowerE (foK iv) e u = ⟨0, 0, true⟩ := by
  unfold lowerE
  rw [show (foK iv).zero = (0 : K) from rfl, F.eq.2 hu]
  rfl

theorem sum_none (F : Fd K iv e) (f : Fl K) {u v : Jp K} (hu : u.z = 0) : sumE (foK iv) e f u v = v := by
  unfold sumE
  rw [show (foK iv).zero = (0 : K) from rfl, F.eq.2 hu]
  rfl

/-- A multiple by the program is that by the reference. -/
theorem times_low (F : Fd K iv e) {f : Fl K} (hf : f.one = 1) {p : Ap K} (hp : p.zero = true → p = ⟨0, 0, true⟩) (n : W6) {l : Nat} (hl : (rlenI n).toNat ≤ l) :
    lowerE (foK iv) e (timesF iv e f (raiseJ (foK iv) f p) n) = bif p.zero then p else lowK iv e (multK e n.bit ⟨p.x, p.y, 1⟩ l noneJ) := by
  unfold timesF
  rw [times_run]
  cases hz : p.zero with
  | true =>
    have hr : (raiseJ (foK iv) f p).z = 0 := by unfold raiseJ; rw [hz]; rfl
    rw [low_none F (run_none F hr _ rfl), cond_true]
    exact (hp hz).symm
  | false =>
    have hr : raiseJ (foK iv) f p = ⟨p.x, p.y, 1⟩ := by unfold raiseJ; rw [hz, hf]; rfl
    rw [hr, cond_false]
    exact low_eq F (run_mult2 F rfl (fun i hi => len_bits n hi) (fun i hi => rlen_bits n (Nat.le_trans hl hi)) rfl rfl)

theorem ga1_low (F : Fd K iv e) {f : Fl K} (hf : f.one = 1) {p : Ap K} (hp : p.zero = true → p = ⟨0, 0, true⟩) (hon : onE (foK iv) e f p = true) (n : W6) {l : Nat} (hl : (rlenI n).toNat ≤ l) :
    ga1 (gaF iv e) 0 f p n = (bif p.zero then p else lowK iv e (multK e n.bit ⟨p.x, p.y, 1⟩ l noneJ), 0) := by
  have h : ga1 (gaF iv e) 0 f p n = bif onE (foK iv) e f p then (lowerE (foK iv) e (sumE (foK iv) e f ⟨f.one, f.one, 0⟩ (timesF iv e f (raiseJ (foK iv) f p) n)), 0) else (⟨0, 0, false⟩, 5) := rfl
  rw [h, hon, cond_true, sum_none F f rfl, times_low F hf hp n hl]

theorem one_len : (lenI (ofW (bitW true))).toNat = 1 := by decide +kernel
theorem one_bit : (ofW (bitW true)).bit 0 = true := by decide +kernel
theorem times_one (F : Fd K iv e) (f : Fl K) (p : Jp K) : timesF iv e f p (ofW (bitW true)) = p := by
  unfold timesF
  rw [times_run, one_len]
  simp only [runK]
  rw [one_bit, cond_true, sum_none F f (twice_none rfl)]

theorem ga2_low (F : Fd K iv e) {f : Fl K} (hf : f.one = 1) {p q : Ap K} (hp : p.zero = true → p = ⟨0, 0, true⟩) (hq : q.zero = true → q = ⟨0, 0, true⟩) (hon : onE (foK iv) e f p = true) (hoq : onE (foK iv) e f q = true) :
    ga2 (gaF iv e) 0 f (p, q) (ofW (bitW true), ofW (bitW true)) = (sumA iv e p q, 0) := by
  have h : ga2 (gaF iv e) 0 f (p, q) (ofW (bitW true), ofW (bitW true)) = bif onE (foK iv) e f p then (bif onE (foK iv) e f q then (lowerE (foK iv) e (sumE (foK iv) e f (sumE (foK iv) e f ⟨f.one, f.one, 0⟩ (timesF iv e f (raiseJ (foK iv) f p) (ofW (bitW true)))) (timesF iv e f (raiseJ (foK iv) f q) (ofW (bitW true)))), 0) else (⟨0, 0, false⟩, 5)) else (⟨0, 0, false⟩, 5) := rfl
  have eqn : ∀ {p : Ap K}, onE (foK iv) e f p = true → p.zero = false → p.y * p.y = p.x * p.x * p.x + f.b := fun {p} h1 h2 => by
    unfold onE at h1
    rw [h2, cond_false] at h1
    exact F.eq.1 h1
  rw [h, hon, hoq, cond_true, cond_true, times_one F, times_one F, sum_none F f (u := ⟨f.one, f.one, 0⟩) rfl, sum_slope F hf hp hq (eqn hon) (eqn hoq)]
end
end Go.Rq

/- The law CurveFirst, gone through: what is called left open. -/
namespace Go.Rq
open Go Go.Proofs

/-- What the law calls, left open. -/
structure LO (K : Type) where
  ck : Ap K → Bool
  ckP : Ap K → Bool
  ig : Ap K → Bool
  igP : Ap K → Bool
  ge : Ap K
  geP : Ap K
  ne : Ap K → Ap K
  neP : Ap K → Ap K × Int
  ad : Ap K → Ap K → Ap K
  adP : Ap K → Ap K → Ap K × Int
  mu : Ap K → W6 → Ap K
  muP : Ap K → W6 → Ap K × Int
  on : Ap K → Int → Bool → Ap K → Bool
def loT (t : LO W6) : PureTab := [(29, fn1 aW.agg kBool t.ck), (30, fn1 aW.agg kBool t.ckP), (32, fn1 aW.agg kBool t.ig), (31, fn1 aW.agg kBool t.igP),
  (34, fn0 aW.agg t.ge), (33, fn0 aW.agg t.geP), (40, fn1 aW.agg aW.agg t.ne), (35, fn1 aW.agg kPW t.neP),
  (39, fn2 aW.agg aW.agg aW.agg t.ad), (36, fn2 aW.agg aW.agg kPW t.adP), (41, fn2 aW.agg c6.agg aW.agg t.mu), (37, fn2 aW.agg c6.agg kPW t.muP),
  (38, fn4 aW.agg (kInt .i64) kBool aW.agg kBool t.on)]
noncomputable def loE (t : LO W6) : Env := envH eqsT (loT t) []

def loFalse : Tree AV := .leaf (.lit false)
def loEnd {K : Type} (t : LO K) (a _b : Ap K) (n : W6) (sum : Bool) : Tree AV :=
  .br (t.on (t.neP a).1 (t.neP a).2 true (t.ne a)) (.br sum (.leaf (kBool.enc (t.on (t.muP a n).1 (t.muP a n).2 true (t.mu a n)))) loFalse) loFalse
def loMain {K : Type} (t : LO K) (a b : Ap K) (n : W6) : Tree AV :=
  .br (!t.ck a)
    (.br (t.on (t.neP a).1 (t.neP a).2 false a) (.br (t.on (t.adP a b).1 (t.adP a b).2 false a) (.leaf (kBool.enc (t.on (t.muP a n).1 (t.muP a n).2 false a))) loFalse) loFalse)
    (.br (t.ck b) (loEnd t a b n (t.on (t.adP a b).1 (t.adP a b).2 true (t.ad a b))) (loEnd t a b n (t.on (t.adP a b).1 (t.adP a b).2 false a)))
def loTree {K : Type} (eqP : Ap K → Ap K → Bool) (t : LO K) (a b : Ap K) (n : W6) : Tree AV :=
  .br (!(t.ckP a == t.ck a)) loFalse
    (.br (t.ck a) (.br (!(t.igP a == t.ig a)) loFalse (.br (!(eqP t.geP t.ge)) loFalse (loMain t a b n)))
      (.br (!(t.igP a == false)) loFalse (.br (!(eqP t.geP t.ge)) loFalse (loMain t a b n))))
set_option maxRecDepth 1000000 in
theorem first_law (t : LO W6) (a b : Ap W6) (n : W6) : (afunR PR (loE t) [24, 28, 34, 38, 57, 62, 68, 78, 90, 93] (fun _ => none) 10 4 [aW.agg.enc a, aW.agg.enc b, c6.agg.enc n]).strict = loTree eqP13 t a b n := by kernel_rfl

/-- What makes the law true. -/
structure LOk {K : Type} (eqP : Ap K → Ap K → Bool) (none : Ap K) (t : LO K) : Prop where
  on : ∀ p e f w, t.on p e f w = bif !f then (bif eqP p none then e == 5 else false) else (bif eqP p w then e == 0 else false)
  refl : ∀ p, eqP p p = true
  ck : ∀ p, t.ckP p = t.ck p
  ig : ∀ p, t.igP p = bif t.ck p then t.ig p else false
  ge : t.geP = t.ge
  ne : ∀ p, t.neP p = bif t.ck p then (t.ne p, 0) else (none, 5)
  ad : ∀ p q, t.adP p q = bif t.ck p then (bif t.ck q then (t.ad p q, 0) else (none, 5)) else (none, 5)
  mu : ∀ p n, t.muP p n = bif t.ck p then (t.mu p n, 0) else (none, 5)

theorem loTree_true {K : Type} {eqP : Ap K → Ap K → Bool} {none : Ap K} {t : LO K} (h : LOk eqP none t) (a b : Ap K) (n : W6) : (loTree eqP t a b n).holds (fun q => flat q = some (.bool true)) := by
  have hmain : (loMain t a b n).holds (fun q => flat q = some (.bool true)) := by
    unfold loMain loEnd loFalse
    rw [h.ne, h.ad, h.mu]
    cases ha : t.ck a <;> cases hb : t.ck b <;> simp [Tree.holds, h.on, h.refl, kBool, flat, scal]
  unfold loTree
  rw [h.ck, h.ig, h.ge, h.refl]
  refine ⟨fun h1 => by simp at h1, fun _ => ⟨fun h2 => ⟨fun h3 => ?_, fun _ => ⟨fun h4 => by simp at h4, fun _ => hmain⟩⟩, fun h2 => ⟨fun h3 => ?_, fun _ => ⟨fun h4 => by simp at h4, fun _ => hmain⟩⟩⟩⟩
  · rw [h2] at h3; simp at h3
  · rw [h2] at h3; simp at h3
end Go.Rq

/- Numbers out of text: gone through where they are called. -/
namespace Go.Rq
open Go Go.Proofs

theorem ibs_ok : CallOk PR 197 (fn2 kStr (kInt .u8) (kInt .i64) idxByte) :=
  .inr (ext2 (fn := Try.f197) (by kernel_rfl) (by kernel_rfl) (by kernel_rfl) (by kernel_rfl) (r := Extern.BytealgIndexByte.indexByte) (by kernel_rfl) idxByte_run)
def ibT (X : ByteArray → Int → Int) : PureTab := [(197, fn2 kStr (kInt .u8) (kInt .i64) X), (192, fn2 kStr (kInt .u8) (kInt .i64) X)]
theorem ib1_run (X : ByteArray → Int → Int) (s : ByteArray) (b : Int) : (afunR PR (envOf eqsT [(197, fn2 kStr (kInt .u8) (kInt .i64) X)]) [] (fun _ => none) 40 192 [kStr.enc s, (kInt .u8).enc b]).strict = .leaf ((kInt .i64).enc (X s b)) := by kernel_rfl
theorem ib2_run (X : ByteArray → Int → Int) (s : ByteArray) (b : Int) : (afunR PR (envOf eqsT [(192, fn2 kStr (kInt .u8) (kInt .i64) X)]) [] (fun _ => none) 40 178 [kStr.enc s, (kInt .u8).enc b]).strict = .leaf ((kInt .i64).enc (X s b)) := by kernel_rfl
def ib1T : PureTab := [(197, fn2 kStr (kInt .u8) (kInt .i64) idxByte)]
theorem ib1T_ok : TabPOk PR ib1T := TabPOk.cons ibs_ok TabPOk.nil
theorem ib1_ctx : Ctx PR (envOf eqsT ib1T) [] (fun _ => none) 40 192 :=
  ctx_of (envOf_ok eqsT_ok ib1T_ok) mixed (fn := Try.f192) (by kernel_rfl) (by kernel_rfl) (by kernel_rfl) (tabOk_none _)
theorem ib1_ok : CallOk PR 192 (fn2 kStr (kInt .u8) (kInt .i64) idxByte) :=
  .inl ⟨enters_of (fn := Try.f192) (by kernel_rfl) (by kernel_rfl) (by kernel_rfl), pure2 ib1_ctx (fun s b => leafVal (B := kInt .i64) (y := idxByte s b) (ib1_run idxByte s b))⟩
def ib2T : PureTab := [(192, fn2 kStr (kInt .u8) (kInt .i64) idxByte)]
theorem ib2T_ok : TabPOk PR ib2T := TabPOk.cons ib1_ok TabPOk.nil
theorem ib2_ctx : Ctx PR (envOf eqsT ib2T) [] (fun _ => none) 40 178 :=
  ctx_of (envOf_ok eqsT_ok ib2T_ok) mixed (fn := Try.f178) (by kernel_rfl) (by kernel_rfl) (by kernel_rfl) (tabOk_none _)
theorem ib2_ok : CallOk PR 178 (fn2 kStr (kInt .u8) (kInt .i64) idxByte) :=
  .inl ⟨enters_of (fn := Try.f178) (by kernel_rfl) (by kernel_rfl) (by kernel_rfl), pure2 ib2_ctx (fun s b => leafVal (B := kInt .i64) (y := idxByte s b) (ib2_run idxByte s b))⟩
end Go.Rq

/- Numbers out of text: shift by four; the text's digits; a generator's number is gone through where it is told. -/
namespace Go.Rq
open Go Go.Proofs
def shift4 (a : W6) : W6 := ⟨a.w0 <<< 4, a.w1 <<< 4 ||| a.w0 >>> 60, a.w2 <<< 4 ||| a.w1 >>> 60, a.w3 <<< 4 ||| a.w2 >>> 60, a.w4 <<< 4 ||| a.w3 >>> 60, a.w5 <<< 4 ||| a.w4 >>> 60⟩
set_option maxRecDepth 100000 in
theorem shift4_run (a : W6) : (afunR PR (envOf eqsT []) [] (fun _ => none) 40 60 [c6.agg.enc a, (kInt .i64).enc 4]).strict = .leaf (c6.agg.enc (shift4 a)) := by kernel_rfl

/-- One number alone. -/
def kAt (k : IntKind) (n : Int) : Cod Unit where
  enc _ := .v (.int k n)
  dec a := match a with
    | .v (.int k' m) => match decide (k' = k ∧ m = n) with
      | true => some ()
      | false => none
    | _ => none
  val _ := .int k n
  h1 _ := rfl
  h2 ρ a v x h r := by
    split at h
    · rename_i k' m
      split at h
      · rename_i e
        obtain ⟨rfl, rfl⟩ := of_decide_eq_true e
        cases r
        rfl
      · cases h
    · cases h

theorem shift_ctx : Ctx PR (envOf eqsT []) [] (fun _ => none) 40 60 :=
  ctx_of (envOf_ok eqsT_ok TabPOk.nil) mixed (fn := Try.f60) (by kernel_rfl) (by kernel_rfl) (by kernel_rfl) (tabOk_none _)
theorem shift_ok : CallOk PR 60 (fn2 c6.agg (kAt .i64 4) c6.agg (fun a _ => shift4 a)) :=
  .inl ⟨enters_of (fn := Try.f60) (by kernel_rfl) (by kernel_rfl) (by kernel_rfl), pure2 (C := kAt .i64 4) shift_ctx (fun a _ => leafVal (B := c6.agg) (y := shift4 a) (shift4_run a))⟩

def parseT : PureTab := [(60, fn2 c6.agg (kAt .i64 4) c6.agg (fun a _ => shift4 a)), (178, fn2 kStr (kInt .u8) (kInt .i64) idxByte)]
theorem parseT_ok : TabPOk PR parseT := TabPOk.cons shift_ok (TabPOk.cons ib2_ok TabPOk.nil)
theorem parse_ctx : Ctx PR (envOf eqsT parseT) [] (fun _ => none) 110 140 :=
  ctx_of (envOf_ok eqsT_ok parseT_ok) mixed (fn := Try.f140) (by kernel_rfl) (by kernel_rfl) (by kernel_rfl) (tabOk_none _)
end Go.Rq

/- The generators' numbers, gone through out of their texts. -/
namespace Go.Rq
open Go Go.Proofs

def genS0 : ByteArray := ⟨#[49, 55, 102, 49, 100, 51, 97, 55, 51, 49, 57, 55, 100, 55, 57, 52, 50, 54, 57, 53, 54, 51, 56, 99, 52, 102, 97, 57, 97, 99, 48, 102, 99, 51, 54, 56, 56, 99, 52, 102, 57, 55, 55, 52, 98, 57, 48, 53, 97, 49, 52, 101, 51, 97, 51, 102, 49, 55, 49, 98, 97, 99, 53, 56, 54, 99, 53, 53, 101, 56, 51, 102, 102, 57, 55, 97, 49, 97, 101, 102, 102, 98, 51, 97, 102, 48, 48, 97, 100, 98, 50, 50, 99, 54, 98, 98]⟩
def genN0 : W6 := ⟨0xfb3af00adb22c6bb#64, 0x6c55e83ff97a1aef#64, 0xa14e3a3f171bac58#64, 0xc3688c4f9774b905#64, 0x2695638c4fa9ac0f#64, 0x17f1d3a73197d794#64⟩
def genS1 : ByteArray := ⟨#[56, 98, 51, 102, 52, 56, 49, 101, 51, 97, 97, 97, 48, 102, 49, 97, 48, 57, 101, 51, 48, 101, 100, 55, 52, 49, 100, 56, 97, 101, 52, 102, 99, 102, 53, 101, 48, 57, 53, 100, 53, 100, 48, 48, 97, 102, 54, 48, 48, 100, 98, 49, 56, 99, 98, 50, 99, 48, 52, 98, 51, 101, 100, 100, 48, 51, 99, 99, 55, 52, 52, 97, 50, 56, 56, 56, 97, 101, 52, 48, 99, 97, 97, 50, 51, 50, 57, 52, 54, 99, 53, 101, 55, 101, 49]⟩
def genN1 : W6 := ⟨0xcaa232946c5e7e1#64, 0xd03cc744a2888ae4#64, 0xdb18cb2c04b3ed#64, 0xfcf5e095d5d00af6#64, 0xa09e30ed741d8ae4#64, 0x8b3f481e3aaa0f1#64⟩
def genS2 : ByteArray := ⟨#[50, 52, 97, 97, 50, 98, 50, 102, 48, 56, 102, 48, 97, 57, 49, 50, 54, 48, 56, 48, 53, 50, 55, 50, 100, 99, 53, 49, 48, 53, 49, 99, 54, 101, 52, 55, 97, 100, 52, 102, 97, 52, 48, 51, 98, 48, 50, 98, 52, 53, 49, 48, 98, 54, 52, 55, 97, 101, 51, 100, 49, 55, 55, 48, 98, 97, 99, 48, 51, 50, 54, 97, 56, 48, 53, 98, 98, 101, 102, 100, 52, 56, 48, 53, 54, 99, 56, 99, 49, 50, 49, 98, 100, 98, 56]⟩
def genN2 : W6 := ⟨0xd48056c8c121bdb8#64, 0xbac0326a805bbef#64, 0xb4510b647ae3d177#64, 0xc6e47ad4fa403b02#64, 0x260805272dc51051#64, 0x24aa2b2f08f0a91#64⟩
def genS3 : ByteArray := ⟨#[49, 51, 101, 48, 50, 98, 54, 48, 53, 50, 55, 49, 57, 102, 54, 48, 55, 100, 97, 99, 100, 51, 97, 48, 56, 56, 50, 55, 52, 102, 54, 53, 53, 57, 54, 98, 100, 48, 100, 48, 57, 57, 50, 48, 98, 54, 49, 97, 98, 53, 100, 97, 54, 49, 98, 98, 100, 99, 55, 102, 53, 48, 52, 57, 51, 51, 52, 99, 102, 49, 49, 50, 49, 51, 57, 52, 53, 100, 53, 55, 101, 53, 97, 99, 55, 100, 48, 53, 53, 100, 48, 52, 50, 98, 55, 101]⟩
def genN3 : W6 := ⟨0xe5ac7d055d042b7e#64, 0x334cf11213945d57#64, 0xb5da61bbdc7f5049#64, 0x596bd0d09920b61a#64, 0x7dacd3a088274f65#64, 0x13e02b6052719f60#64⟩
def genS4 : ByteArray := ⟨#[99, 101, 53, 100, 53, 50, 55, 55, 50, 55, 100, 54, 101, 49, 49, 56, 99, 99, 57, 99, 100, 99, 54, 100, 97, 50, 101, 51, 53, 49, 97, 97, 100, 102, 100, 57, 98, 97, 97, 56, 99, 98, 100, 100, 51, 97, 55, 54, 100, 52, 50, 57, 97, 54, 57, 53, 49, 54, 48, 100, 49, 50, 99, 57, 50, 51, 97, 99, 57, 99, 99, 51, 98, 97, 99, 97, 50, 56, 57, 101, 49, 57, 51, 53, 52, 56, 54, 48, 56, 98, 56, 50, 56, 48, 49]⟩
def genN4 : W6 := ⟨0xe193548608b82801#64, 0x923ac9cc3baca289#64, 0x6d429a695160d12c#64, 0xadfd9baa8cbdd3a7#64, 0x8cc9cdc6da2e351a#64, 0xce5d527727d6e11#64⟩
def genS5 : ByteArray := ⟨#[54, 48, 54, 99, 52, 97, 48, 50, 101, 97, 55, 51, 52, 99, 99, 51, 50, 97, 99, 100, 50, 98, 48, 50, 98, 99, 50, 56, 98, 57, 57, 99, 98, 51, 101, 50, 56, 55, 101, 56, 53, 97, 55, 54, 51, 97, 102, 50, 54, 55, 52, 57, 50, 97, 98, 53, 55, 50, 101, 57, 57, 97, 98, 51, 102, 51, 55, 48, 100, 50, 55, 53, 99, 101, 99, 49, 100, 97, 49, 97, 97, 97, 57, 48, 55, 53, 102, 102, 48, 53, 102, 55, 57, 98, 101]⟩
def genN5 : W6 := ⟨0xaaa9075ff05f79be#64, 0x3f370d275cec1da1#64, 0x267492ab572e99ab#64, 0xcb3e287e85a763af#64, 0x32acd2b02bc28b99#64, 0x606c4a02ea734cc#64⟩
def kNE : Cod (W6 × Int) := kTup c6.agg (kInt .i64) (fun _ => rfl) (fun _ => rfl)
set_option maxRecDepth 1000000 in
theorem genP0 : (afunR PR (envOf eqsT parseT) [] (fun _ => none) 110 140 [kStr.enc genS0]).strict = .leaf (kNE.enc (genN0, 0)) := by kernel_rfl
set_option maxRecDepth 1000000 in
theorem genP1 : (afunR PR (envOf eqsT parseT) [] (fun _ => none) 110 140 [kStr.enc genS1]).strict = .leaf (kNE.enc (genN1, 0)) := by kernel_rfl
set_option maxRecDepth 1000000 in
theorem genP2 : (afunR PR (envOf eqsT parseT) [] (fun _ => none) 110 140 [kStr.enc genS2]).strict = .leaf (kNE.enc (genN2, 0)) := by kernel_rfl
set_option maxRecDepth 1000000 in
theorem genP3 : (afunR PR (envOf eqsT parseT) [] (fun _ => none) 110 140 [kStr.enc genS3]).strict = .leaf (kNE.enc (genN3, 0)) := by kernel_rfl
set_option maxRecDepth 1000000 in
theorem genP4 : (afunR PR (envOf eqsT parseT) [] (fun _ => none) 110 140 [kStr.enc genS4]).strict = .leaf (kNE.enc (genN4, 0)) := by kernel_rfl
set_option maxRecDepth 1000000 in
theorem genP5 : (afunR PR (envOf eqsT parseT) [] (fun _ => none) 110 140 [kStr.enc genS5]).strict = .leaf (kNE.enc (genN5, 0)) := by kernel_rfl

def eqStr (a b : ByteArray) : Bool := a.data.toList == b.data.toList
theorem eqStr_ok (a b : ByteArray) (h : eqStr a b = true) : a = b := by
  have h := eq_of_beq h
  cases a; cases b
  simp at h
  rw [h]
def genT : List (ByteArray × (W6 × Int)) := [(genS0, (genN0, 0)), (genS1, (genN1, 0)), (genS2, (genN2, 0)), (genS3, (genN3, 0)), (genS4, (genN4, 0)), (genS5, (genN5, 0))]
theorem parse_ok : CallOk PR 140 (fnT1 kStr kNE eqStr genT) :=
  .inl ⟨enters_of (fn := Try.f140) (by kernel_rfl) (by kernel_rfl) (by kernel_rfl), tabT1 (B := kNE) parse_ctx eqStr_ok (fun p hp => by
    simp only [genT, List.mem_cons, List.not_mem_nil, or_false] at hp
    rcases hp with rfl | rfl | rfl | rfl | rfl | rfl
    · exact leafVal (B := kNE) genP0
    · exact leafVal (B := kNE) genP1
    · exact leafVal (B := kNE) genP2
    · exact leafVal (B := kNE) genP3
    · exact leafVal (B := kNE) genP4
    · exact leafVal (B := kNE) genP5)⟩

def numT : PureTab := [(140, fnT1 kStr kNE eqStr genT)]
theorem numT_ok : TabPOk PR numT := TabPOk.cons parse_ok TabPOk.nil
theorem num_ctx : Ctx PR (envOf eqsT numT) [] (fun _ => none) 40 90 :=
  ctx_of (envOf_ok eqsT_ok numT_ok) mixed (fn := Try.f90) (by kernel_rfl) (by kernel_rfl) (by kernel_rfl) (tabOk_none _)
def genU : List (ByteArray × W6) := [(genS0, genN0), (genS1, genN1), (genS2, genN2), (genS3, genN3), (genS4, genN4), (genS5, genN5)]
theorem genQ0 : (afunR PR (envOf eqsT numT) [] (fun _ => none) 40 90 [kStr.enc genS0]).strict = .leaf (c6.agg.enc genN0) := by kernel_rfl
theorem genQ1 : (afunR PR (envOf eqsT numT) [] (fun _ => none) 40 90 [kStr.enc genS1]).strict = .leaf (c6.agg.enc genN1) := by kernel_rfl
theorem genQ2 : (afunR PR (envOf eqsT numT) [] (fun _ => none) 40 90 [kStr.enc genS2]).strict = .leaf (c6.agg.enc genN2) := by kernel_rfl
theorem genQ3 : (afunR PR (envOf eqsT numT) [] (fun _ => none) 40 90 [kStr.enc genS3]).strict = .leaf (c6.agg.enc genN3) := by kernel_rfl
theorem genQ4 : (afunR PR (envOf eqsT numT) [] (fun _ => none) 40 90 [kStr.enc genS4]).strict = .leaf (c6.agg.enc genN4) := by kernel_rfl
theorem genQ5 : (afunR PR (envOf eqsT numT) [] (fun _ => none) 40 90 [kStr.enc genS5]).strict = .leaf (c6.agg.enc genN5) := by kernel_rfl
theorem num_ok : CallOk PR 90 (fnT1 kStr c6.agg eqStr genU) :=
  .inl ⟨enters_of (fn := Try.f90) (by kernel_rfl) (by kernel_rfl) (by kernel_rfl), tabT1 (B := c6.agg) num_ctx eqStr_ok (fun p hp => by
    simp only [genU, List.mem_cons, List.not_mem_nil, or_false] at hp
    rcases hp with rfl | rfl | rfl | rfl | rfl | rfl
    · exact leafVal (B := c6.agg) genQ0
    · exact leafVal (B := c6.agg) genQ1
    · exact leafVal (B := c6.agg) genQ2
    · exact leafVal (B := c6.agg) genQ3
    · exact leafVal (B := c6.agg) genQ4
    · exact leafVal (B := c6.agg) genQ5)⟩

def genT1 : PureTab := [(90, fnT1 kStr c6.agg eqStr genU)]
theorem genT1_ok : TabPOk PR genT1 := TabPOk.cons num_ok TabPOk.nil
def gen1P : Ap W6 := ⟨genN0, genN1, false⟩
def gen2P : Ap D6 := ⟨⟨genN2, genN3⟩, ⟨genN4, genN5⟩, false⟩
theorem gen1_ctx : Ctx PR (envOf eqsT genT1) [] (fun _ => none) 40 33 :=
  ctx_of (envOf_ok eqsT_ok genT1_ok) mixed (fn := Try.f33) (by kernel_rfl) (by kernel_rfl) (by kernel_rfl) (tabOk_none _)
theorem gen1_run : (afunR PR (envOf eqsT genT1) [] (fun _ => none) 40 33 []).strict = .leaf (.agg (c6.enc genN0 ++ (c6.enc genN1 ++ [.lit false]))) := by kernel_rfl
theorem gen1_ok : CallOk PR 33 (fn0 (cAp c6).agg gen1P) :=
  .inl ⟨enters_of (fn := Try.f33) (by kernel_rfl) (by kernel_rfl) (by kernel_rfl), pure0 gen1_ctx (givesOf gen1_run (holds_leaf (apFlatW _ _ _)))⟩
theorem gen2_ctx : Ctx PR (envOf eqsT genT1) [] (fun _ => none) 40 46 :=
  ctx_of (envOf_ok eqsT_ok genT1_ok) mixed (fn := Try.f46) (by kernel_rfl) (by kernel_rfl) (by kernel_rfl) (tabOk_none _)
theorem gen2_run : (afunR PR (envOf eqsT genT1) [] (fun _ => none) 40 46 []).strict = .leaf (.agg (c12.enc ⟨genN2, genN3⟩ ++ (c12.enc ⟨genN4, genN5⟩ ++ [.lit false]))) := by kernel_rfl
theorem gen2_ok : CallOk PR 46 (fn0 (cAp c12).agg gen2P) :=
  .inl ⟨enters_of (fn := Try.f46) (by kernel_rfl) (by kernel_rfl) (by kernel_rfl), pure0 gen2_ctx (givesOf gen2_run (holds_leaf (apFlatD _ _ _)))⟩
end Go.Rq

/- The law CurveFirst holds of what the functions come to. -/
namespace Go.Rq
open Go Go.Proofs

/-! The reference's operations go like a field's. -/
section
variable {K : Type} [Rg K] {iv : K → K} {e : K → K → Bool} {R : K → W6 → Prop} {t : RO}

structure RRel (R : K → W6 → Prop) (iv : K → K) (e : K → K → Bool) (t : RO) : Prop where
  mu : ∀ {x y : K} {a b : W6}, R x a → R y b → R (x * y) (t.mu t.fp a b)
  ad : ∀ {x y : K} {a b : W6}, R x a → R y b → R (x + y) (t.ad t.fp a b)
  sb : ∀ {x y : K} {a b : W6}, R x a → R y b → R (x - y) (t.sb t.fp a b)
  ne : ∀ {x : K} {a : W6}, R x a → R (-x) (t.ne t.fp a)
  iv : ∀ {x : K} {a : W6}, R x a → R (iv x) (t.iv t.fp a)
  zero : R 0 zeroW
  one : R 1 numOne
  eq : ∀ {x y : K} {a b : W6}, R x a → R y b → e x y = eqW a b
  inj : ∀ {x : K} {a b : W6}, R x a → R x b → a = b

/-- An element of one part. -/
structure S1 (R : K → W6 → Prop) (x : K) (d : D6) : Prop where
  a : R x d.a
  b : d.b = zeroW

theorem RRel.cast {J : Type} {R : J → W6 → Prop} {x y : J} {a : W6} (h : R x a) (e : x = y) : R y a := e ▸ h

theorem s1_add (h : RRel R iv e t) {x y : K} {a b : D6} (p : S1 R x a) (q : S1 R y b) : S1 R (x + y) (radd2G t a b) :=
  ⟨h.ad p.a q.a, by
    show t.ad t.fp a.b b.b = zeroW
    rw [p.b, q.b]
    exact h.inj (RRel.cast (h.ad h.zero h.zero) (Rg.add_zero 0)) h.zero⟩
theorem s1_neg (h : RRel R iv e t) {x : K} {a : D6} (p : S1 R x a) : S1 R (-x) (rneg2G t a) :=
  ⟨h.ne p.a, by
    show t.ne t.fp a.b = zeroW
    rw [p.b]
    exact h.inj (RRel.cast (h.ne h.zero) rg_neg_zero) h.zero⟩
theorem s1_sub (h : RRel R iv e t) {x y : K} {a b : D6} (p : S1 R x a) (q : S1 R y b) : S1 R (x - y) (rsub2G t a b) := by
  have := s1_add h p (s1_neg h q)
  rw [← Rg.sub_eq x y] at this
  exact this
theorem s1_tm (h : RRel R iv e t) {x : K} {a : D6} (p : S1 R x a) : ∀ k : Nat, S1 R (tmK x k) (timesA (radd2G t) a k)
  | 0 => ⟨h.zero, rfl⟩
  | k + 1 => s1_add h (s1_tm h p k) p

def thG (t : RO) : TH := ⟨thmG t (rmul2G t), fun a s => timesA (radd2G t) a s.n, rsub2G t⟩
theorem trel1 (h : RRel R iv e t) : TRel (S1 R) true e (thG t) where
  mu := fun {p x y a b} ho ha hb => by
    show S1 R (x * y) (bif p.one then ⟨t.mu t.fp a.a b.a, zeroW⟩ else rmul2G t a b)
    rw [ho]
    exact ⟨h.mu ha.a hb.a, rfl⟩
  tm s ha := s1_tm h ha s.n
  sb ha hb := s1_sub h ha hb
  zero := ⟨h.zero, rfl⟩
  eq := fun {x y a b} ha hb => by
    rw [eqW_D, ha.b, hb.b, h.eq ha.a hb.a, (eqW_iff zeroW zeroW).2 rfl]
    cases eqW a.a b.a <;> rfl

theorem lowK_zero {p : Jp K} (h : (lowK iv e p).zero = true) : lowK iv e p = ⟨0, 0, true⟩ := by
  unfold lowK at h ⊢
  cases hz : e p.z 0 with
  | true => rfl
  | false => rw [hz] at h; cases h

def multOf (t : RO) (p : Th) (w : W6) (len : Nat) : Th := multG ⟨dblG (thG t), addG (thG t) (dblG (thG t))⟩ p w (64 * len) (noneT p.one)
def manyOf (t : RO) : Ap W6 → W6 → Nat → Ap W6 := manyG (twG t (rinv2G t) (thmG t (rmul2G t))) (multOf t)

theorem many_rel (h : RRel R iv e t) {P : Ap K} {p : Ap W6} (hp : RA R P p) (n : W6) (len : Nat) : RA R (bif P.zero then P else lowK iv e (multK e n.bit ⟨P.x, P.y, 1⟩ (64 * len) noneJ)) (manyOf t p n len) := by
  have hT := trel1 h
  unfold manyOf manyG
  rw [hp.z]
  cases hz : p.zero with
  | true => exact hp
  | false =>
    rw [cond_false, cond_false]
    have hb : TJ (S1 R) true ⟨P.x, P.y, 1⟩ (thOf p) := ⟨⟨hp.x, rfl⟩, ⟨hp.y, rfl⟩, ⟨h.one, rfl⟩, rfl⟩
    have hm := mult_rel hT hb n (64 * len) (noneT_rel hT (b := true) rfl)
    have hi : ∀ {x : K} {a : D6}, S1 R x a → S1 R (iv x) (bif true then ⟨t.iv t.fp a.a, zeroW⟩ else rinv2G t a) := fun hx => ⟨h.iv hx.a, rfl⟩
    obtain ⟨h1, h2, h3⟩ := two_rel hT (r := t) hi hm
    have h1' : (twG t (rinv2G t) (thmG t (rmul2G t)) (multOf t (thOf p) n len)).2.2 = !(lowK iv e (multK e n.bit ⟨P.x, P.y, 1⟩ (64 * len) noneJ)).zero := h1
    rw [h1', Bool.not_not]
    cases hl : (lowK iv e (multK e n.bit ⟨P.x, P.y, 1⟩ (64 * len) noneJ)).zero with
    | true =>
      rw [lowK_zero hl]
      exact ⟨h.zero, h.zero, rfl⟩
    | false => exact ⟨h2.a, h3.a, hl⟩

theorem rcheck_rel (h : RRel R iv e t) {f : Fl K} (hf : R f.b (ofW 4#64)) {P : Ap K} {p : Ap W6} (hp : RA R P p) {bl : W6 → Bool} (h1 : bl p.x = true) (h2 : bl p.y = true) :
    rcheckG t bl (rsideG t) p = onE (foK iv) e f P := by
  have hs : eqW (t.mu t.fp p.y p.y) (rsideG t p.x) = e (P.y * P.y) (P.x * P.x * P.x + f.b) := (h.eq (h.mu hp.y hp.y) (h.ad (h.mu (h.mu hp.x hp.x) hp.x) hf)).symm
  unfold rcheckG onE
  rw [hp.z, h1, h2, foK_zero, ← h.eq hp.x h.zero, ← h.eq hp.y h.zero, hs]
  rfl

theorem eqP13_iff (a b : Ap W6) : eqP13 a b = true ↔ a = b := by
  obtain ⟨⟨a0, a1, a2, a3, a4, a5⟩, ⟨a6, a7, a8, a9, a10, a11⟩, az⟩ := a
  obtain ⟨⟨b0, b1, b2, b3, b4, b5⟩, ⟨b6, b7, b8, b9, b10, b11⟩, bz⟩ := b
  simp [eqP13, and_assoc]

theorem ra_eq (h : RRel R iv e t) {A B : Ap K} {a b : Ap W6} (ha : RA R A a) (hb : RA R B b) : eqP13 a b = eqA e A B := by
  rw [Bool.eq_iff_iff, eqP13_iff]
  unfold eqA
  rw [h.eq ha.x hb.x, h.eq ha.y hb.y, ha.z, hb.z]
  simp only [Bool.and_eq_true, eqW_iff, beq_iff_eq]
  obtain ⟨ax, ay, az⟩ := a
  obtain ⟨bx, bY, bz⟩ := b
  simp

theorem rneg_rel (h : RRel R iv e t) {A : Ap K} {a : Ap W6} (ha : RA R A a) : RA R (negK A) (rneg1G t a) := ⟨ha.x, h.ne ha.y, ha.z⟩

theorem rchord_rel (h : RRel R iv e t) {A B : Ap K} {a b : Ap W6} (ha : RA R A a) (hb : RA R B b) {m : K} {w : W6} (hm : R m w) : RA R (chordK A B m) (rchord t a b w) := by
  have x := h.sb (h.sb (h.mu hm hm) ha.x) hb.x
  exact ⟨x, h.sb (h.mu hm (h.sb ha.x x)) ha.y, rfl⟩

theorem radd_rel (h : RRel R iv e t) {A B : Ap K} {a b : Ap W6} (ha : RA R A a) (hb : RA R B b) : RA R (sumA iv e A B) (radd1G t (rneg1G t) a b) := by
  unfold sumA radd1G
  rw [ha.z, hb.z, ra_eq h ha (rneg_rel h hb), ra_eq h ha hb]
  cases a.zero
  · cases b.zero
    · cases eqA e A (negK B)
      · cases eqA e A B
        · exact rchord_rel h ha hb (h.mu (h.sb hb.y ha.y) (h.iv (h.sb hb.x ha.x)))
        · have s := h.mu ha.x ha.x
          exact rchord_rel h ha hb (h.mu (h.ad (h.ad s s) s) (h.iv (h.ad ha.y ha.y)))
      · exact ⟨h.zero, h.zero, rfl⟩
    · exact ha
  · exact hb

theorem ra_inj (h : RRel R iv e t) {A : Ap K} {a b : Ap W6} (ha : RA R A a) (hb : RA R A b) : a = b := by
  obtain ⟨ax, ay, az⟩ := a
  obtain ⟨bx, bY, bz⟩ := b
  have h1 := h.inj ha.x hb.x
  have h2 := h.inj ha.y hb.y
  have h3 := ha.z.symm.trans hb.z
  simp at h1 h2 h3
  rw [h1, h2, h3]
end

theorem on_none {K : Type} [Rg K] {iv : K → K} {e : K → K → Bool} (F : Fd K iv e) {f : Fl K} {p : Ap K} (h : onE (foK iv) e f p = true) (hz : p.zero = true) : p = ⟨0, 0, true⟩ := by
  unfold onE at h
  rw [hz, cond_true, foK_zero] at h
  obtain ⟨x, y, z⟩ := p
  simp only at h hz
  cases h1 : e x 0 with
  | false => rw [h1] at h; cases h
  | true =>
    rw [h1, cond_true] at h
    rw [F.eq.1 h1, F.eq.1 h, hz]

/-- A field, its elements as the program keeps them (M) and as they are told (P). -/
structure Lk {K : Type} [Rg K] (iv : K → K) (e : K → K → Bool) (M P : K → W6 → Prop) (f : Fl K) : Prop where
  F : Fd K iv e
  rel : FRel M (foK iv) fW e eqW
  m1 : M 1 oneW
  m0 : M 0 zeroW
  to : ∀ {x : K} {w : W6}, P x w → M x (toW w)
  fr : ∀ {x : K} {w : W6}, M x w → P x (fromW w)
  of : ∀ {w : W6}, w.val < pN → ∃ x, P x w
  ref : RRel P iv e roO
  f1 : f.one = 1
  fb : P f.b (ofW 4#64)

section
variable {K : Type} [Rg K] {iv : K → K} {e : K → K → Bool} {M P : K → W6 → Prop} {f : Fl K}

theorem fl_of {J : Type} {Q M : J → W6 → Prop} {t : W6 → W6} (ht : ∀ {x : J} {w : W6}, Q x w → M x (t w)) {f : Fl J} {o w : W6} (h1 : M f.one o) (hb : Q f.b w) : RFl M f ⟨o, t w⟩ := ⟨h1, ht hb⟩
theorem ra_of {J : Type} {Q M : J → W6 → Prop} {t : W6 → W6} (ht : ∀ {x : J} {w : W6}, Q x w → M x (t w)) {A : Ap J} {p : Ap W6} (h : RA Q A p) : RA M A ⟨t p.x, t p.y, p.zero⟩ := ⟨ht h.x, ht h.y, h.z⟩
theorem Lk.fl (L : Lk iv e M P f) : RFl M f fld1 := by
  unfold fld1
  exact fl_of (Q := P) (M := M) (t := toW) L.to (by rw [L.f1]; exact L.m1) L.fb
theorem Lk.inn (L : Lk iv e M P f) {A : Ap K} {p : Ap W6} (h : RA P A p) : RA M A (inP1 p) := by
  unfold inP1
  exact ra_of (Q := P) (M := M) (t := toW) L.to h
theorem Lk.out (L : Lk iv e M P f) {A : Ap K} {p : Ap W6} (h : RA M A p) : RA P A (outP1 p) := by
  unfold outP1
  exact ra_of (Q := M) (M := P) (t := fromW) L.fr h

theorem Lk.times (L : Lk iv e M P f) {f : Fl K} {g : Fl W6} {p : Jp K} {q : Jp W6} (hf : RFl M f g) (hp : RJ M p q) (n : W6) : RJ M (timesF iv e f p n) (timesW g q n) := by
  unfold timesF timesW
  exact times_rel L.rel hf hp n _ ⟨hf.one, hf.one, L.m0⟩
theorem Lk.ga (L : Lk iv e M P f) : GRel M (gaF iv e) gaOW := g_rel L.rel L.times

theorem Lk.below (L : Lk iv e M P f) {p : Ap W6} (h : belowP1 p = true) : ∃ A : Ap K, RA P A p := by
  unfold belowP1 at h
  cases hx : belowI p.x with
  | false => rw [hx] at h; cases h
  | true =>
    rw [hx, cond_true] at h
    rw [belowI_nat] at hx h
    obtain ⟨x, h1⟩ := L.of (of_decide_eq_true hx)
    obtain ⟨y, h2⟩ := L.of (of_decide_eq_true h)
    exact ⟨⟨x, y, p.zero⟩, h1, h2, rfl⟩

theorem zero_below : belowI zeroW = true := by rw [belowI_nat]; decide +kernel

theorem Lk.check (L : Lk iv e M P f) (p : Ap W6) : checkP1 p = rcheck1 p := by
  unfold checkP1
  cases hb : belowP1 p with
  | true =>
    obtain ⟨A, hP⟩ := L.below hb
    unfold belowP1 at hb
    have hx : belowI p.x = true := by
      cases hx : belowI p.x with
      | false => rw [hx] at hb; cases hb
      | true => rfl
    rw [hx, cond_true] at hb
    rw [cond_true, ← on_rel L.rel L.fl (L.inn hP)]
    exact (rcheck_rel L.ref L.fb hP hx hb).symm
  | false =>
    rw [cond_false]
    unfold rcheck1 rcheckG
    unfold belowP1 at hb
    cases hz : p.zero with
    | true =>
      rw [cond_true]
      cases hx : eqW p.x zeroW with
      | false => rfl
      | true =>
        cases hy : eqW p.y zeroW with
        | false => rfl
        | true =>
          rw [(eqW_iff _ _).1 hx, (eqW_iff _ _).1 hy, zero_below] at hb
          cases hb
    | false =>
      rw [cond_false]
      cases hx : belowI p.x with
      | false => rfl
      | true =>
        rw [hx, cond_true] at hb
        rw [hb]; rfl

/-- What is a point. -/
theorem Lk.point (L : Lk iv e M P f) {p : Ap W6} (h : rcheck1 p = true) : belowP1 p = true ∧ ∃ A : Ap K, RA P A p ∧ onE (foK iv) e f A = true := by
  rw [← L.check] at h
  unfold checkP1 at h
  cases hb : belowP1 p with
  | false => rw [hb] at h; cases h
  | true =>
    obtain ⟨A, hP⟩ := L.below hb
    rw [hb, cond_true, ← on_rel L.rel L.fl (L.inn hP)] at h
    exact ⟨rfl, A, hP, h⟩
theorem Lk.on (L : Lk iv e M P f) {p : Ap W6} (h : rcheck1 p = true) : onE fW eqW fld1 (inP1 p) = true := by
  obtain ⟨-, A, hP, hon⟩ := L.point h
  rw [← on_rel L.rel L.fl (L.inn hP)]
  exact hon
theorem Lk.off (L : Lk iv e M P f) {p : Ap W6} (h : rcheck1 p = false) (hb : belowP1 p = true) : onE fW eqW fld1 (inP1 p) = false := by
  rw [← L.check] at h
  unfold checkP1 at h
  rw [hb, cond_true] at h
  exact h

theorem Lk.rmul (L : Lk iv e M P f) {A : Ap K} {p : Ap W6} (hp : RA P A p) (n : W6) : RA P (bif A.zero then A else lowK iv e (multK e n.bit ⟨A.x, A.y, 1⟩ (64 * wdL rlenI n) noneJ)) (rmul1 p n) := many_rel L.ref hp n (wdL rlenI n)

theorem Lk.n0 (L : Lk iv e M P f) : fromW zeroW = zeroW := L.ref.inj (L.fr L.m0) L.ref.zero
theorem Lk.nn (L : Lk iv e M P f) : ((outP1 ⟨zeroW, zeroW, false⟩, 5) : Ap W6 × Int) = (noneP, 5) := by
  unfold outP1
  rw [L.n0]
  rfl

theorem sum1_def (p : Ap W6) (n : W6) : sumP1W p n = bif belowP1 p then (outP1 (ga1 gaOW zeroW fld1 (inP1 p) n).1, (ga1 gaOW zeroW fld1 (inP1 p) n).2) else (noneP, 5) := by unfold sumP1W sm1 suOW gath1W; rfl
theorem ga1_def (p : Ap W6) (n : W6) (h : onE fW eqW fld1 p = false) : ga1 gaOW zeroW fld1 p n = (⟨zeroW, zeroW, false⟩, 5) := by
  have hg : ga1 gaOW zeroW fld1 p n = bif onE fW eqW fld1 p then (gaOW.lo fld1 (gaOW.su fld1 ⟨fld1.one, fld1.one, zeroW⟩ (gaOW.ti fld1 (gaOW.ra fld1 p) n)), 0) else (⟨zeroW, zeroW, false⟩, 5) := rfl
  rw [hg, h]; rfl
def unitN : W6 × W6 := (ofW (bitW true), ofW (bitW true))
theorem add1_def (p q : Ap W6) : addP1 p q = bif belowP1 p then (bif belowP1 q then (outP1 (ga2 gaOW zeroW fld1 (inP1 p, inP1 q) unitN).1, (ga2 gaOW zeroW fld1 (inP1 p, inP1 q) unitN).2) else (noneP, 5)) else (noneP, 5) := by
  unfold addP1 sumP2W sm2 suOW gath2W; rfl
theorem ga2_defA (p q : Ap W6) (n : W6 × W6) (h : onE fW eqW fld1 p = false) : ga2 gaOW zeroW fld1 (p, q) n = (⟨zeroW, zeroW, false⟩, 5) := by
  have hg : ga2 gaOW zeroW fld1 (p, q) n = bif onE fW eqW fld1 p then (bif onE fW eqW fld1 q then
      (gaOW.lo fld1 (gaOW.su fld1 (gaOW.su fld1 ⟨fld1.one, fld1.one, zeroW⟩ (gaOW.ti fld1 (gaOW.ra fld1 p) n.1)) (gaOW.ti fld1 (gaOW.ra fld1 q) n.2)), 0) else (⟨zeroW, zeroW, false⟩, 5)) else (⟨zeroW, zeroW, false⟩, 5) := rfl
  rw [hg, h]; rfl
theorem ga2_defB (p q : Ap W6) (n : W6 × W6) (h : onE fW eqW fld1 q = false) : ga2 gaOW zeroW fld1 (p, q) n = (⟨zeroW, zeroW, false⟩, 5) := by
  have hg : ga2 gaOW zeroW fld1 (p, q) n = bif onE fW eqW fld1 p then (bif onE fW eqW fld1 q then
      (gaOW.lo fld1 (gaOW.su fld1 (gaOW.su fld1 ⟨fld1.one, fld1.one, zeroW⟩ (gaOW.ti fld1 (gaOW.ra fld1 p) n.1)) (gaOW.ti fld1 (gaOW.ra fld1 q) n.2)), 0) else (⟨zeroW, zeroW, false⟩, 5)) else (⟨zeroW, zeroW, false⟩, 5) := rfl
  rw [hg, h]
  cases onE fW eqW fld1 p <;> rfl

theorem Lk.mul (L : Lk iv e M P f) (p : Ap W6) (n : W6) : sumP1W p n = bif rcheck1 p then (rmul1 p n, 0) else (noneP, 5) := by
  rw [sum1_def]
  cases hc : rcheck1 p with
  | true =>
    obtain ⟨hb, A, hP, hon⟩ := L.point hc
    obtain ⟨h1, h2⟩ := ga1_rel L.ga L.m0 L.fl (L.inn hP) n
    have h3 := ga1_low L.F L.f1 (on_none L.F hon) hon n (wdL_le n).2
    rw [h3] at h1 h2
    rw [hb, cond_true, cond_true, ← h2, ra_inj L.ref (L.out h1) (L.rmul hP n)]
  | false =>
    rw [cond_false]
    cases hb : belowP1 p with
    | false => rfl
    | true =>
      rw [cond_true, ga1_def _ n (L.off hc hb)]
      exact L.nn

theorem Lk.add (L : Lk iv e M P f) (p q : Ap W6) : addP1 p q = bif rcheck1 p then (bif rcheck1 q then (radd1 p q, 0) else (Go.Rq.noneP, 5)) else (Go.Rq.noneP, 5) := by
  rw [add1_def]
  cases hc : rcheck1 p with
  | false =>
    rw [cond_false]
    cases hb : belowP1 p with
    | false => rfl
    | true =>
      cases hb2 : belowP1 q with
      | false => rfl
      | true =>
        rw [cond_true, cond_true, ga2_defA _ _ _ (L.off hc hb)]
        exact L.nn
  | true =>
    rw [cond_true, (L.point hc).1, cond_true]
    cases hd : rcheck1 q with
    | false =>
      rw [cond_false]
      cases hb2 : belowP1 q with
      | false => rfl
      | true =>
        rw [cond_true, ga2_defB _ _ _ (L.off hd hb2)]
        exact L.nn
    | true =>
      rw [cond_true, (L.point hd).1, cond_true]
      obtain ⟨-, A, hP, hon⟩ := L.point hc
      obtain ⟨-, B, hQ, hoq⟩ := L.point hd
      obtain ⟨h1, h2⟩ := ga2_rel L.ga L.m0 L.fl (x := (A, B)) (y := (inP1 p, inP1 q)) (L.inn hP) (L.inn hQ) unitN
      have h3 : ga2 (gaF iv e) 0 f (A, B) unitN = (sumA iv e A B, 0) := ga2_low L.F L.f1 (on_none L.F hon) (on_none L.F hoq) hon hoq
      rw [h3] at h1 h2
      have h4 : RA P (sumA iv e A B) (radd1 p q) := radd_rel L.ref hP hQ
      rw [← h2, ra_inj L.ref (L.out h1) h4]

theorem Lk.neg (L : Lk iv e M P f) (p : Ap W6) : negP1 p = bif rcheck1 p then (rneg1G roO p, 0) else (Go.Rq.noneP, 5) := by
  unfold negP1
  rw [L.check]
  cases hc : rcheck1 p with
  | false => rw [Bool.not_false, cond_true, cond_false]; rfl
  | true =>
    obtain ⟨-, A, hP, -⟩ := L.point hc
    have h1 := L.out (neg_rel L.rel (L.inn hP))
    have h2 : negE (foK iv) A = negK A := by
      unfold negE negK
      rw [foK_zero, foK_sub]
      congr 1
      rw [Rg.sub_eq]
      exact rg_zero_add _
    rw [h2] at h1
    rw [ra_inj L.ref h1 (rneg_rel L.ref hP), Bool.not_true, cond_false, cond_true]

theorem rin1_def (p : Ap W6) : rin1 p = bif rcheck1 p then (rmul1 p orderW).zero else false := by unfold rin1 rin1G; rfl
theorem inGroup_def (p : Ap W6) : inGroup1 p = bif belowP1 p then (bif onE fW eqW fld1 (inP1 p) then (lowerE fW eqW (timesW fld1 (raiseJ fW fld1 (inP1 p)) orderW)).zero else false) else false := by
  unfold inGroup1 inEW inGW lowFW; rfl
theorem Lk.ing (L : Lk iv e M P f) (p : Ap W6) : inGroup1 p = bif rcheck1 p then rin1 p else false := by
  rw [inGroup_def, rin1_def]
  cases hc : rcheck1 p with
  | true =>
    obtain ⟨hb, A, hP, hon⟩ := L.point hc
    have h1 := lower_rel L.rel (L.times L.fl (raise_rel L.rel L.fl (L.inn hP)) orderW)
    rw [times_low L.F L.f1 (on_none L.F hon) orderW (wdL_le orderW).2] at h1
    rw [hb, cond_true, L.on hc, cond_true, cond_true, cond_true, ← h1.z, (L.rmul hP orderW).z]
  | false =>
    rw [cond_false]
    cases hb : belowP1 p with
    | false => rfl
    | true =>
      rw [L.off hc hb]; rfl

theorem ap_eq {V : Type} {x y u v : V} {b : Bool} (h : x = u) (k : y = v) : (⟨x, y, b⟩ : Ap V) = ⟨u, v, b⟩ := by rw [h, k]
theorem gen1_eq : gen1P = rgen1P := by
  unfold gen1P rgen1P
  exact ap_eq (by decide +kernel) (by decide +kernel)

def loO : LO W6 := ⟨rcheck1, checkP1, rin1, inGroup1, rgen1P, gen1P, rneg1G roO, negP1, radd1, addP1, rmul1, sumP1W, oneG⟩
theorem Lk.law (L : Lk iv e M P f) : LOk eqP13 Go.Rq.noneP loO where
  on _ _ _ _ := rfl
  refl p := (eqP13_iff p p).2 rfl
  ck p := L.check p
  ig p := L.ing p
  ge := gen1_eq
  ne p := L.neg p
  ad p q := L.add p q
  mu p n := L.mul p n
end

/-! The great prime. -/
theorem pow_rel {K : Type} [Rg K] {R : K → W6 → Prop} {t : PO} {f : Fa} {a e : W6} (hm : ∀ {x y : K} {v w : W6}, R x v → R y w → R (x * y) (t.mu f v w)) {x : K} (h : R x a) :
    ∀ (k : Nat) {y : K} {o : Option W6}, R y (ovP o) → R (pwB (fun i => t.bt e (i : Int) == 1) x k y) (ovP (powR t f a e k o))
  | 0, y, o, hy => hy
  | k + 1, y, o, hy => by
    simp only [pwB, powR]
    apply pow_rel hm h k
    cases t.bt e (k : Int) == 1
    · exact hm hy hy
    · exact hm (hm hy hy) h

theorem rp_mul {x y : F1} {a b : W6} (h : RP x a) (k : RP y b) : RP (x * y) (rmulW fastP a b) := rp_of_mul h k (rmulW_nat a b (rp_lt k))
theorem exp_eq : (rsubW primeW numTwo).1 = expInv := by decide +kernel
theorem exp_len : (rlenI expInv).toNat = 381 := by decide +kernel
theorem exp_bitsI : bitsV (fun i => bitI expInv (i : Int) == 1) 381 = pN - 2 := by decide +kernel
theorem rpoO_mu : rpoO.mu = rmulW := by simp only [rpoO]
theorem rpoO_bt : rpoO.bt = bitI := by simp only [rpoO]
theorem roO_fp : roO.fp = fastP := by simp only [roO]
theorem roO_mu : roO.mu = rmulW := by simp only [roO]
theorem roO_ad : roO.ad = rfadd := by simp only [roO]
theorem roO_sb : roO.sb = rfsub := by simp only [roO]
theorem roO_ne : roO.ne = rfneg := by simp only [roO]
theorem roO_iv : roO.iv = rinvW := by simp only [roO]
theorem rinvW_pow (a : W6) : rinvW fastP a = ovP (powR rpoO fastP a expInv 381 none) := by
  unfold rinvW rpowW rpowO
  rw [show fastP.1 = primeW from rfl, exp_eq, exp_len]
theorem rp_inv {x : F1} {a : W6} (h : RP x a) : RP (iv1 x) (rinvW fastP a) := by
  have h1 := pow_rel (K := F1) (R := RP) (t := rpoO) (f := fastP) (e := expInv) (fun h k => by rw [rpoO_mu]; exact rp_mul h k) h 381 (y := 1) (o := none) (rp_of_one (by decide +kernel))
  rw [rpoO_bt, pwB_one exp_bitsI] at h1
  rw [rinvW_pow, iv1_pow]
  exact h1

theorem rrel1 : RRel RP iv1 eq1 roO where
  mu := fun h k => by rw [roO_mu, roO_fp]; exact rp_mul h k
  ad := fun {x y a b} h k => by
    have hv := rfadd_nat (rp_lt h) (rp_lt k)
    rw [roO_ad, roO_fp]
    generalize rfadd fastP a b = w at hv ⊢
    exact rp_of_add h k hv
  sb := fun {x y a b} h k => by
    have hv := rfsub_nat (rp_lt h) (rp_lt k)
    rw [roO_sb, roO_fp]
    generalize rfsub fastP a b = w at hv ⊢
    exact rp_of_sub h k hv
  ne := fun {x a} h => by
    have hv := rfneg_nat (rp_lt h)
    rw [roO_ne, roO_fp]
    generalize rfneg fastP a = w at hv ⊢
    exact rp_of_neg h hv
  iv := fun h => by rw [roO_iv, roO_fp]; exact rp_inv h
  zero := rp_zero
  one := rp_of_one (by decide +kernel)
  eq := fun h k => rp_eq h k
  inj := fun h k => rp_inj h k

theorem four_lt : (ofW 4#64).val < pN := by decide +kernel
theorem link1 : ∃ b : F1, Lk iv1 eq1 RM RP ⟨1, b⟩ := by
  obtain ⟨b, hb⟩ := rp_of four_lt
  exact ⟨b, fd1, relM, rm_one, rm_zero, rm_to, rp_from, rp_of, rrel1, rfl, hb⟩
theorem loO_ok : LOk eqP13 noneP loO := by
  obtain ⟨b, L⟩ := link1
  exact L.law
end Go.Rq
