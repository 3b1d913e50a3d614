/- What the functions on points answer at the chapter's examples. -/
import Derived.Test.YtbamkkbefjgeoaaGreatDoorRq23
import Derived.Test.YtbamkkbefjgeoaaGreatDoorRq24
import Derived.Test.YtbamkkbefjgeoaaGreatDoorRq22
import Derived.Test.YtbamkkbefjgeoaaGreatDoorRq09
import Derived.Test.YtbamkkbefjgeoaaGreatDoorRq14
import Derived.Test.YtbamkkbefjgeoaaGreatDoorRq15
namespace Go.Rq
open Go Go.Proofs

def zeroP : Ap W6 := ⟨zeroW, zeroW, true⟩
set_option maxRecDepth 1000000 in
theorem below_gen : belowP1 gen1P = true := by kernel_rfl
set_option maxRecDepth 1000000 in
theorem check_gen : checkP1 gen1P = true := by
  rw [check1_of]; kernel_rfl
set_option maxRecDepth 1000000 in
theorem mul_order : sumP1W gen1P orderW = (zeroP, 0) := mul1_of below_gen (by kernel_rfl)
end Go.Rq

/- The functions at the chapter's examples. -/
namespace Go.Rq
open Go Go.Proofs

/-! The sum of two numbers. -/
/-! The digits of the generator. -/
/-! Sums of unlike lists. -/
/-! The functions, at the examples. -/
end Go.Rq

/- The reference's tower and points of three numbers: contracts. Written by a program of ours. -/
namespace Go.Rq
open Go Go.Proofs

/-! Elements of two parts. -/
def radd2G (t : RO) (a b : D6) : D6 := ⟨t.ad t.fp a.a b.a, t.ad t.fp a.b b.b⟩
def rneg2G (t : RO) (a : D6) : D6 := ⟨t.ne t.fp a.a, t.ne t.fp a.b⟩
def rmul2G (t : RO) (a b : D6) : D6 := ⟨t.sb t.fp (t.mu t.fp a.a b.a) (t.mu t.fp a.b b.b), t.ad t.fp (t.mu t.fp a.a b.b) (t.mu t.fp a.b b.a)⟩
def rinv2G (t : RO) (a : D6) : D6 :=
  let n := t.iv t.fp (t.ad t.fp (t.mu t.fp a.a a.a) (t.mu t.fp a.b a.b))
  ⟨t.mu t.fp a.a n, t.ne t.fp (t.mu t.fp a.b n)⟩
set_option maxRecDepth 100000
def rsub2G (t : RO) (a b : D6) : D6 := radd2G t a (rneg2G t b)
/-! Points of three elements. -/
structure Th where
  x : D6
  y : D6
  z : D6
  one : Bool
def thmG (t : RO) (M2 : D6 → D6 → D6) (p : Th) (a b : D6) : D6 := bif p.one then ⟨t.mu t.fp a.a b.a, zeroW⟩ else M2 a b
def thmW : Th → D6 → D6 → D6 := thmG roO (rmul2G roO)
/-- The small numbers that are told. -/
inductive Sm where | n2 | n3 | n4 | n8
def Sm.i : Sm → Int | .n2 => 2 | .n3 => 3 | .n4 => 4 | .n8 => 8
def Sm.n : Sm → Nat | .n2 => 2 | .n3 => 3 | .n4 => 4 | .n8 => 8
def timesA (A : D6 → D6 → D6) (a : D6) : Nat → D6
  | 0 => ⟨zeroW, zeroW⟩
  | k + 1 => A (timesA A a k) a
def rtmW (a : D6) (s : Sm) : D6 := timesA (radd2G roO) a s.n
/-- What twice and sum call, left open. -/
structure TH where
  mu : Th → D6 → D6 → D6
  tm : D6 → Sm → D6
  sb : D6 → D6 → D6
def thO : TH := ⟨thmW, rtmW, rsub2G roO⟩
def zeroD : D6 := ⟨zeroW, zeroW⟩
def dblP (t : TH) (p : Th) : Th :=
  let yy := t.mu p p.y p.y
  let s := t.tm (t.mu p p.x yy) .n4
  let m := t.tm (t.mu p p.x p.x) .n3
  let x := t.sb (t.mu p m m) (t.tm s .n2)
  ⟨x, t.sb (t.mu p m (t.sb s x)) (t.tm (t.mu p yy yy) .n8), t.tm (t.mu p p.y p.z) .n2, p.one⟩
def noneT (o : Bool) : Th := ⟨zeroD, zeroD, zeroD, o⟩
def dblG (t : TH) (p : Th) : Th := bif eqD p.z zeroD then noneT p.one else bif eqD p.y zeroD then noneT p.one else dblP t p
def dblW : Th → Th := dblG thO
def addP (t : TH) (_D : Th → Th) (p u : Th) : Th :=
  let zz := t.mu p p.z p.z
  let ux := t.mu p u.x zz
  let uy := t.mu p u.y (t.mu p zz p.z)
  let h := t.sb ux p.x
  let k := t.sb uy p.y
  let hh := t.mu p h h
  let hhh := t.mu p hh h
  let v := t.mu p p.x hh
  let x := t.sb (t.sb (t.mu p k k) hhh) (t.tm v .n2)
  ⟨x, t.sb (t.mu p k (t.sb v x)) (t.mu p p.y hhh), t.mu p p.z h, p.one⟩
def tAddH (t : TH) (p u : Th) : D6 := t.sb (t.mu p u.x (t.mu p p.z p.z)) p.x
def tAddK (t : TH) (p u : Th) : D6 := t.sb (t.mu p u.y (t.mu p (t.mu p p.z p.z) p.z)) p.y
def addG (t : TH) (D : Th → Th) (p u : Th) : Th := bif eqD p.z zeroD then u else bif eqD (tAddH t p u) zeroD then (bif eqD (tAddK t p u) zeroD then D p else noneT p.one) else addP t D p u
def taddW : Th → Th → Th := addG thO dblW
end Go.Rq

/- The reference's multiples: contracts. -/
namespace Go.Rq
open Go Go.Proofs

/-! The two elements. -/
def twP (mu : Th → D6 → D6 → D6) (p : Th) (z : D6) : D6 × D6 × Bool := (mu p p.x (mu p z z), mu p p.y (mu p (mu p z z) z), true)
def twG (t : RO) (i2 : D6 → D6) (mu : Th → D6 → D6 → D6) (p : Th) : D6 × D6 × Bool := bif eqD p.z zeroD then (zeroD, zeroD, false) else bif p.one then twP mu p ⟨t.iv t.fp p.z.a, zeroW⟩ else twP mu p (i2 p.z)
def twW : Th → D6 × D6 × Bool := twG roO (rinv2G roO) thmW
/-! By the bits of words. -/
structure MO where
  dbl : Th → Th
  ad : Th → Th → Th
def moO : MO := ⟨dblW, taddW⟩
def multG (t : MO) (p : Th) (w : W6) : Nat → Th → Th
  | 0, o => o
  | k + 1, o => multG t p w k (bif w.bit k then t.ad (t.dbl o) p else t.dbl o)
def multW (p : Th) (w : W6) (len : Nat) : Th := multG moO p w (64 * len) (noneT p.one)

set_option maxRecDepth 100000
end Go.Rq

/- The reference's multiples of a point by a number: contracts; the law's own function. -/
namespace Go.Rq
open Go Go.Proofs

/-! A number's words, without noughts at the end. -/
def wdK (ln : W6 → Int) (n : W6) : Int := quo64 (IntKind.i64.wrap (ln n + 63))
def wdL (ln : W6 → Int) (n : W6) : Nat := (wdK ln n).toNat - 0
theorem wdK_eq (n : W6) : wdK rlenI n = (rlenI n + 63) / 64 := by
  have h := rlenI_le n
  unfold wdK quo64
  rw [wrap_id (n := rlenI n + 63) (by omega) (by omega), Int.tdiv_eq_ediv_of_nonneg (by omega), wrap_id (by omega) (by omega)]
theorem wdL_le (n : W6) : wdL rlenI n ≤ 6 ∧ (rlenI n).toNat ≤ 64 * wdL rlenI n := by
  have h := rlenI_le n
  unfold wdL
  rw [wdK_eq]
  omega
/-! A point by words. -/
def thOf (p : Ap W6) : Th := ⟨⟨p.x, zeroW⟩, ⟨p.y, zeroW⟩, ⟨numOne, zeroW⟩, true⟩
def manyG (tw : Th → D6 × D6 × Bool) (mu : Th → W6 → Nat → Th) (p : Ap W6) (w : W6) (len : Nat) : Ap W6 :=
  bif p.zero then p else bif !(tw (mu (thOf p) w len)).2.2 then ⟨zeroW, zeroW, true⟩ else ⟨(tw (mu (thOf p) w len)).1.a, (tw (mu (thOf p) w len)).2.1.a, false⟩
def manyW : Ap W6 → W6 → Nat → Ap W6 := manyG twW multW
/-! A point by a number. -/
def rmul1 (p : Ap W6) (n : W6) : Ap W6 := manyW p n (wdL rlenI n)
/-! Is it of the group? -/
def rin1G (ck : Ap W6 → Bool) (od : W6) (ml : Ap W6 → W6 → Ap W6) (p : Ap W6) : Bool := bif ck p then (ml p od).zero else false
def rin1 : Ap W6 → Bool := rin1G rcheck1 orderW rmul1
/-! Is what is told the wanted one? -/
def noneP : Ap W6 := ⟨zeroW, zeroW, false⟩
end Go.Rq

/- The reference's formulas over a field; multiples by the program and by the reference. -/
namespace Go.Rq
open Go Go.Proofs

/-! Points of three elements, by the reference. -/
section
variable {K : Type} [Rg K] {iv : K → K} {e : K → K → Bool}

/-- The reference's operations go like a field's. -/
structure TRel (S : K → D6 → Prop) (o : Bool) (e : K → K → Bool) (t : TH) : Prop where
  mu : ∀ {p : Th} {x y : K} {a b : D6}, p.one = o → S x a → S y b → S (x * y) (t.mu p a b)
  tm : ∀ {x : K} {a : D6} (s : Sm), S x a → S (tmK x s.n) (t.tm a s)
  sb : ∀ {x y : K} {a b : D6}, S x a → S y b → S (x - y) (t.sb a b)
  zero : S 0 zeroD
  eq : ∀ {x y : K} {a b : D6}, S x a → S y b → e x y = eqD a b

structure TJ (S : K → D6 → Prop) (o : Bool) (p : Jp K) (q : Th) : Prop where
  x : S p.x q.x
  y : S p.y q.y
  z : S p.z q.z
  one : q.one = o

variable {S : K → D6 → Prop} {o : Bool} {t : TH}

theorem noneT_rel (h : TRel S o e t) {b : Bool} (hq : b = o) : TJ S o noneJ (noneT b) := ⟨h.zero, h.zero, h.zero, hq⟩

theorem dblF_rel (h : TRel S o e t) {p : Jp K} {q : Th} (hp : TJ S o p q) : TJ S o (dblF p) (dblP t q) := by
  have yy := h.mu hp.one hp.y hp.y
  have s := h.tm .n4 (h.mu hp.one hp.x yy)
  have m := h.tm .n3 (h.mu hp.one hp.x hp.x)
  have x := h.sb (h.mu hp.one m m) (h.tm .n2 s)
  exact ⟨x, h.sb (h.mu hp.one m (h.sb s x)) (h.tm .n8 (h.mu hp.one yy yy)), h.tm .n2 (h.mu hp.one hp.y hp.z), hp.one⟩

theorem dbl_rel (h : TRel S o e t) {p : Jp K} {q : Th} (hp : TJ S o p q) : TJ S o (dblK e p) (dblG t q) := by
  unfold dblK dblG
  rw [h.eq hp.z h.zero, h.eq hp.y h.zero]
  cases eqD q.z zeroD
  · cases eqD q.y zeroD
    · exact dblF_rel h hp
    · exact noneT_rel h hp.one
  · exact noneT_rel h hp.one

theorem hK_rel (h : TRel S o e t) {p u : Jp K} {q v : Th} (hp : TJ S o p q) (hu : TJ S o u v) : S (hK p u) (tAddH t q v) := h.sb (h.mu hp.one hu.x (h.mu hp.one hp.z hp.z)) hp.x
theorem kK_rel (h : TRel S o e t) {p u : Jp K} {q v : Th} (hp : TJ S o p q) (hu : TJ S o u v) : S (kK p u) (tAddK t q v) := h.sb (h.mu hp.one hu.y (h.mu hp.one (h.mu hp.one hp.z hp.z) hp.z)) hp.y

theorem addF_rel (h : TRel S o e t) {p u : Jp K} {q v : Th} (hp : TJ S o p q) (hu : TJ S o u v) (D : Th → Th) : TJ S o (addF p u) (addP t D q v) := by
  have hh := hK_rel h hp hu
  have k := kK_rel h hp hu
  have h2 := h.mu hp.one hh hh
  have h3 := h.mu hp.one h2 hh
  have w := h.mu hp.one hp.x h2
  have x := h.sb (h.sb (h.mu hp.one k k) h3) (h.tm .n2 w)
  exact ⟨x, h.sb (h.mu hp.one k (h.sb w x)) (h.mu hp.one hp.y h3), h.mu hp.one hp.z hh, hp.one⟩

theorem add_rel (h : TRel S o e t) {p u : Jp K} {q v : Th} (hp : TJ S o p q) (hu : TJ S o u v) : TJ S o (addK e p u) (addG t (dblG t) q v) := by
  unfold addK addG
  rw [h.eq hp.z h.zero, h.eq (hK_rel h hp hu) h.zero, h.eq (kK_rel h hp hu) h.zero]
  cases eqD q.z zeroD
  · cases eqD (tAddH t q v) zeroD
    · exact addF_rel h hp hu (dblG t)
    · cases eqD (tAddK t q v) zeroD
      · exact noneT_rel h hp.one
      · exact dbl_rel h hp
  · exact hu

theorem mult_rel (h : TRel S o e t) {p : Jp K} {q : Th} (hp : TJ S o p q) (w : W6) : ∀ (k : Nat) {u : Jp K} {v : Th}, TJ S o u v → TJ S o (multK e w.bit p k u) (multG ⟨dblG t, addG t (dblG t)⟩ q w k v)
  | 0, u, v, hu => hu
  | k + 1, u, v, hu => by
    simp only [multK, multG]
    apply mult_rel h hp w k
    cases w.bit k
    · exact dbl_rel h hu
    · exact add_rel h (dbl_rel h hu) hp

/-- The two elements. -/
theorem two_rel (h : TRel S o e t) {r : RO} {i2 : D6 → D6} (hi : ∀ {x : K} {a : D6}, S x a → S (iv x) (bif o then ⟨r.iv r.fp a.a, zeroW⟩ else i2 a)) {p : Jp K} {q : Th} (hp : TJ S o p q) :
    (twG r i2 t.mu q).2.2 = !(lowK iv e p).zero ∧ S (lowK iv e p).x (twG r i2 t.mu q).1 ∧ S (lowK iv e p).y (twG r i2 t.mu q).2.1 := by
  have low : ∀ {d : D6}, S (iv p.z) d → S (p.x * (iv p.z * iv p.z)) (twP t.mu q d).1 ∧ S (p.y * ((iv p.z * iv p.z) * iv p.z)) (twP t.mu q d).2.1 := fun {d} hd =>
    ⟨h.mu hp.one hp.x (h.mu hp.one hd hd), h.mu hp.one hp.y (h.mu hp.one (h.mu hp.one hd hd) hd)⟩
  unfold twG lowK
  rw [h.eq hp.z h.zero]
  cases eqD q.z zeroD
  · have hz := hi hp.z
    rw [hp.one]
    cases ho : o
    · rw [ho, cond_false] at hz
      exact ⟨rfl, low hz⟩
    · rw [ho, cond_true] at hz
      exact ⟨rfl, low hz⟩
  · exact ⟨rfl, h.zero, h.zero⟩
end

/-! Bits and lengths. -/
theorem bit_out (n : W6) {i : Nat} (h : 384 ≤ i) : n.bit i = false := by
  unfold W6.bit
  have : n.get (i / 64) = 0#64 := by
    unfold W6.get
    rw [List.getD_eq_getElem?_getD, List.getElem?_eq_none (by simp; omega)]
    rfl
  rw [this, BitVec.zero_ushiftRight]
  rfl

theorem bitI_bit (n : W6) (i : Nat) : (bitI n (i : Int) == 1) = n.bit i := by
  unfold bitI
  rw [show decide ((i : Int) < 0) = false from decide_eq_false (by omega)]
  by_cases h : 384 ≤ i
  · rw [show decide ((i : Int) ≥ 384) = true from decide_eq_true (by omega), bit_out n h]; rfl
  · rw [show decide ((i : Int) ≥ 384) = false from decide_eq_false (by omega)]
    rw [show ((i : Int)).toNat = i from rfl]
    cases n.bit i <;> rfl

theorem rlenL_zero (B : W6 → Int → Int) (n : W6) : ∀ (k i : Nat), i < k → chainV (rlenL B n k) 0 ≤ (i : Int) → (B n (i : Int) == 1) = false
  | 0, i, h, _ => by omega
  | k + 1, i, h, hc => by
    simp only [rlenL, chainV] at hc
    cases hb : B n (k : Int) == 1 with
    | true =>
      rw [hb, cond_true] at hc
      omega
    | false =>
      rw [hb, cond_false] at hc
      by_cases he : i = k
      · subst he; exact hb
      · exact rlenL_zero B n k i (by omega) hc

theorem rlen_bits (n : W6) {i : Nat} (h : (rlenI n).toNat ≤ i) : n.bit i = false := by
  by_cases hi : 384 ≤ i
  · exact bit_out n hi
  · rw [← bitI_bit]
    refine rlenL_zero bitI n 384 i (by omega) ?_
    have := (rlenI_le n).1
    show rlenI n ≤ (i : Int)
    omega

theorem word_bit (w : BitVec 64) {j : Nat} (h : w.toNat < 2 ^ j) : (((w >>> j) &&& 1#64) == 1#64) = false := by
  have : w >>> j = 0#64 := by
    apply BitVec.eq_of_toNat_eq
    rw [BitVec.toNat_ushiftRight, Nat.shiftRight_eq_div_pow, Nat.div_eq_of_lt h]
    rfl
  rw [this]
  rfl

theorem bl_bits {w : BitVec 64} {j : Nat} (h : bl w.toNat ≤ j) : (((w >>> j) &&& 1#64) == 1#64) = false := word_bit w (bl_spec.1 h)

theorem bl_le (x : BitVec 64) : bl x.toNat ≤ 64 := bl_spec.2 x.isLt

theorem len_step {w : BitVec 64} {k : Int} {l : List (Bool × Int)} {i : Nat} (h0 : 0 ≤ k) (h1 : k ≤ 320) (h : chainV ((w != 0#64, IntKind.i64.wrap (k + ((bl w.toNat : Nat) : Int))) :: l) 0 ≤ (i : Int)) :
    k + ((bl w.toNat : Nat) : Int) ≤ (i : Int) ∨ (w = 0#64 ∧ chainV l 0 ≤ (i : Int)) := by
  have hb := bl_le w
  simp only [chainV] at h
  cases hc : w != 0#64 with
  | true =>
    rw [hc, cond_true, wrap_id (by omega) (by omega)] at h
    exact .inl h
  | false =>
    rw [hc, cond_false] at h
    exact .inr ⟨by simpa using hc, h⟩

theorem len_bits (n : W6) {i : Nat} (h : (lenI n).toNat ≤ i) : n.bit i = false := by
  by_cases hi : 384 ≤ i
  · exact bit_out n hi
  have h0 := (lenI_le n).1
  have h' : lenI n ≤ (i : Int) := by omega
  have z : ∀ j, (((0#64 >>> j) &&& 1#64) == 1#64) = false := fun j => word_bit 0#64 (by simp; exact Nat.two_pow_pos j)
  have hcases : i / 64 = 0 ∨ i / 64 = 1 ∨ i / 64 = 2 ∨ i / 64 = 3 ∨ i / 64 = 4 ∨ i / 64 = 5 := by omega
  have gb : ∀ {w : BitVec 64} {k : Nat}, n.get (i / 64) = w → i / 64 = k → 64 * (k : Int) + ((bl w.toNat : Nat) : Int) ≤ (i : Int) → n.bit i = false := fun {w k} hw hk hl => by
    unfold W6.bit
    rw [hw]
    exact bl_bits (by omega)
  have gz : n.get (i / 64) = 0#64 → n.bit i = false := fun hw => by
    unfold W6.bit
    rw [hw]
    exact z _
  have b0 := bl_le n.w0; have b1 := bl_le n.w1; have b2 := bl_le n.w2; have b3 := bl_le n.w3; have b4 := bl_le n.w4; have b5 := bl_le n.w5
  have up : ∀ {m : Nat} {x : Nat}, i / 64 < m → (64 * m + x : Int) ≤ (i : Int) → False := fun {m x} h1 h2 => by omega
  unfold lenI lenL at h'
  rcases len_step (by omega) (by omega) h' with h5 | ⟨z5, h'⟩
  · rcases hcases with c | c | c | c | c | c
    · exact (up (m := 5) (by omega) h5).elim
    · exact (up (m := 5) (by omega) h5).elim
    · exact (up (m := 5) (by omega) h5).elim
    · exact (up (m := 5) (by omega) h5).elim
    · exact (up (m := 5) (by omega) h5).elim
    · exact gb (by rw [c]; rfl) c h5
  rcases len_step (by omega) (by omega) h' with h4 | ⟨z4, h'⟩
  · rcases hcases with c | c | c | c | c | c
    · exact (up (m := 4) (by omega) h4).elim
    · exact (up (m := 4) (by omega) h4).elim
    · exact (up (m := 4) (by omega) h4).elim
    · exact (up (m := 4) (by omega) h4).elim
    · exact gb (by rw [c]; rfl) c h4
    · exact gz (by rw [c]; exact z5)
  rcases len_step (by omega) (by omega) h' with h3 | ⟨z3, h'⟩
  · rcases hcases with c | c | c | c | c | c
    · exact (up (m := 3) (by omega) h3).elim
    · exact (up (m := 3) (by omega) h3).elim
    · exact (up (m := 3) (by omega) h3).elim
    · exact gb (by rw [c]; rfl) c h3
    · exact gz (by rw [c]; exact z4)
    · exact gz (by rw [c]; exact z5)
  rcases len_step (by omega) (by omega) h' with h2 | ⟨z2, h'⟩
  · rcases hcases with c | c | c | c | c | c
    · exact (up (m := 2) (by omega) h2).elim
    · exact (up (m := 2) (by omega) h2).elim
    · exact gb (by rw [c]; rfl) c h2
    · exact gz (by rw [c]; exact z3)
    · exact gz (by rw [c]; exact z4)
    · exact gz (by rw [c]; exact z5)
  rcases len_step (by omega) (by omega) h' with h1 | ⟨z1, h'⟩
  · rcases hcases with c | c | c | c | c | c
    · exact (up (m := 1) (by omega) h1).elim
    · exact gb (by rw [c]; rfl) c h1
    · exact gz (by rw [c]; exact z2)
    · exact gz (by rw [c]; exact z3)
    · exact gz (by rw [c]; exact z4)
    · exact gz (by rw [c]; exact z5)
  rcases len_step (by omega) (by omega) h' with h0 | ⟨z0, h'⟩
  · rcases hcases with c | c | c | c | c | c
    · exact gb (by rw [c]; rfl) c h0
    · exact gz (by rw [c]; exact z1)
    · exact gz (by rw [c]; exact z2)
    · exact gz (by rw [c]; exact z3)
    · exact gz (by rw [c]; exact z4)
    · exact gz (by rw [c]; exact z5)
  · rcases hcases with c | c | c | c | c | c
    · exact gz (by rw [c]; exact z0)
    · exact gz (by rw [c]; exact z1)
    · exact gz (by rw [c]; exact z2)
    · exact gz (by rw [c]; exact z3)
    · exact gz (by rw [c]; exact z4)
    · exact gz (by rw [c]; exact z5)

/-! Multiples, by the program. -/
section
variable {K : Type} [Rg K] {iv : K → K} {e : K → K → Bool}

theorem times_run (f : Fl K) (p : Jp K) (n : W6) : ∀ (k : Nat) (u : Jp K), timesG (tOf (foK iv) e) f p n k u = runK iv e f n.bit p k u
  | 0, u => rfl
  | k + 1, u => by
    show timesG (tOf (foK iv) e) f p n k (bif bitI n (k : Int) == 1 then sumE (foK iv) e f (twiceJ (foK iv) u) p else twiceJ (foK iv) u) = _
    rw [bitI_bit, times_run f p n k]
    rfl

def timesF (iv : K → K) (e : K → K → Bool) (f : Fl K) (p : Jp K) (n : W6) : Jp K := timesG (tOf (foK iv) e) f p n (lenI n).toNat ⟨f.one, f.one, 0⟩
def gaF (iv : K → K) (e : K → K → Bool) : GO K := gOf (foK iv) e (timesF iv e)

theorem twice_none {u : Jp K} (hu : u.z = 0) : (twiceJ (foK iv) u).z = 0 := by rw [twice_z, hu]; exact rg [u.y]

theorem run_none (F : Fd K iv e) {f : Fl K} {b : Nat → Bool} {p : Jp K} (hp : p.z = 0) : ∀ (k : Nat) {u : Jp K}, u.z = 0 → (runK iv e f b p k u).z = 0
  | 0, u, hu => hu
  | k + 1, u, hu => by
    simp only [runK]
    apply run_none F hp k
    cases b k
    · exact twice_none hu
    · show (sumE (foK iv) e f (twiceJ (foK iv) u) p).z = 0
      unfold sumE
      rw [show (foK iv).zero = (0 : K) from rfl, F.eq.2 (twice_none hu)]
      exact hp

theorem low_none (F : Fd K iv e) {u : Jp K} (hu : u.z = 0) : lowerE (foK iv) e u = ⟨0, 0, true⟩ := by
  unfold lowerE
  rw [show (foK iv).zero = (0 : K) from rfl, F.eq.2 hu]
  rfl

theorem sum_none (F : Fd K iv e) (f : Fl K) {u v : Jp K} (hu : u.z = 0) : sumE (foK iv) e f u v = v := by
  unfold sumE
  rw [show (foK iv).zero = (0 : K) from rfl, F.eq.2 hu]
  rfl

/-- A multiple by the program is that by the reference. -/
theorem times_low (F : Fd K iv e) {f : Fl K} (hf : f.one = 1) {p : Ap K} (hp : p.zero = true → p = ⟨0, 0, true⟩) (n : W6) {l : Nat} (hl : (rlenI n).toNat ≤ l) :
    lowerE (foK iv) e (timesF iv e f (raiseJ (foK iv) f p) n) = bif p.zero then p else lowK iv e (multK e n.bit ⟨p.x, p.y, 1⟩ l noneJ) := by
  unfold timesF
  rw [times_run]
  cases hz : p.zero with
  | true =>
    have hr : (raiseJ (foK iv) f p).z = 0 := by unfold raiseJ; rw [hz]; rfl
    rw [low_none F (run_none F hr _ rfl), cond_true]
    exact (hp hz).symm
  | false =>
    have hr : raiseJ (foK iv) f p = ⟨p.x, p.y, 1⟩ := by unfold raiseJ; rw [hz, hf]; rfl
    rw [hr, cond_false]
    exact low_eq F (run_mult2 F rfl (fun i hi => len_bits n hi) (fun i hi => rlen_bits n (Nat.le_trans hl hi)) rfl rfl)

theorem ga1_low (F : Fd K iv e) {f : Fl K} (hf : f.one = 1) {p : Ap K} (hp : p.zero = true → p = ⟨0, 0, true⟩) (hon : onE (foK iv) e f p = true) (n : W6) {l : Nat} (hl : (rlenI n).toNat ≤ l) :
    ga1 (gaF iv e) 0 f p n = (bif p.zero then p else lowK iv e (multK e n.bit ⟨p.x, p.y, 1⟩ l noneJ), 0) := by
  have h : ga1 (gaF iv e) 0 f p n = bif onE (foK iv) e f p then (lowerE (foK iv) e (sumE (foK iv) e f ⟨f.one, f.one, 0⟩ (timesF iv e f (raiseJ (foK iv) f p) n)), 0) else (⟨0, 0, false⟩, 5) := rfl
  rw [h, hon, cond_true, sum_none F f rfl, times_low F hf hp n hl]

theorem one_len : (lenI (ofW (bitW true))).toNat = 1 := by decide +kernel
theorem one_bit : (ofW (bitW true)).bit 0 = true := by decide +kernel
theorem times_one (F : Fd K iv e) (f : Fl K) (p : Jp K) : timesF iv e f p (ofW (bitW true)) = p := by
  unfold timesF
  rw [times_run, one_len]
  simp only [runK]
  rw [one_bit, cond_true, sum_none F f (twice_none rfl)]

theorem ga2_low (F : Fd K iv e) {f : Fl K} (hf : f.one = 1) {p q : Ap K} (hp : p.zero = true → p = ⟨0, 0, true⟩) (hq : q.zero = true → q = ⟨0, 0, true⟩) (hon : onE (foK iv) e f p = true) (hoq : onE (foK iv) e f q = true) :
    ga2 (gaF iv e) 0 f (p, q) (ofW (bitW true), ofW (bitW true)) = (sumA iv e p q, 0) := by
  have h : ga2 (gaF iv e) 0 f (p, q) (ofW (bitW true), ofW (bitW true)) = bif onE (foK iv) e f p then (bif onE (foK iv) e f q then (lowerE (foK iv) e (sumE (foK iv) e f (sumE (foK iv) e f ⟨f.one, f.one, 0⟩ (timesF iv e f (raiseJ (foK iv) f p) (ofW (bitW true)))) (timesF iv e f (raiseJ (foK iv) f q) (ofW (bitW true)))), 0) else (⟨0, 0, false⟩, 5)) else (⟨0, 0, false⟩, 5) := rfl
  have eqn : ∀ {p : Ap K}, onE (foK iv) e f p = true → p.zero = false → p.y * p.y = p.x * p.x * p.x + f.b := fun {p} h1 h2 => by
    unfold onE at h1
    rw [h2, cond_false] at h1
    exact F.eq.1 h1
  rw [h, hon, hoq, cond_true, cond_true, times_one F, times_one F, sum_none F f (u := ⟨f.one, f.one, 0⟩) rfl, sum_slope F hf hp hq (eqn hon) (eqn hoq)]
end
end Go.Rq

/- The law CurveFirst, gone through: what is called left open. -/
namespace Go.Rq
open Go Go.Proofs

end Go.Rq

/- The law CurveFirst holds of what the functions come to. -/
namespace Go.Rq
open Go Go.Proofs

/-! The reference's operations go like a field's. -/
section
variable {K : Type} [Rg K] {iv : K → K} {e : K → K → Bool} {R : K → W6 → Prop} {t : RO}

structure RRel (R : K → W6 → Prop) (iv : K → K) (e : K → K → Bool) (t : RO) : Prop where
  mu : ∀ {x y : K} {a b : W6}, R x a → R y b → R (x * y) (t.mu t.fp a b)
  ad : ∀ {x y : K} {a b : W6}, R x a → R y b → R (x + y) (t.ad t.fp a b)
  sb : ∀ {x y : K} {a b : W6}, R x a → R y b → R (x - y) (t.sb t.fp a b)
  ne : ∀ {x : K} {a : W6}, R x a → R (-x) (t.ne t.fp a)
  iv : ∀ {x : K} {a : W6}, R x a → R (iv x) (t.iv t.fp a)
  zero : R 0 zeroW
  one : R 1 numOne
  eq : ∀ {x y : K} {a b : W6}, R x a → R y b → e x y = eqW a b
  inj : ∀ {x : K} {a b : W6}, R x a → R x b → a = b

/-- An element of one part. -/
structure S1 (R : K → W6 → Prop) (x : K) (d : D6) : Prop where
  a : R x d.a
  b : d.b = zeroW

theorem RRel.cast {J : Type} {R : J → W6 → Prop} {x y : J} {a : W6} (h : R x a) (e : x = y) : R y a := e ▸ h

theorem s1_add (h : RRel R iv e t) {x y : K} {a b : D6} (p : S1 R x a) (q : S1 R y b) : S1 R (x + y) (radd2G t a b) :=
  ⟨h.ad p.a q.a, by
    show t.ad t.fp a.b b.b = zeroW
    rw [p.b, q.b]
    exact h.inj (RRel.cast (h.ad h.zero h.zero) (Rg.add_zero 0)) h.zero⟩
theorem s1_neg (h : RRel R iv e t) {x : K} {a : D6} (p : S1 R x a) : S1 R (-x) (rneg2G t a) :=
  ⟨h.ne p.a, by
    show t.ne t.fp a.b = zeroW
    rw [p.b]
    exact h.inj (RRel.cast (h.ne h.zero) rg_neg_zero) h.zero⟩
theorem s1_sub (h : RRel R iv e t) {x y : K} {a b : D6} (p : S1 R x a) (q : S1 R y b) : S1 R (x - y) (rsub2G t a b) := by
  have := s1_add h p (s1_neg h q)
  rw [← Rg.sub_eq x y] at this
  exact this
theorem s1_tm (h : RRel R iv e t) {x : K} {a : D6} (p : S1 R x a) : ∀ k : Nat, S1 R (tmK x k) (timesA (radd2G t) a k)
  | 0 => ⟨h.zero, rfl⟩
  | k + 1 => s1_add h (s1_tm h p k) p

def thG (t : RO) : TH := ⟨thmG t (rmul2G t), fun a s => timesA (radd2G t) a s.n, rsub2G t⟩
theorem trel1 (h : RRel R iv e t) : TRel (S1 R) true e (thG t) where
  mu := fun {p x y a b} ho ha hb => by
    show S1 R (x * y) (bif p.one then ⟨t.mu t.fp a.a b.a, zeroW⟩ else rmul2G t a b)
    rw [ho]
    exact ⟨h.mu ha.a hb.a, rfl⟩
  tm s ha := s1_tm h ha s.n
  sb ha hb := s1_sub h ha hb
  zero := ⟨h.zero, rfl⟩
  eq := fun {x y a b} ha hb => by
    rw [eqW_D, ha.b, hb.b, h.eq ha.a hb.a, (eqW_iff zeroW zeroW).2 rfl]
    cases eqW a.a b.a <;> rfl

theorem lowK_zero {p : Jp K} (h : (lowK iv e p).zero = true) : lowK iv e p = ⟨0, 0, true⟩ := by
  unfold lowK at h ⊢
  cases hz : e p.z 0 with
  | true => rfl
  | false => rw [hz] at h; cases h

def multOf (t : RO) (p : Th) (w : W6) (len : Nat) : Th := multG ⟨dblG (thG t), addG (thG t) (dblG (thG t))⟩ p w (64 * len) (noneT p.one)
def manyOf (t : RO) : Ap W6 → W6 → Nat → Ap W6 := manyG (twG t (rinv2G t) (thmG t (rmul2G t))) (multOf t)

theorem many_rel (h : RRel R iv e t) {P : Ap K} {p : Ap W6} (hp : RA R P p) (n : W6) (len : Nat) : RA R (bif P.zero then P else lowK iv e (multK e n.bit ⟨P.x, P.y, 1⟩ (64 * len) noneJ)) (manyOf t p n len) := by
  have hT := trel1 h
  unfold manyOf manyG
  rw [hp.z]
  cases hz : p.zero with
  | true => exact hp
  | false =>
    rw [cond_false, cond_false]
    have hb : TJ (S1 R) true ⟨P.x, P.y, 1⟩ (thOf p) := ⟨⟨hp.x, rfl⟩, ⟨hp.y, rfl⟩, ⟨h.one, rfl⟩, rfl⟩
    have hm := mult_rel hT hb n (64 * len) (noneT_rel hT (b := true) rfl)
    have hi : ∀ {x : K} {a : D6}, S1 R x a → S1 R (iv x) (bif true then ⟨t.iv t.fp a.a, zeroW⟩ else rinv2G t a) := fun hx => ⟨h.iv hx.a, rfl⟩
    obtain ⟨h1, h2, h3⟩ := two_rel hT (r := t) hi hm
    have h1' : (twG t (rinv2G t) (thmG t (rmul2G t)) (multOf t (thOf p) n len)).2.2 = !(lowK iv e (multK e n.bit ⟨P.x, P.y, 1⟩ (64 * len) noneJ)).zero := h1
    rw [h1', Bool.not_not]
    cases hl : (lowK iv e (multK e n.bit ⟨P.x, P.y, 1⟩ (64 * len) noneJ)).zero with
    | true =>
      rw [lowK_zero hl]
      exact ⟨h.zero, h.zero, rfl⟩
    | false => exact ⟨h2.a, h3.a, hl⟩

theorem rcheck_rel (h : RRel R iv e t) {f : Fl K} (hf : R f.b (ofW 4#64)) {P : Ap K} {p : Ap W6} (hp : RA R P p) {bl : W6 → Bool} (h1 : bl p.x = true) (h2 : bl p.y = true) :
    rcheckG t bl (rsideG t) p = onE (foK iv) e f P := by
  have hs : eqW (t.mu t.fp p.y p.y) (rsideG t p.x) = e (P.y * P.y) (P.x * P.x * P.x + f.b) := (h.eq (h.mu hp.y hp.y) (h.ad (h.mu (h.mu hp.x hp.x) hp.x) hf)).symm
  unfold rcheckG onE
  rw [hp.z, h1, h2, foK_zero, ← h.eq hp.x h.zero, ← h.eq hp.y h.zero, hs]
  rfl

theorem eqP13_iff (a b : Ap W6) : eqP13 a b = true ↔ a = b := by
  obtain ⟨⟨a0, a1, a2, a3, a4, a5⟩, ⟨a6, a7, a8, a9, a10, a11⟩, az⟩ := a
  obtain ⟨⟨b0, b1, b2, b3, b4, b5⟩, ⟨b6, b7, b8, b9, b10, b11⟩, bz⟩ := b
  simp [eqP13, and_assoc]

theorem ra_eq (h : RRel R iv e t) {A B : Ap K} {a b : Ap W6} (ha : RA R A a) (hb : RA R B b) : eqP13 a b = eqA e A B := by
  rw [Bool.eq_iff_iff, eqP13_iff]
  unfold eqA
  rw [h.eq ha.x hb.x, h.eq ha.y hb.y, ha.z, hb.z]
  simp only [Bool.and_eq_true, eqW_iff, beq_iff_eq]
  obtain ⟨ax, ay, az⟩ := a
  obtain ⟨bx, bY, bz⟩ := b
  simp

theorem rneg_rel (h : RRel R iv e t) {A : Ap K} {a : Ap W6} (ha : RA R A a) : RA R (negK A) (rneg1G t a) := ⟨ha.x, h.ne ha.y, ha.z⟩

theorem rchord_rel (h : RRel R iv e t) {A B : Ap K} {a b : Ap W6} (ha : RA R A a) (hb : RA R B b) {m : K} {w : W6} (hm : R m w) : RA R (chordK A B m) (rchord t a b w) := by
  have x := h.sb (h.sb (h.mu hm hm) ha.x) hb.x
  exact ⟨x, h.sb (h.mu hm (h.sb ha.x x)) ha.y, rfl⟩

theorem radd_rel (h : RRel R iv e t) {A B : Ap K} {a b : Ap W6} (ha : RA R A a) (hb : RA R B b) : RA R (sumA iv e A B) (radd1G t (rneg1G t) a b) := by
  unfold sumA radd1G
  rw [ha.z, hb.z, ra_eq h ha (rneg_rel h hb), ra_eq h ha hb]
  cases a.zero
  · cases b.zero
    · cases eqA e A (negK B)
      · cases eqA e A B
        · exact rchord_rel h ha hb (h.mu (h.sb hb.y ha.y) (h.iv (h.sb hb.x ha.x)))
        · have s := h.mu ha.x ha.x
          exact rchord_rel h ha hb (h.mu (h.ad (h.ad s s) s) (h.iv (h.ad ha.y ha.y)))
      · exact ⟨h.zero, h.zero, rfl⟩
    · exact ha
  · exact hb

theorem ra_inj (h : RRel R iv e t) {A : Ap K} {a b : Ap W6} (ha : RA R A a) (hb : RA R A b) : a = b := by
  obtain ⟨ax, ay, az⟩ := a
  obtain ⟨bx, bY, bz⟩ := b
  have h1 := h.inj ha.x hb.x
  have h2 := h.inj ha.y hb.y
  have h3 := ha.z.symm.trans hb.z
  simp at h1 h2 h3
  rw [h1, h2, h3]
end

theorem on_none {K : Type} [Rg K] {iv : K → K} {e : K → K → Bool} (F : Fd K iv e) {f : Fl K} {p : Ap K} (h : onE (foK iv) e f p = true) (hz : p.zero = true) : p = ⟨0, 0, true⟩ := by
  unfold onE at h
  rw [hz, cond_true, foK_zero] at h
  obtain ⟨x, y, z⟩ := p
  simp only at h hz
  cases h1 : e x 0 with
  | false => rw [h1] at h; cases h
  | true =>
    rw [h1, cond_true] at h
    rw [F.eq.1 h1, F.eq.1 h, hz]

/-- A field, its elements as the program keeps them (M) and as they are told (P). -/
structure Lk {K : Type} [Rg K] (iv : K → K) (e : K → K → Bool) (M P : K → W6 → Prop) (f : Fl K) : Prop where
  F : Fd K iv e
  rel : FRel M (foK iv) fW e eqW
  m1 : M 1 oneW
  m0 : M 0 zeroW
  to : ∀ {x : K} {w : W6}, P x w → M x (toW w)
  fr : ∀ {x : K} {w : W6}, M x w → P x (fromW w)
  of : ∀ {w : W6}, w.val < pN → ∃ x, P x w
  ref : RRel P iv e roO
  f1 : f.one = 1
  fb : P f.b (ofW 4#64)

section
variable {K : Type} [Rg K] {iv : K → K} {e : K → K → Bool} {M P : K → W6 → Prop} {f : Fl K}

theorem fl_of {J : Type} {Q M : J → W6 → Prop} {t : W6 → W6} (ht : ∀ {x : J} {w : W6}, Q x w → M x (t w)) {f : Fl J} {o w : W6} (h1 : M f.one o) (hb : Q f.b w) : RFl M f ⟨o, t w⟩ := ⟨h1, ht hb⟩
theorem ra_of {J : Type} {Q M : J → W6 → Prop} {t : W6 → W6} (ht : ∀ {x : J} {w : W6}, Q x w → M x (t w)) {A : Ap J} {p : Ap W6} (h : RA Q A p) : RA M A ⟨t p.x, t p.y, p.zero⟩ := ⟨ht h.x, ht h.y, h.z⟩
theorem Lk.fl (L : Lk iv e M P f) : RFl M f fld1 := by
  unfold fld1
  exact fl_of (Q := P) (M := M) (t := toW) L.to (by rw [L.f1]; exact L.m1) L.fb
theorem Lk.inn (L : Lk iv e M P f) {A : Ap K} {p : Ap W6} (h : RA P A p) : RA M A (inP1 p) := by
  unfold inP1
  exact ra_of (Q := P) (M := M) (t := toW) L.to h
theorem Lk.out (L : Lk iv e M P f) {A : Ap K} {p : Ap W6} (h : RA M A p) : RA P A (outP1 p) := by
  unfold outP1
  exact ra_of (Q := M) (M := P) (t := fromW) L.fr h

theorem Lk.times (L : Lk iv e M P f) {f : Fl K} {g : Fl W6} {p : Jp K} {q : Jp W6} (hf : RFl M f g) (hp : RJ M p q) (n : W6) : RJ M (timesF iv e f p n) (timesW g q n) := by
  unfold timesF timesW
  exact times_rel L.rel hf hp n _ ⟨hf.one, hf.one, L.m0⟩
theorem Lk.ga (L : Lk iv e M P f) : GRel M (gaF iv e) gaOW := g_rel L.rel L.times

theorem Lk.below (L : Lk iv e M P f) {p : Ap W6} (h : belowP1 p = true) : ∃ A : Ap K, RA P A p := by
  unfold belowP1 at h
  cases hx : belowI p.x with
  | false => rw [hx] at h; cases h
  | true =>
    rw [hx, cond_true] at h
    rw [belowI_nat] at hx h
    obtain ⟨x, h1⟩ := L.of (of_decide_eq_true hx)
    obtain ⟨y, h2⟩ := L.of (of_decide_eq_true h)
    exact ⟨⟨x, y, p.zero⟩, h1, h2, rfl⟩

theorem zero_below : belowI zeroW = true := by rw [belowI_nat]; decide +kernel

theorem Lk.check (L : Lk iv e M P f) (p : Ap W6) : checkP1 p = rcheck1 p := by
  unfold checkP1
  cases hb : belowP1 p with
  | true =>
    obtain ⟨A, hP⟩ := L.below hb
    unfold belowP1 at hb
    have hx : belowI p.x = true := by
      cases hx : belowI p.x with
      | false => rw [hx] at hb; cases hb
      | true => rfl
    rw [hx, cond_true] at hb
    rw [cond_true, ← on_rel L.rel L.fl (L.inn hP)]
    exact (rcheck_rel L.ref L.fb hP hx hb).symm
  | false =>
    rw [cond_false]
    unfold rcheck1 rcheckG
    unfold belowP1 at hb
    cases hz : p.zero with
    | true =>
      rw [cond_true]
      cases hx : eqW p.x zeroW with
      | false => rfl
      | true =>
        cases hy : eqW p.y zeroW with
        | false => rfl
        | true =>
          rw [(eqW_iff _ _).1 hx, (eqW_iff _ _).1 hy, zero_below] at hb
          cases hb
    | false =>
      rw [cond_false]
      cases hx : belowI p.x with
      | false => rfl
      | true =>
        rw [hx, cond_true] at hb
        rw [hb]; rfl

/-- What is a point. -/
theorem Lk.point (L : Lk iv e M P f) {p : Ap W6} (h : rcheck1 p = true) : belowP1 p = true ∧ ∃ A : Ap K, RA P A p ∧ onE (foK iv) e f A = true := by
  rw [← L.check] at h
  unfold checkP1 at h
  cases hb : belowP1 p with
  | false => rw [hb] at h; cases h
  | true =>
    obtain ⟨A, hP⟩ := L.below hb
    rw [hb, cond_true, ← on_rel L.rel L.fl (L.inn hP)] at h
    exact ⟨rfl, A, hP, h⟩
theorem Lk.on (L : Lk iv e M P f) {p : Ap W6} (h : rcheck1 p = true) : onE fW eqW fld1 (inP1 p) = true := by
  obtain ⟨-, A, hP, hon⟩ := L.point h
  rw [← on_rel L.rel L.fl (L.inn hP)]
  exact hon
theorem Lk.off (L : Lk iv e M P f) {p : Ap W6} (h : rcheck1 p = false) (hb : belowP1 p = true) : onE fW eqW fld1 (inP1 p) = false := by
  rw [← L.check] at h
  unfold checkP1 at h
  rw [hb, cond_true] at h
  exact h

theorem Lk.rmul (L : Lk iv e M P f) {A : Ap K} {p : Ap W6} (hp : RA P A p) (n : W6) : RA P (bif A.zero then A else lowK iv e (multK e n.bit ⟨A.x, A.y, 1⟩ (64 * wdL rlenI n) noneJ)) (rmul1 p n) := many_rel L.ref hp n (wdL rlenI n)

theorem Lk.n0 (L : Lk iv e M P f) : fromW zeroW = zeroW := L.ref.inj (L.fr L.m0) L.ref.zero
theorem Lk.nn (L : Lk iv e M P f) : ((outP1 ⟨zeroW, zeroW, false⟩, 5) : Ap W6 × Int) = (noneP, 5) := by
  unfold outP1
  rw [L.n0]
  rfl

theorem sum1_def (p : Ap W6) (n : W6) : sumP1W p n = bif belowP1 p then (outP1 (ga1 gaOW zeroW fld1 (inP1 p) n).1, (ga1 gaOW zeroW fld1 (inP1 p) n).2) else (noneP, 5) := by unfold sumP1W sm1 suOW gath1W; rfl
theorem ga1_def (p : Ap W6) (n : W6) (h : onE fW eqW fld1 p = false) : ga1 gaOW zeroW fld1 p n = (⟨zeroW, zeroW, false⟩, 5) := by
  have hg : ga1 gaOW zeroW fld1 p n = bif onE fW eqW fld1 p then (gaOW.lo fld1 (gaOW.su fld1 ⟨fld1.one, fld1.one, zeroW⟩ (gaOW.ti fld1 (gaOW.ra fld1 p) n)), 0) else (⟨zeroW, zeroW, false⟩, 5) := rfl
  rw [hg, h]; rfl
def unitN : W6 × W6 := (ofW (bitW true), ofW (bitW true))
theorem add1_def (p q : Ap W6) : addP1 p q = bif belowP1 p then (bif belowP1 q then (outP1 (ga2 gaOW zeroW fld1 (inP1 p, inP1 q) unitN).1, (ga2 gaOW zeroW fld1 (inP1 p, inP1 q) unitN).2) else (noneP, 5)) else (noneP, 5) := by
  unfold addP1 sumP2W sm2 suOW gath2W; rfl
theorem ga2_defA (p q : Ap W6) (n : W6 × W6) (h : onE fW eqW fld1 p = false) : ga2 gaOW zeroW fld1 (p, q) n = (⟨zeroW, zeroW, false⟩, 5) := by
  have hg : ga2 gaOW zeroW fld1 (p, q) n = bif onE fW eqW fld1 p then (bif onE fW eqW fld1 q then
      (gaOW.lo fld1 (gaOW.su fld1 (gaOW.su fld1 ⟨fld1.one, fld1.one, zeroW⟩ (gaOW.ti fld1 (gaOW.ra fld1 p) n.1)) (gaOW.ti fld1 (gaOW.ra fld1 q) n.2)), 0) else (⟨zeroW, zeroW, false⟩, 5)) else (⟨zeroW, zeroW, false⟩, 5) := rfl
  rw [hg, h]; rfl
theorem ga2_defB (p q : Ap W6) (n : W6 × W6) (h : onE fW eqW fld1 q = false) : ga2 gaOW zeroW fld1 (p, q) n = (⟨zeroW, zeroW, false⟩, 5) := by
  have hg : ga2 gaOW zeroW fld1 (p, q) n = bif onE fW eqW fld1 p then (bif onE fW eqW fld1 q then
      (gaOW.lo fld1 (gaOW.su fld1 (gaOW.su fld1 ⟨fld1.one, fld1.one, zeroW⟩ (gaOW.ti fld1 (gaOW.ra fld1 p) n.1)) (gaOW.ti fld1 (gaOW.ra fld1 q) n.2)), 0) else (⟨zeroW, zeroW, false⟩, 5)) else (⟨zeroW, zeroW, false⟩, 5) := rfl
  rw [hg, h]
  cases onE fW eqW fld1 p <;> rfl

theorem Lk.mul (L : Lk iv e M P f) (p : Ap W6) (n : W6) : sumP1W p n = bif rcheck1 p then (rmul1 p n, 0) else (noneP, 5) := by
  rw [sum1_def]
  cases hc : rcheck1 p with
  | true =>
    obtain ⟨hb, A, hP, hon⟩ := L.point hc
    obtain ⟨h1, h2⟩ := ga1_rel L.ga L.m0 L.fl (L.inn hP) n
    have h3 := ga1_low L.F L.f1 (on_none L.F hon) hon n (wdL_le n).2
    rw [h3] at h1 h2
    rw [hb, cond_true, cond_true, ← h2, ra_inj L.ref (L.out h1) (L.rmul hP n)]
  | false =>
    rw [cond_false]
    cases hb : belowP1 p with
    | false => rfl
    | true =>
      rw [cond_true, ga1_def _ n (L.off hc hb)]
      exact L.nn

theorem Lk.add (L : Lk iv e M P f) (p q : Ap W6) : addP1 p q = bif rcheck1 p then (bif rcheck1 q then (radd1 p q, 0) else (Go.Rq.noneP, 5)) else (Go.Rq.noneP, 5) := by
  rw [add1_def]
  cases hc : rcheck1 p with
  | false =>
    rw [cond_false]
    cases hb : belowP1 p with
    | false => rfl
    | true =>
      cases hb2 : belowP1 q with
      | false => rfl
      | true =>
        rw [cond_true, cond_true, ga2_defA _ _ _ (L.off hc hb)]
        exact L.nn
  | true =>
    rw [cond_true, (L.point hc).1, cond_true]
    cases hd : rcheck1 q with
    | false =>
      rw [cond_false]
      cases hb2 : belowP1 q with
      | false => rfl
      | true =>
        rw [cond_true, ga2_defB _ _ _ (L.off hd hb2)]
        exact L.nn
    | true =>
      rw [cond_true, (L.point hd).1, cond_true]
      obtain ⟨-, A, hP, hon⟩ := L.point hc
      obtain ⟨-, B, hQ, hoq⟩ := L.point hd
      obtain ⟨h1, h2⟩ := ga2_rel L.ga L.m0 L.fl (x := (A, B)) (y := (inP1 p, inP1 q)) (L.inn hP) (L.inn hQ) unitN
      have h3 : ga2 (gaF iv e) 0 f (A, B) unitN = (sumA iv e A B, 0) := ga2_low L.F L.f1 (on_none L.F hon) (on_none L.F hoq) hon hoq
      rw [h3] at h1 h2
      have h4 : RA P (sumA iv e A B) (radd1 p q) := radd_rel L.ref hP hQ
      rw [← h2, ra_inj L.ref (L.out h1) h4]

theorem Lk.neg (L : Lk iv e M P f) (p : Ap W6) : negP1 p = bif rcheck1 p then (rneg1G roO p, 0) else (Go.Rq.noneP, 5) := by
  unfold negP1
  rw [L.check]
  cases hc : rcheck1 p with
  | false => rw [Bool.not_false, cond_true, cond_false]; rfl
  | true =>
    obtain ⟨-, A, hP, -⟩ := L.point hc
    have h1 := L.out (neg_rel L.rel (L.inn hP))
    have h2 : negE (foK iv) A = negK A := by
      unfold negE negK
      rw [foK_zero, foK_sub]
      congr 1
      rw [Rg.sub_eq]
      exact rg_zero_add _
    rw [h2] at h1
    rw [ra_inj L.ref h1 (rneg_rel L.ref hP), Bool.not_true, cond_false, cond_true]

theorem rin1_def (p : Ap W6) : rin1 p = bif rcheck1 p then (rmul1 p orderW).zero else false := by unfold rin1 rin1G; rfl
theorem inGroup_def (p : Ap W6) : inGroup1 p = bif belowP1 p then (bif onE fW eqW fld1 (inP1 p) then (lowerE fW eqW (timesW fld1 (raiseJ fW fld1 (inP1 p)) orderW)).zero else false) else false := by
  unfold inGroup1 inEW inGW lowFW; rfl
theorem Lk.ing (L : Lk iv e M P f) (p : Ap W6) : inGroup1 p = bif rcheck1 p then rin1 p else false := by
  rw [inGroup_def, rin1_def]
  cases hc : rcheck1 p with
  | true =>
    obtain ⟨hb, A, hP, hon⟩ := L.point hc
    have h1 := lower_rel L.rel (L.times L.fl (raise_rel L.rel L.fl (L.inn hP)) orderW)
    rw [times_low L.F L.f1 (on_none L.F hon) orderW (wdL_le orderW).2] at h1
    rw [hb, cond_true, L.on hc, cond_true, cond_true, cond_true, ← h1.z, (L.rmul hP orderW).z]
  | false =>
    rw [cond_false]
    cases hb : belowP1 p with
    | false => rfl
    | true =>
      rw [L.off hc hb]; rfl

end

/-! The great prime. -/
theorem pow_rel {K : Type} [Rg K] {R : K → W6 → Prop} {t : PO} {f : Fa} {a e : W6} (hm : ∀ {x y : K} {v w : W6}, R x v → R y w → R (x * y) (t.mu f v w)) {x : K} (h : R x a) :
    ∀ (k : Nat) {y : K} {o : Option W6}, R y (ovP o) → R (pwB (fun i => t.bt e (i : Int) == 1) x k y) (ovP (powR t f a e k o))
  | 0, y, o, hy => hy
  | k + 1, y, o, hy => by
    simp only [pwB, powR]
    apply pow_rel hm h k
    cases t.bt e (k : Int) == 1
    · exact hm hy hy
    · exact hm (hm hy hy) h

theorem rp_mul {x y : F1} {a b : W6} (h : RP x a) (k : RP y b) : RP (x * y) (rmulW fastP a b) := rp_of_mul h k (rmulW_nat a b (rp_lt k))
theorem exp_eq : (rsubW primeW numTwo).1 = expInv := by decide +kernel
theorem exp_len : (rlenI expInv).toNat = 381 := by decide +kernel
theorem exp_bitsI : bitsV (fun i => bitI expInv (i : Int) == 1) 381 = pN - 2 := by decide +kernel
theorem rpoO_mu : rpoO.mu = rmulW := by simp only [rpoO]
theorem rpoO_bt : rpoO.bt = bitI := by simp only [rpoO]
theorem roO_fp : roO.fp = fastP := by simp only [roO]
theorem roO_mu : roO.mu = rmulW := by simp only [roO]
theorem roO_ad : roO.ad = rfadd := by simp only [roO]
theorem roO_sb : roO.sb = rfsub := by simp only [roO]
theorem roO_ne : roO.ne = rfneg := by simp only [roO]
theorem roO_iv : roO.iv = rinvW := by simp only [roO]
theorem rinvW_pow (a : W6) : rinvW fastP a = ovP (powR rpoO fastP a expInv 381 none) := by
  unfold rinvW rpowW rpowO
  rw [show fastP.1 = primeW from rfl, exp_eq, exp_len]
theorem rp_inv {x : F1} {a : W6} (h : RP x a) : RP (iv1 x) (rinvW fastP a) := by
  have h1 := pow_rel (K := F1) (R := RP) (t := rpoO) (f := fastP) (e := expInv) (fun h k => by rw [rpoO_mu]; exact rp_mul h k) h 381 (y := 1) (o := none) (rp_of_one (by decide +kernel))
  rw [rpoO_bt, pwB_one exp_bitsI] at h1
  rw [rinvW_pow, iv1_pow]
  exact h1

theorem rrel1 : RRel RP iv1 eq1 roO where
  mu := fun h k => by rw [roO_mu, roO_fp]; exact rp_mul h k
  ad := fun {x y a b} h k => by
    have hv := rfadd_nat (rp_lt h) (rp_lt k)
    rw [roO_ad, roO_fp]
    generalize rfadd fastP a b = w at hv ⊢
    exact rp_of_add h k hv
  sb := fun {x y a b} h k => by
    have hv := rfsub_nat (rp_lt h) (rp_lt k)
    rw [roO_sb, roO_fp]
    generalize rfsub fastP a b = w at hv ⊢
    exact rp_of_sub h k hv
  ne := fun {x a} h => by
    have hv := rfneg_nat (rp_lt h)
    rw [roO_ne, roO_fp]
    generalize rfneg fastP a = w at hv ⊢
    exact rp_of_neg h hv
  iv := fun h => by rw [roO_iv, roO_fp]; exact rp_inv h
  zero := rp_zero
  one := rp_of_one (by decide +kernel)
  eq := fun h k => rp_eq h k
  inj := fun h k => rp_inj h k

theorem four_lt : (ofW 4#64).val < pN := by decide +kernel
end Go.Rq

/- Numbers: shifts by 194, products. -/
namespace Go.Rq
open Go Go.Proofs

/-! The two shifts that are told. -/
/-! The product of two numbers. -/
/-! As numbers. -/
end Go.Rq

/- A modulus: what its functions read out of its block. -/
namespace Go.Rq
open Go Go.Proofs

/-! Is it none? -/
/-! The modulus taken away, if it goes. -/
/-! The product, by 2^-384. -/
/-! What is left. -/
end Go.Rq

/- A modulus: contracts of what reads it. -/
namespace Go.Rq
open Go Go.Proofs

/-! The difference of two numbers. -/
def wSubW (a b : W6) : W6 × Bool := ((subs a b).1, (subs a b).2 == true)
def wSubT : PureTab := [(118, fn3 kU kU kBit kUB sub64)]
theorem wSubT_ok : TabPOk PR wSubT := TabPOk.cons sub64_ok TabPOk.nil
theorem wsub_ctx : Ctx PR (envOf eqsT wSubT) [] (fun _ => none) 40 77 :=
  ctx_of (envOf_ok eqsT_ok wSubT_ok) mixed (fn := Tryz.f77) (by kernel_rfl) (by kernel_rfl) (by kernel_rfl) (tabOk_none _)
set_option maxRecDepth 100000 in
theorem wsub_run (a b : W6) : (afunR PR (envOf eqsT wSubT) [] (fun _ => none) 40 77 [c6.agg.enc a, c6.agg.enc b]).strict = .leaf (kWB.enc (wSubW a b)) := by kernel_rfl
theorem wsub_ok : CallOk PR 77 (fn2 c6.agg c6.agg kWB wSubW) :=
  .inl ⟨enters_of (fn := Tryz.f77) (by kernel_rfl) (by kernel_rfl) (by kernel_rfl), pure2 wsub_ctx (fun a b => leafVal (B := kWB) (y := wSubW a b) (wsub_run a b))⟩

end Go.Rq

/- Arithmetic by the groups' order, as numbers. -/
namespace Go.Rq
open Go Go.Proofs

theorem order_val : orderW.val = rN := by decide +kernel
end Go.Rq

/- The modulus of the order is made. -/
namespace Go.Rq
open Go Go.Proofs

/-! Twice a number. -/
def shl1 (a : W6) : W6 := ⟨a.w0 <<< 1, a.w1 <<< 1 ||| a.w0 >>> 63, a.w2 <<< 1 ||| a.w1 >>> 63, a.w3 <<< 1 ||| a.w2 >>> 63, a.w4 <<< 1 ||| a.w3 >>> 63, a.w5 <<< 1 ||| a.w4 >>> 63⟩
set_option maxRecDepth 100000 in
theorem shl1_run (a : W6) : (afunR PR (envOf eqsT []) [] (fun _ => none) 40 75 [c6.agg.enc a, (kInt .i64).enc 1]).strict = .leaf (c6.agg.enc (shl1 a)) := by kernel_rfl
theorem shl1_ok : CallOk PR 75 (fn2 c6.agg (kAt .i64 1) c6.agg (fun a _ => shl1 a)) :=
  .inl ⟨enters_of (fn := Tryz.f75) (by kernel_rfl) (by kernel_rfl) (by kernel_rfl), pure2 (C := kAt .i64 1) shift_ctx (fun a _ => leafVal (B := c6.agg) (y := shl1 a) (shl1_run a))⟩

/-! The walk. -/
end Go.Rq

/- The modulus of the order: its contract. -/
namespace Go.Rq
open Go Go.Proofs

/-! As numbers. -/
theorem shl_or (a b : BitVec 64) : (a <<< 1 ||| b >>> 63).toNat = 2 * a.toNat % 18446744073709551616 + b.toNat / 9223372036854775808 := by
  have hb : (b >>> 63).toNat = b.toNat / 9223372036854775808 := by rw [BitVec.toNat_ushiftRight, Nat.shiftRight_eq_div_pow]
  have hbl := b.isLt
  have ha : (a <<< 1).toNat = 2 * a.toNat % 18446744073709551616 := by
    rw [BitVec.toNat_shiftLeft, Nat.shiftLeft_eq, Nat.mul_comm]
  have hz : (a <<< 1) &&& (b >>> 63) = 0#64 := by
    apply BitVec.eq_of_toNat_eq
    rw [BitVec.toNat_and, ha, hb]
    have hc : b.toNat / 9223372036854775808 = 0 ∨ b.toNat / 9223372036854775808 = 1 := by omega
    rcases hc with h | h
    · rw [h, Nat.and_zero]; rfl
    · rw [h, Nat.and_one_is_mod]
      show _ = 0
      omega
  rw [← BitVec.add_eq_or_of_and_eq_zero _ _ hz, BitVec.toNat_add, ha, hb]
  apply Nat.mod_eq_of_lt
  omega
theorem shl_sum {a0 a1 a2 a3 a4 a5 m0 m1 m2 m3 m4 m5 c0 c1 c2 c3 c4 : Nat} (d0 : m0 + 18446744073709551616 * c0 = 2 * a0) (d1 : m1 + 18446744073709551616 * c1 = 2 * a1) (d2 : m2 + 18446744073709551616 * c2 = 2 * a2) (d3 : m3 + 18446744073709551616 * c3 = 2 * a3) (d4 : m4 + 18446744073709551616 * c4 = 2 * a4) (d5 : m5 + 18446744073709551616 * 0 = 2 * a5) :
    m0 + 18446744073709551616 * (m1 + c0) + 340282366920938463463374607431768211456 * (m2 + c1) + 6277101735386680763835789423207666416102355444464034512896 * (m3 + c2) + 115792089237316195423570985008687907853269984665640564039457584007913129639936 * (m4 + c3) + 2135987035920910082395021706169552114602704522356652769947041607822219725780640550022962086936576 * (m5 + c4) =
    2 * (a0 + 18446744073709551616 * a1 + 340282366920938463463374607431768211456 * a2 + 6277101735386680763835789423207666416102355444464034512896 * a3 + 115792089237316195423570985008687907853269984665640564039457584007913129639936 * a4 + 2135987035920910082395021706169552114602704522356652769947041607822219725780640550022962086936576 * a5) := by
  omega
theorem top_zero {a0 a1 a2 a3 a4 a5 : Nat} (h : a0 + 18446744073709551616 * a1 + 340282366920938463463374607431768211456 * a2 + 6277101735386680763835789423207666416102355444464034512896 * a3 + 115792089237316195423570985008687907853269984665640564039457584007913129639936 * a4 + 2135987035920910082395021706169552114602704522356652769947041607822219725780640550022962086936576 * a5 < 52435875175126190479447740508185965837690552500527637822603658699938581184513) : a5 = 0 := by
  omega
theorem dbl_parts (v : Nat) : 2 * v % 18446744073709551616 + 18446744073709551616 * (v / 9223372036854775808) = 2 * v := by omega
theorem shl1_words (x : W6) : (shl1 x).val = (2 * x.w0.toNat % 18446744073709551616) + 18446744073709551616 * (2 * x.w1.toNat % 18446744073709551616 + x.w0.toNat / 9223372036854775808) + 340282366920938463463374607431768211456 * (2 * x.w2.toNat % 18446744073709551616 + x.w1.toNat / 9223372036854775808) +
    6277101735386680763835789423207666416102355444464034512896 * (2 * x.w3.toNat % 18446744073709551616 + x.w2.toNat / 9223372036854775808) + 115792089237316195423570985008687907853269984665640564039457584007913129639936 * (2 * x.w4.toNat % 18446744073709551616 + x.w3.toNat / 9223372036854775808) +
    2135987035920910082395021706169552114602704522356652769947041607822219725780640550022962086936576 * (2 * x.w5.toNat % 18446744073709551616 + x.w4.toNat / 9223372036854775808) := by
  have h0 : (x.w0 <<< 1).toNat = 2 * x.w0.toNat % 18446744073709551616 := by rw [BitVec.toNat_shiftLeft, Nat.shiftLeft_eq, Nat.mul_comm]
  rw [← h0, ← shl_or, ← shl_or, ← shl_or, ← shl_or, ← shl_or]
  rfl
theorem shl1_nat (x : W6) (h : x.val < 52435875175126190479447740508185965837690552500527637822603658699938581184513) : (shl1 x).val = 2 * x.val := by
  have top : x.w5.toNat = 0 := top_zero h
  have d5 : 2 * x.w5.toNat % 18446744073709551616 + 18446744073709551616 * 0 = 2 * x.w5.toNat := by rw [top]
  rw [shl1_words]
  exact shl_sum (dbl_parts x.w0.toNat) (dbl_parts x.w1.toNat) (dbl_parts x.w2.toNat) (dbl_parts x.w3.toNat) (dbl_parts x.w4.toNat) d5
end Go.Rq

/- The reference's points of the second curve: contracts. Written by a program of ours. -/
namespace Go.Rq
open Go Go.Proofs

/-! What is added in the equation. -/
/-! Is it a point? -/
set_option maxRecDepth 100000
/-! The negated one. -/
/-! The sum by the slope. -/
/-! The generator. -/
/-! A point by words, and by a number. -/
/-! Is it of the group? -/
/-! Is what is told the wanted one? -/
end Go.Rq

/- The law CurveSecond, gone through: what is called left open. -/
namespace Go.Rq
open Go Go.Proofs

end Go.Rq

/- The law on the chapter's examples: what its function comes to. -/
namespace Go.Rq
open Go Go.Proofs

end Go.Rq

/- The laws CurveGroup1 and CurveGroup2, gone through: what is called left open. -/
namespace Go.Rq
open Go Go.Proofs

structure GP (K : Type) where
  ck : Ap K → Bool
  ad : Ap K → Ap K → Ap K × Int
  ne : Ap K → Ap K × Int

def zeroP1 : Ap W6 := ⟨zeroW, zeroW, true⟩
end Go.Rq

/- The law CurveOrders, gone through: what is called left open. -/
namespace Go.Rq
open Go Go.Proofs

end Go.Rq

/- The law CurveTimes, gone through: what is called left open. -/
namespace Go.Rq
open Go Go.Proofs

end Go.Rq

/- The law CurveSecond holds of what the functions come to. -/
namespace Go.Rq
open Go Go.Proofs

/-! The reference's operations on elements of two parts go like a field's. -/
section
variable {K : Type} [Rg K] {iv : K → K} {e : K → K → Bool} {R : K → D6 → Prop} {t : RO}

end

section
variable {K : Type} [Rg K] {iv : K → K} {e : K → K → Bool} {M P : K → D6 → Prop} {f : Fl K}

end

/-! The second field. -/
section
variable {K : Type} [Rg K] {iv : K → K} {e : K → K → Bool} {R : K → W6 → Prop} {t : RO}

end

end Go.Rq

/- The laws CurveGroup1 and CurveGroup2 hold of what the functions come to. -/
namespace Go.Rq
open Go Go.Proofs

/-! From the field's points to the program's. -/
section
variable {K V : Type} [Rg K] {iv : K → K} {e : K → K → Bool} {F : Fd K iv e} {b : K}

theorem pt_on (F : Fd K iv e) {f : Fl K} {A : Ap K} (h : Pt f.b A) : onE (foK iv) e f A = true := by
  unfold onE
  cases h with
  | zero =>
    show (bif e (0 : K) 0 then e (0 : K) 0 else false) = true
    rw [F.refl]; rfl
  | of h =>
    rename_i x y
    show e (y * y) (x * x * x + f.b) = true
    exact F.eq.2 h
theorem on_pt (F : Fd K iv e) {f : Fl K} {A : Ap K} (h : onE (foK iv) e f A = true) : Pt f.b A := by
  cases hz : A.zero with
  | true => rw [on_none F h hz]; exact .zero
  | false =>
    unfold onE at h
    rw [hz, cond_false] at h
    have h := F.eq.1 h
    obtain ⟨x, y, z⟩ := A
    simp only at hz
    subst hz
    exact .of h

/-- What the program answers of points that stand for the field's. -/
structure Br (F : Fd K iv e) (b : K) (R : Ap K → Ap V → Prop) (eqP : Ap V → Ap V → Bool) (zp : Ap V) (t : GP V) : Prop where
  pt : ∀ {p : Ap V}, t.ck p = true → ∃ A, R A p ∧ Pt b A
  ck : ∀ {A : Ap K} {p : Ap V}, R A p → Pt b A → t.ck p = true
  ad : ∀ {A B : Ap K} {p q : Ap V}, R A p → R B q → Pt b A → Pt b B → (t.ad p q).2 = 0 ∧ R (sumA iv e A B) (t.ad p q).1
  ne : ∀ {A : Ap K} {p : Ap V}, R A p → Pt b A → (t.ne p).2 = 0 ∧ R (negK A) (t.ne p).1
  zp : R ⟨0, 0, true⟩ zp
  inj : ∀ {A : Ap K} {p q : Ap V}, R A p → R A q → p = q
  refl : ∀ p, eqP p p = true

end

def gpO1 : GP W6 := ⟨checkP1, addP1, negP1⟩
section
variable {K : Type} [Rg K] {iv : K → K} {e : K → K → Bool} {M P : K → W6 → Prop} {f : Fl K}

theorem Lk.ckPt (L : Lk iv e M P f) (hlt : ∀ {x : K} {w : W6}, P x w → w.val < pN) {A : Ap K} {p : Ap W6} (h : RA P A p) (hA : Pt f.b A) : checkP1 p = true := by
  have hb : belowP1 p = true := by
    unfold belowP1
    rw [belowI_nat, belowI_nat, decide_eq_true (hlt h.x), decide_eq_true (hlt h.y)]
    rfl
  unfold checkP1
  rw [hb, cond_true, ← on_rel L.rel L.fl (L.inn h)]
  exact pt_on L.F hA

theorem Lk.br (L : Lk iv e M P f) (hlt : ∀ {x : K} {w : W6}, P x w → w.val < pN) : Br L.F f.b (RA P) eqP13 zeroP1 gpO1 where
  pt := fun {p} h => by
    have h' : rcheck1 p = true := by rw [← L.check]; exact h
    obtain ⟨-, A, hP, hon⟩ := L.point h'
    exact ⟨A, hP, on_pt L.F hon⟩
  ck h hA := L.ckPt hlt h hA
  ad := fun {A B p q} ha hb a2 b2 => by
    have c1 : rcheck1 p = true := by rw [← L.check]; exact L.ckPt hlt ha a2
    have c2 : rcheck1 q = true := by rw [← L.check]; exact L.ckPt hlt hb b2
    have h4 : RA P (sumA iv e A B) (radd1 p q) := radd_rel L.ref ha hb
    have h5 : addP1 p q = (radd1 p q, 0) := by rw [L.add, c1, c2]; rfl
    show (addP1 p q).2 = 0 ∧ RA P (sumA iv e A B) (addP1 p q).1
    rw [h5]
    exact ⟨rfl, h4⟩
  ne := fun {A p} ha a2 => by
    have c1 : rcheck1 p = true := by rw [← L.check]; exact L.ckPt hlt ha a2
    have h4 := rneg_rel L.ref ha
    have h5 : negP1 p = (rneg1G roO p, 0) := by rw [L.neg, c1]; rfl
    show (negP1 p).2 = 0 ∧ RA P (negK A) (negP1 p).1
    rw [h5]
    exact ⟨rfl, h4⟩
  zp := ⟨L.ref.zero, L.ref.zero, rfl⟩
  inj h k := ra_inj L.ref h k
  refl p := (eqP13_iff p p).2 rfl
end

section
variable {K : Type} [Rg K] {iv : K → K} {e : K → K → Bool} {M P : K → D6 → Prop} {f : Fl K}

end

theorem four_rv {b : F1} (hb : RP b (ofW 4#64)) : RV (p := pN) b 4 := ⟨by rw [← hb.eq]; exact four_val.symm⟩
theorem link1c : ∃ b : F1, Lk iv1 eq1 RM RP ⟨1, b⟩ ∧ Cv fd1 b := by
  obtain ⟨b, hb⟩ := rp_of four_lt
  exact ⟨b, ⟨fd1, relM, rm_one, rm_zero, rm_to, rp_from, rp_of, rrel1, rfl, hb⟩, cv1 (four_rv hb)⟩
end Go.Rq

/- The law CurveTimes holds of what the functions come to. -/
namespace Go.Rq
open Go Go.Proofs

section
variable {K : Type} [Rg K] {iv : K → K} {e : K → K → Bool}

theorem ga1_nsm (F : Fd K iv e) {f : Fl K} (C : Cv F f.b) (hf : f.one = 1) {A : Ap K} (hA : Pt f.b A) (n : W6) : ga1 (gaF iv e) 0 f A n = (nsm iv e A n.val, 0) := by
  have h : ga1 (gaF iv e) 0 f A n = bif onE (foK iv) e f A then (lowerE (foK iv) e (sumE (foK iv) e f ⟨f.one, f.one, 0⟩ (timesF iv e f (raiseJ (foK iv) f A) n)), 0) else (⟨0, 0, false⟩, 5) := rfl
  have h0 : Jr (⟨f.one, f.one, 0⟩ : Jp K) (nsm iv e A 0) := .none rfl
  have h1 := jr_run F C f n.bit (jr_raise F hf hA) hA (lenI n).toNat 0 h0
  rw [bitsV_val n (fun i hi => len_bits n hi), Nat.zero_mul, Nat.zero_add] at h1
  rw [h, pt_on F hA, cond_true, sum_none F f rfl]
  unfold timesF
  rw [times_run, jr_low F h1]

end

section
variable {K : Type} [Rg K] {iv : K → K} {e : K → K → Bool} {M P : K → W6 → Prop} {f : Fl K}
theorem Lk.nsm (L : Lk iv e M P f) (hlt : ∀ {x : K} {w : W6}, P x w → w.val < pN) (C : Cv L.F f.b) {A : Ap K} {p : Ap W6} (hP : RA P A p) (hA : Pt f.b A) (n : W6) : (sumP1W p n).2 = 0 ∧ RA P (Go.Rq.nsm iv e A n.val) (sumP1W p n).1 := by
  have hc : rcheck1 p = true := by rw [← L.check]; exact L.ckPt hlt hP hA
  obtain ⟨h1, h2⟩ := ga1_rel L.ga L.m0 L.fl (L.inn hP) n
  rw [ga1_nsm L.F C L.f1 hA n] at h1 h2
  rw [sum1_def, (L.point hc).1, cond_true]
  exact ⟨h2.symm, L.out h1⟩
end
section
variable {K : Type} [Rg K] {iv : K → K} {e : K → K → Bool} {M P : K → D6 → Prop} {f : Fl K}
end

end Go.Rq

/- The law CurveOrders holds of what the functions come to. -/
namespace Go.Rq
open Go Go.Proofs

section
variable {K V : Type} [Rg K] {iv : K → K} {e : K → K → Bool} {F : Fd K iv e} {b : K}

end

section
variable {K : Type} [Rg K] {iv : K → K} {e : K → K → Bool} {M P : K → W6 → Prop} {f : Fl K}
theorem Lk.ingN (L : Lk iv e M P f) (hlt : ∀ {x : K} {w : W6}, P x w → w.val < pN) (C : Cv L.F f.b) {A : Ap K} {p : Ap W6} (hP : RA P A p) (hA : Pt f.b A) : inGroup1 p = (Go.Rq.nsm iv e A rN).zero := by
  have hc : rcheck1 p = true := by rw [← L.check]; exact L.ckPt hlt hP hA
  have h1 := (L.nsm hlt C hP hA orderW).2
  rw [order_val, L.mul, hc, cond_true] at h1
  rw [L.ing, hc, cond_true, rin1_def, hc, cond_true, ← h1.z]
theorem Lk.gen (L : Lk iv e M P f) (hlt : ∀ {x : K} {w : W6}, P x w → w.val < pN) (C : Cv L.F f.b) : ∃ G : Ap K, RA P G gen1P ∧ Pt f.b G ∧ G.zero = false ∧ Go.Rq.nsm iv e G rN = ⟨0, 0, true⟩ := by
  have hc : rcheck1 gen1P = true := by rw [← L.check]; exact check_gen
  obtain ⟨-, G, hG, hon⟩ := L.point hc
  have hP := on_pt L.F hon
  have h1 := (L.nsm hlt C hG hP orderW).2
  rw [mul_order, order_val] at h1
  exact ⟨G, hG, hP, hG.z, (nsm_pt L.F hP rN).z h1.z⟩
end
section
variable {K : Type} [Rg K] {iv : K → K} {e : K → K → Bool} {M P : K → D6 → Prop} {f : Fl K}
end

end Go.Rq
