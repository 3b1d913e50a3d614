/- What the functions on words reckon, as plain functions. -/
import Derived.Test.YtdbcjiggimppdaaRqO
namespace Go.Rq
open Go

def subs (a b : W6) : W6 × Bool :=
  let d0 := sub64 a.w0 b.w0 false
  let d1 := sub64 a.w1 b.w1 d0.2
  let d2 := sub64 a.w2 b.w2 d1.2
  let d3 := sub64 a.w3 b.w3 d2.2
  let d4 := sub64 a.w4 b.w4 d3.2
  let d5 := sub64 a.w5 b.w5 d4.2
  (⟨d0.1, d1.1, d2.1, d3.1, d4.1, d5.1⟩, d5.2)

def adds (a b : W6) : W6 × Bool :=
  let d0 := add64 a.w0 b.w0 false
  let d1 := add64 a.w1 b.w1 d0.2
  let d2 := add64 a.w2 b.w2 d1.2
  let d3 := add64 a.w3 b.w3 d2.2
  let d4 := add64 a.w4 b.w4 d3.2
  let d5 := add64 a.w5 b.w5 d4.2
  (⟨d0.1, d1.1, d2.1, d3.1, d4.1, d5.1⟩, d5.2)

def mul64 (x y : BitVec 64) : BitVec 64 × BitVec 64 := (BitVec.ofNat 64 (x.toNat * y.toNat / 2 ^ 64), x * y)

/-- The product as the library reckons it, by halves. -/
def mulGo (x y : BitVec 64) : BitVec 64 × BitVec 64 :=
  let x0 := x &&& 4294967295#64
  let x1 := x >>> 32
  let y0 := y &&& 4294967295#64
  let y1 := y >>> 32
  let w0 := x0 * y0
  let t := x1 * y0 + w0 >>> 32
  let w1 := (t &&& 4294967295#64) + x0 * y1
  let w2 := t >>> 32
  (x1 * y1 + w2 + w1 >>> 32, x * y)

theorem mask32 (x : BitVec 64) : (x &&& 4294967295#64).toNat = x.toNat % 4294967296 := by
  rw [BitVec.toNat_and]
  exact Nat.and_two_pow_sub_one_eq_mod x.toNat 32

theorem high32 (x : BitVec 64) : (x >>> 32).toNat = x.toNat / 4294967296 := by
  rw [BitVec.toNat_ushiftRight, Nat.shiftRight_eq_div_pow]

theorem halves_hi (x0 x1 y0 y1 : Nat) (hx0 : x0 < 4294967296) (hx1 : x1 < 4294967296) (hy0 : y0 < 4294967296) (hy1 : y1 < 4294967296) :
    (x1 * y1 + (x1 * y0 + x0 * y0 / 4294967296) / 4294967296 + ((x1 * y0 + x0 * y0 / 4294967296) % 4294967296 + x0 * y1) / 4294967296) = (x1 * 4294967296 + x0) * (y1 * 4294967296 + y0) / 18446744073709551616 ∧
    x1 * y0 + x0 * y0 / 4294967296 < 18446744073709551616 ∧ (x1 * y0 + x0 * y0 / 4294967296) % 4294967296 + x0 * y1 < 18446744073709551616 ∧ x0 * y0 < 18446744073709551616 ∧ x1 * y1 < 18446744073709551616 ∧ x1 * y0 < 18446744073709551616 ∧ x0 * y1 < 18446744073709551616 ∧
    (x1 * 4294967296 + x0) * (y1 * 4294967296 + y0) / 18446744073709551616 < 18446744073709551616 := by
  have b : ∀ a b : Nat, a < 4294967296 → b < 4294967296 → a * b ≤ 4294967295 * 4294967295 := fun a b h1 h2 => Nat.mul_le_mul (by omega) (by omega)
  have e : (x1 * 4294967296 + x0) * (y1 * 4294967296 + y0) = (x1 * y1) * 18446744073709551616 + (x1 * y0 + x0 * y1) * 4294967296 + x0 * y0 := by
    simp only [Nat.add_mul, Nat.mul_add]
    rw [show x1 * 4294967296 * (y1 * 4294967296) = x1 * y1 * 18446744073709551616 by
      rw [show (18446744073709551616 : Nat) = 4294967296 * 4294967296 from rfl, Nat.mul_mul_mul_comm]]
    rw [Nat.mul_right_comm x1 4294967296 y0, show x0 * (y1 * 4294967296) = x0 * y1 * 4294967296 from (Nat.mul_assoc _ _ _).symm]
    omega
  rw [e]
  have b00 := b x0 y0 hx0 hy0
  have b10 := b x1 y0 hx1 hy0
  have b01 := b x0 y1 hx0 hy1
  have b11 := b x1 y1 hx1 hy1
  generalize x0 * y0 = p00 at *
  generalize x1 * y0 = p10 at *
  generalize x0 * y1 = p01 at *
  generalize x1 * y1 = p11 at *
  refine ⟨?_, ?_, ?_, ?_, ?_, ?_, ?_, ?_⟩ <;> omega

theorem mulGo_eq (x y : BitVec 64) : mulGo x y = mul64 x y := by
  have hx : x.toNat < 18446744073709551616 := x.isLt
  have hy : y.toNat < 18446744073709551616 := y.isLt
  have m0 : ∀ n : Nat, n % 4294967296 < 4294967296 := fun n => Nat.mod_lt n (Nat.zero_lt_succ _)
  have d0 : ∀ n : Nat, n < 18446744073709551616 → n / 4294967296 < 4294967296 := fun n h => Nat.div_lt_of_lt_mul h
  obtain ⟨h1, h2, h3, h4, h5, h6, h7, h8⟩ := halves_hi (x.toNat % 4294967296) (x.toNat / 4294967296) (y.toNat % 4294967296) (y.toNat / 4294967296) (m0 _) (d0 _ hx) (m0 _) (d0 _ hy)
  have ex : x.toNat / 4294967296 * 4294967296 + x.toNat % 4294967296 = x.toNat := Nat.div_add_mod' _ _
  have ey : y.toNat / 4294967296 * 4294967296 + y.toNat % 4294967296 = y.toNat := Nat.div_add_mod' _ _
  rw [ex, ey] at h1 h8
  unfold mulGo mul64
  refine Prod.ext ?_ rfl
  apply BitVec.eq_of_toNat_eq
  have e64 : (2 : Nat) ^ 64 = 18446744073709551616 := rfl
  simp only [BitVec.toNat_add, BitVec.toNat_mul, mask32, high32, BitVec.toNat_ofNat, e64]
  rw [← h1]
  rw [← h1] at h8
  revert h2 h3 h4 h5 h6 h7 h8
  generalize x.toNat / 4294967296 * (y.toNat / 4294967296) = p11
  generalize x.toNat / 4294967296 * (y.toNat % 4294967296) = p10
  generalize x.toNat % 4294967296 * (y.toNat / 4294967296) = p01
  generalize x.toNat % 4294967296 * (y.toNat % 4294967296) = p00
  intro h2 h3 h4 h5 h6 h7 h8
  rw [Nat.mod_eq_of_lt h5, Nat.mod_eq_of_lt h4, Nat.mod_eq_of_lt h6, Nat.mod_eq_of_lt h7, Nat.mod_eq_of_lt h2, Nat.mod_eq_of_lt h3]
  omega

def primeW : W6 := ⟨0xb9feffffffffaaab#64, 0x1eabfffeb153ffff#64, 0x6730d2a0f6b0f624#64, 0x64774b84f38512bf#64, 0x4b1ba7b6434bacd7#64, 0x1a0111ea397fe69a#64⟩
def oneW : W6 := ⟨0x760900000002fffd#64, 0xebf4000bc40c0002#64, 0x5f48985753c758ba#64, 0x77ce585370525745#64, 0x5c071a97a256ec6d#64, 0x15f65ec3fa80e493#64⟩
def wideW : W6 := ⟨0xf4df1f341c341746#64, 0x0a76e6a609d104f1#64, 0x8de5476c4c95b6d5#64, 0x67eb88a9939d83c0#64, 0x9a793e85b519952d#64, 0x11988fe592cae3aa#64⟩
def orderW : W6 := ⟨0xffffffff00000001#64, 0x53bda402fffe5bfe#64, 0x3339d80809a1d805#64, 0x73eda753299d7d48#64, 0#64, 0#64⟩
def zeroW : W6 := ⟨0#64, 0#64, 0#64, 0#64, 0#64, 0#64⟩

/-- p taken away, if it goes. -/
def lessW (a : W6) : W6 := bif (subs a primeW).2 then a else (subs a primeW).1

def mac (x a t c : BitVec 64) : BitVec 64 × BitVec 64 :=
  let p := mul64 x a
  let s := add64 p.2 t false
  let h := p.1 + bitW s.2
  let r := add64 s.1 c false
  (r.1, h + bitW r.2)

structure W7 where
  l : W6
  w6 : BitVec 64

def mulRound (a : W6) (x : BitVec 64) (t : W7) : W7 :=
  let r0 := mac x a.w0 t.l.w0 (bitW false)
  let r1 := mac x a.w1 t.l.w1 r0.2
  let r2 := mac x a.w2 t.l.w2 r1.2
  let r3 := mac x a.w3 t.l.w3 r2.2
  let r4 := mac x a.w4 t.l.w4 r3.2
  let r5 := mac x a.w5 t.l.w5 r4.2
  let t6 := t.w6 + r5.2
  let q := r0.1 * 9940570264628428797#64
  let m := mul64 q primeW.w0
  let s0 := add64 m.2 r0.1 false
  let c := m.1 + bitW s0.2
  let s1 := mac q primeW.w1 r1.1 c
  let s2 := mac q primeW.w2 r2.1 s1.2
  let s3 := mac q primeW.w3 r3.1 s2.2
  let s4 := mac q primeW.w4 r4.1 s3.2
  let s5 := mac q primeW.w5 r5.1 s4.2
  let s6 := add64 t6 s5.2 false
  ⟨⟨s1.1, s2.1, s3.1, s4.1, s5.1, s6.1⟩, bitW s6.2⟩

def zero7 : W7 := ⟨⟨0, 0, 0, 0, 0, 0⟩, 0⟩

def mulRaw (a b : W6) : W7 := mulRound a b.w5 (mulRound a b.w4 (mulRound a b.w3 (mulRound a b.w2 (mulRound a b.w1 (mulRound a b.w0 zero7)))))

def mulW (a b : W6) : W6 := lessW (mulRaw a b).l
def addW (a b : W6) : W6 := lessW (adds a b).1
def subW (a b : W6) : W6 := bif (subs a b).2 then (adds (subs a b).1 primeW).1 else (subs a b).1
def negW (a : W6) : W6 := subW zeroW a
def toW (a : W6) : W6 := mulW wideW a
def fromW (a : W6) : W6 := mulW a ⟨1#64, 0#64, 0#64, 0#64, 0#64, 0#64⟩

/-- One word of six, by its place. -/
def W6.get (x : W6) (i : Nat) : BitVec 64 := [x.w0, x.w1, x.w2, x.w3, x.w4, x.w5].getD i 0#64

def W6.bit (x : W6) (i : Nat) : Bool := ((x.get (i / 64) >>> (i % 64)) &&& 1#64) == 1#64

/-- A power, from bit k - 1 down. -/
def powG (M : W6 → W6 → W6) (a e : W6) : Nat → W6 → W6
  | 0, out => out
  | k + 1, out => powG M a e k (bif e.bit k then M (M out out) a else M out out)

def pow384 (a e : W6) : W6 := powG mulW a e 384 oneW
def expInv : W6 := ⟨0xb9feffffffffaaa9#64, 0x1eabfffeb153ffff#64, 0x6730d2a0f6b0f624#64, 0x64774b84f38512bf#64, 0x4b1ba7b6434bacd7#64, 0x1a0111ea397fe69a#64⟩
def invW (a : W6) : W6 := pow384 a expInv

structure D6 where
  a : W6
  b : W6
  deriving DecidableEq

/-- Twelve cells: two elements. -/
def c12 : CC D6 where
  n := 12
  enc x := c6.enc x.a ++ c6.enc x.b
  dec l := match c6.dec (l.take 6), c6.dec (l.drop 6) with
    | some x, some y => some ⟨x, y⟩
    | _, _ => none
  val x := c6.val x.a ++ c6.val x.b
  len _ := rfl
  h1 x := (CC.prod c6 c6).h1 (x.a, x.b)
  h2 ρ as vs x h r := by
    refine (CC.prod c6 c6).h2 ρ as vs (x.a, x.b) ?_ r
    simp only [CC.prod]
    split at h
    · rename_i p q hp hq
      simp at h; subst h
      rw [show c6.n = 6 from rfl, hp, hq]
    · cases h

/-- What a field's operations come to, left open. -/
structure FO (K : Type) where
  add : K → K → K
  sub : K → K → K
  mul : K → K → K
  neg : K → K
  inv : K → K
  to : K → K
  back : K → K
  one : K
  zero : K

def fW : FO W6 := ⟨addW, subW, mulW, negW, invW, toW, fromW, oneW, zeroW⟩

section
variable (o : FO W6)
def add2 (x y : D6) : D6 := ⟨o.add x.a y.a, o.add x.b y.b⟩
def sub2 (x y : D6) : D6 := ⟨o.sub x.a y.a, o.sub x.b y.b⟩
def neg2 (x : D6) : D6 := ⟨o.neg x.a, o.neg x.b⟩
def conj2 (x : D6) : D6 := ⟨x.a, o.neg x.b⟩
def mul2 (a b : D6) : D6 :=
  let x := o.mul a.a b.a
  let y := o.mul a.b b.b
  let both := o.mul (o.add a.a a.b) (o.add b.a b.b)
  ⟨o.sub x y, o.sub (o.sub both x) y⟩
def scale2 (a : D6) (n : W6) : D6 := ⟨o.mul a.a n, o.mul a.b n⟩
def norm2 (a : D6) : W6 := o.add (o.mul a.a a.a) (o.mul a.b a.b)
def to2 (a : D6) : D6 := ⟨o.to a.a, o.to a.b⟩
def back2 (a : D6) : D6 := ⟨o.back a.a, o.back a.b⟩
end

def one2 : D6 := ⟨oneW, zeroW⟩
def zero2 : D6 := ⟨zeroW, zeroW⟩
def inv2 (o : FO W6) (a : D6) : D6 := scale2 o (conj2 o a) (o.inv (norm2 o a))
def fD : FO D6 := ⟨add2 fW, sub2 fW, mul2 fW, neg2 fW, inv2 fW, to2 fW, back2 fW, one2, zero2⟩

end Go.Rq
