/- What the functions on words reckon, as plain functions. -/
import Derived.Test.YtcboekjnibppdaaGreatDoorRq04
namespace Go.Rq
open Go

def subs (a b : W6) : W6 × Bool :=
  let d0 := sub64 a.w0 b.w0 false
  let d1 := sub64 a.w1 b.w1 d0.2
  let d2 := sub64 a.w2 b.w2 d1.2
  let d3 := sub64 a.w3 b.w3 d2.2
  let d4 := sub64 a.w4 b.w4 d3.2
  let d5 := sub64 a.w5 b.w5 d4.2
  (⟨d0.1, d1.1, d2.1, d3.1, d4.1, d5.1⟩, d5.2)

def adds (a b : W6) : W6 × Bool :=
  let d0 := add64 a.w0 b.w0 false
  let d1 := add64 a.w1 b.w1 d0.2
  let d2 := add64 a.w2 b.w2 d1.2
  let d3 := add64 a.w3 b.w3 d2.2
  let d4 := add64 a.w4 b.w4 d3.2
  let d5 := add64 a.w5 b.w5 d4.2
  (⟨d0.1, d1.1, d2.1, d3.1, d4.1, d5.1⟩, d5.2)

def mul64 (x y : BitVec 64) : BitVec 64 × BitVec 64 := (BitVec.ofNat 64 (x.toNat * y.toNat / 2 ^ 64), x * y)

/-- The product as the library reckons it, by halves. -/
def mulGo (x y : BitVec 64) : BitVec 64 × BitVec 64 :=
  let x0 := x &&& 4294967295#64
  let x1 := x >>> 32
  let y0 := y &&& 4294967295#64
  let y1 := y >>> 32
  let w0 := x0 * y0
  let t := x1 * y0 + w0 >>> 32
  let w1 := (t &&& 4294967295#64) + x0 * y1
  let w2 := t >>> 32
  (x1 * y1 + w2 + w1 >>> 32, x * y)

theorem mask32 (x : BitVec 64) : (x &&& 4294967295#64).toNat = x.toNat % 4294967296 := by
  rw [BitVec.toNat_and]
  exact Nat.and_two_pow_sub_one_eq_mod x.toNat 32

theorem high32 (x : BitVec 64) : (x >>> 32).toNat = x.toNat / 4294967296 := by
  rw [BitVec.toNat_ushiftRight, Nat.shiftRight_eq_div_pow]

theorem halves_hi (x0 x1 y0 y1 : Nat) (hx0 : x0 < 4294967296) (hx1 : x1 < 4294967296) (hy0 : y0 < 4294967296) (hy1 : y1 < 4294967296) :
    (x1 * y1 + (x1 * y0 + x0 * y0 / 4294967296) / 4294967296 + ((x1 * y0 + x0 * y0 / 4294967296) % 4294967296 + x0 * y1) / 4294967296) = (x1 * 4294967296 + x0) * (y1 * 4294967296 + y0) / 18446744073709551616 ∧
    x1 * y0 + x0 * y0 / 4294967296 < 18446744073709551616 ∧ (x1 * y0 + x0 * y0 / 4294967296) % 4294967296 + x0 * y1 < 18446744073709551616 ∧ x0 * y0 < 18446744073709551616 ∧ x1 * y1 < 18446744073709551616 ∧ x1 * y0 < 18446744073709551616 ∧ x0 * y1 < 18446744073709551616 ∧
    (x1 * 4294967296 + x0) * (y1 * 4294967296 + y0) / 18446744073709551616 < 18446744073709551616 := by
  have b : ∀ a b : Nat, a < 4294967296 → b < 4294967296 → a * b ≤ 4294967295 * 4294967295 := fun a b h1 h2 => Nat.mul_le_mul (by omega) (by omega)
  have e : (x1 * 4294967296 + x0) * (y1 * 4294967296 + y0) = (x1 * y1) * 18446744073709551616 + (x1 * y0 + x0 * y1) * 4294967296 + x0 * y0 := by
    simp only [Nat.add_mul, Nat.mul_add]
    rw [show x1 * 4294967296 * (y1 * 4294967296) = x1 * y1 * 18446744073709551616 by
      rw [show (18446744073709551616 : Nat) = 4294967296 * 4294967296 from rfl, Nat.mul_mul_mul_comm]]
    rw [Nat.mul_right_comm x1 4294967296 y0, show x0 * (y1 * 4294967296) = x0 * y1 * 4294967296 from (Nat.mul_assoc _ _ _).symm]
    omega
  rw [e]
  have b00 := b x0 y0 hx0 hy0
  have b10 := b x1 y0 hx1 hy0
  have b01 := b x0 y1 hx0 hy1
  have b11 := b x1 y1 hx1 hy1
  generalize x0 * y0 = p00 at *
  generalize x1 * y0 = p10 at *
  generalize x0 * y1 = p01 at *
  generalize x1 * y1 = p11 at *
  refine ⟨?_, ?_, ?_, ?_, ?_, ?_, ?_, ?_⟩ <;> omega

theorem mulGo_eq (x y : BitVec 64) : mulGo x y = mul64 x y := by
  have hx : x.toNat < 18446744073709551616 := x.isLt
  have hy : y.toNat < 18446744073709551616 := y.isLt
  have m0 : ∀ n : Nat, n % 4294967296 < 4294967296 := fun n => Nat.mod_lt n (Nat.zero_lt_succ _)
  have d0 : ∀ n : Nat, n < 18446744073709551616 → n / 4294967296 < 4294967296 := fun n h => Nat.div_lt_of_lt_mul h
  obtain ⟨h1, h2, h3, h4, h5, h6, h7, h8⟩ := halves_hi (x.toNat % 4294967296) (x.toNat / 4294967296) (y.toNat % 4294967296) (y.toNat / 4294967296) (m0 _) (d0 _ hx) (m0 _) (d0 _ hy)
  have ex : x.toNat / 4294967296 * 4294967296 + x.toNat % 4294967296 = x.toNat := Nat.div_add_mod' _ _
  have ey : y.toNat / 4294967296 * 4294967296 + y.toNat % 4294967296 = y.toNat := Nat.div_add_mod' _ _
  rw [ex, ey] at h1 h8
  unfold mulGo mul64
  refine Prod.ext ?_ rfl
  apply BitVec.eq_of_toNat_eq
  have e64 : (2 : Nat) ^ 64 = 18446744073709551616 := rfl
  simp only [BitVec.toNat_add, BitVec.toNat_mul, mask32, high32, BitVec.toNat_ofNat, e64]
  rw [← h1]
  rw [← h1] at h8
  revert h2 h3 h4 h5 h6 h7 h8
  generalize x.toNat / 4294967296 * (y.toNat / 4294967296) = p11
  generalize x.toNat / 4294967296 * (y.toNat % 4294967296) = p10
  generalize x.toNat % 4294967296 * (y.toNat / 4294967296) = p01
  generalize x.toNat % 4294967296 * (y.toNat % 4294967296) = p00
  intro h2 h3 h4 h5 h6 h7 h8
  rw [Nat.mod_eq_of_lt h5, Nat.mod_eq_of_lt h4, Nat.mod_eq_of_lt h6, Nat.mod_eq_of_lt h7, Nat.mod_eq_of_lt h2, Nat.mod_eq_of_lt h3]
  omega

def primeW : W6 := ⟨0xb9feffffffffaaab#64, 0x1eabfffeb153ffff#64, 0x6730d2a0f6b0f624#64, 0x64774b84f38512bf#64, 0x4b1ba7b6434bacd7#64, 0x1a0111ea397fe69a#64⟩
def oneW : W6 := ⟨0x760900000002fffd#64, 0xebf4000bc40c0002#64, 0x5f48985753c758ba#64, 0x77ce585370525745#64, 0x5c071a97a256ec6d#64, 0x15f65ec3fa80e493#64⟩
def wideW : W6 := ⟨0xf4df1f341c341746#64, 0x0a76e6a609d104f1#64, 0x8de5476c4c95b6d5#64, 0x67eb88a9939d83c0#64, 0x9a793e85b519952d#64, 0x11988fe592cae3aa#64⟩
def orderW : W6 := ⟨0xffffffff00000001#64, 0x53bda402fffe5bfe#64, 0x3339d80809a1d805#64, 0x73eda753299d7d48#64, 0#64, 0#64⟩
def zeroW : W6 := ⟨0#64, 0#64, 0#64, 0#64, 0#64, 0#64⟩

/-- p taken away, if it goes. -/
def lessW (a : W6) : W6 := bif (subs a primeW).2 then a else (subs a primeW).1

def mac (x a t c : BitVec 64) : BitVec 64 × BitVec 64 :=
  let p := mul64 x a
  let s := add64 p.2 t false
  let h := p.1 + bitW s.2
  let r := add64 s.1 c false
  (r.1, h + bitW r.2)

structure W7 where
  l : W6
  w6 : BitVec 64

def mulRound (a : W6) (x : BitVec 64) (t : W7) : W7 :=
  let r0 := mac x a.w0 t.l.w0 (bitW false)
  let r1 := mac x a.w1 t.l.w1 r0.2
  let r2 := mac x a.w2 t.l.w2 r1.2
  let r3 := mac x a.w3 t.l.w3 r2.2
  let r4 := mac x a.w4 t.l.w4 r3.2
  let r5 := mac x a.w5 t.l.w5 r4.2
  let t6 := t.w6 + r5.2
  let q := r0.1 * 9940570264628428797#64
  let m := mul64 q primeW.w0
  let s0 := add64 m.2 r0.1 false
  let c := m.1 + bitW s0.2
  let s1 := mac q primeW.w1 r1.1 c
  let s2 := mac q primeW.w2 r2.1 s1.2
  let s3 := mac q primeW.w3 r3.1 s2.2
  let s4 := mac q primeW.w4 r4.1 s3.2
  let s5 := mac q primeW.w5 r5.1 s4.2
  let s6 := add64 t6 s5.2 false
  ⟨⟨s1.1, s2.1, s3.1, s4.1, s5.1, s6.1⟩, bitW s6.2⟩

def zero7 : W7 := ⟨⟨0, 0, 0, 0, 0, 0⟩, 0⟩

def mulRaw (a b : W6) : W7 := mulRound a b.w5 (mulRound a b.w4 (mulRound a b.w3 (mulRound a b.w2 (mulRound a b.w1 (mulRound a b.w0 zero7)))))

def mulW (a b : W6) : W6 := lessW (mulRaw a b).l
def addW (a b : W6) : W6 := lessW (adds a b).1
def subW (a b : W6) : W6 := bif (subs a b).2 then (adds (subs a b).1 primeW).1 else (subs a b).1
def negW (a : W6) : W6 := subW zeroW a
def toW (a : W6) : W6 := mulW wideW a
def fromW (a : W6) : W6 := mulW a ⟨1#64, 0#64, 0#64, 0#64, 0#64, 0#64⟩

/-- One word of six, by its place. -/
def W6.get (x : W6) (i : Nat) : BitVec 64 := [x.w0, x.w1, x.w2, x.w3, x.w4, x.w5].getD i 0#64

def W6.bit (x : W6) (i : Nat) : Bool := ((x.get (i / 64) >>> (i % 64)) &&& 1#64) == 1#64

/-- A power, from bit k - 1 down. -/
def powG (M : W6 → W6 → W6) (a e : W6) : Nat → W6 → W6
  | 0, out => out
  | k + 1, out => powG M a e k (bif e.bit k then M (M out out) a else M out out)

def pow384 (a e : W6) : W6 := powG mulW a e 384 oneW
def expInv : W6 := ⟨0xb9feffffffffaaa9#64, 0x1eabfffeb153ffff#64, 0x6730d2a0f6b0f624#64, 0x64774b84f38512bf#64, 0x4b1ba7b6434bacd7#64, 0x1a0111ea397fe69a#64⟩
def invW (a : W6) : W6 := pow384 a expInv

structure D6 where
  a : W6
  b : W6
  deriving DecidableEq

/-- Twelve cells: two elements. -/
def c12 : CC D6 where
  n := 12
  enc x := c6.enc x.a ++ c6.enc x.b
  dec l := match c6.dec (l.take 6), c6.dec (l.drop 6) with
    | some x, some y => some ⟨x, y⟩
    | _, _ => none
  val x := c6.val x.a ++ c6.val x.b
  len _ := rfl
  h1 x := (CC.prod c6 c6).h1 (x.a, x.b)
  h2 ρ as vs x h r := by
    refine (CC.prod c6 c6).h2 ρ as vs (x.a, x.b) ?_ r
    simp only [CC.prod]
    split at h
    · rename_i p q hp hq
      simp at h; subst h
      rw [show c6.n = 6 from rfl, hp, hq]
    · cases h

/-- What a field's operations come to, left open. -/
structure FO (K : Type) where
  add : K → K → K
  sub : K → K → K
  mul : K → K → K
  neg : K → K
  inv : K → K
  to : K → K
  back : K → K
  one : K
  zero : K

def fW : FO W6 := ⟨addW, subW, mulW, negW, invW, toW, fromW, oneW, zeroW⟩

section
variable (o : FO W6)
def add2 (x y : D6) : D6 := ⟨o.add x.a y.a, o.add x.b y.b⟩
def sub2 (x y : D6) : D6 := ⟨o.sub x.a y.a, o.sub x.b y.b⟩
def neg2 (x : D6) : D6 := ⟨o.neg x.a, o.neg x.b⟩
def conj2 (x : D6) : D6 := ⟨x.a, o.neg x.b⟩
def mul2 (a b : D6) : D6 :=
  let x := o.mul a.a b.a
  let y := o.mul a.b b.b
  let both := o.mul (o.add a.a a.b) (o.add b.a b.b)
  ⟨o.sub x y, o.sub (o.sub both x) y⟩
def scale2 (a : D6) (n : W6) : D6 := ⟨o.mul a.a n, o.mul a.b n⟩
def norm2 (a : D6) : W6 := o.add (o.mul a.a a.a) (o.mul a.b a.b)
def to2 (a : D6) : D6 := ⟨o.to a.a, o.to a.b⟩
def back2 (a : D6) : D6 := ⟨o.back a.a, o.back a.b⟩
end

def one2 : D6 := ⟨oneW, zeroW⟩
def zero2 : D6 := ⟨zeroW, zeroW⟩
def inv2 (o : FO W6) (a : D6) : D6 := scale2 o (conj2 o a) (o.inv (norm2 o a))
def fD : FO D6 := ⟨add2 fW, sub2 fW, mul2 fW, neg2 fW, inv2 fW, to2 fW, back2 fW, one2, zero2⟩

end Go.Rq

/- Loops whose rounds are told by data; functions behind a pointer; functions gone through where they are called. -/
namespace Go.Rq
open Go

instance : Inhabited XS := ⟨⟨⟨[], [], true⟩, 0⟩⟩

def XS.setT (x : XS) (i : Nat) (a : AV) : XS := ⟨⟨x.s.tm.set i a, x.s.h, x.s.ok⟩, x.n⟩

def setH : AH → Nat → List AV → AH
  | [], _, _ => []
  | (i, b) :: t, id, cs => bif Nat.beq i id then (match b with
    | some B => (i, some ⟨B.wr, B.ty, cs⟩) :: t
    | none => (i, b) :: t) else (i, b) :: setH t id cs

def XS.setB (x : XS) (id : Nat) (cs : List AV) : XS := ⟨⟨x.s.tm, setH x.s.h id cs, x.s.ok⟩, x.n⟩

/-- What is kept at a round's head: slots, blocks, the next block's name; and behind a return. -/
structure Keep where
  tm : List Tmp
  ids : List Nat
  n : Nat

def trimK (k : Keep) (e : AExit) (y : XS) : Tree (AExit × XS) :=
  match trim k.tm k.ids k.n y with
  | some z => .need (allBlt k.n k.ids) (.leaf (e, z))
  | none => .fail

/-- One round: what is not kept is forgotten. -/
def roundT (P : Program) (E : Env) (sym : List Tmp) (tab : BTab) (lf : Nat) (k kx kr : Keep) (c : Code) (x : XS) : Tree (AExit × XS) :=
  (exec P E sym tab lf c x).bind fun (e, y) => match e with
    | .normal => trimK k e y
    | .exit _ => trimK kx e y
    | .ret => trimK kr e y

theorem trimK_sim {F : Fr} {ds : List Deferred} {ρ : Ren} {k : Keep} {e : AExit} {x : XS} {a : Act} {w : World} {m : Nat} {K : AExit × XS → Prop} (hs : Sim F ds ρ x.s a w) (hm : m ≤ k.n) (h : (trimK k e x).holds K) :
    ∃ z ρ', K (e, z) ∧ Sim F ds ρ' z.s a w ∧ m ≤ z.n ∧ (∀ id, z.n ≤ id → ρ' id = none) ∧ (∀ id, id < m → Ren.eqAt ρ' ρ id) := by
  unfold trimK at h
  split at h
  · rename_i z hz
    obtain ⟨ρ', h1, h2, h3, h4⟩ := trim_sim (m := m) hs hz (allBlt_spec h.1) hm
    exact ⟨z, ρ', h.2, h1, h2, h3, h4⟩
  · exact h.elim

theorem round_sound {P : Program} {E : Env} (hE : EnvOk P E) (hm : P.follows .mixedOrders = true) {F : Fr} {ds : List Deferred} {m : Nat} {sym : List Tmp} {tab : BTab} {lf : Nat} {k kx kr : Keep} (h1 : m ≤ k.n) (h2 : m ≤ kx.n) (h3 : m ≤ kr.n)
    {c : Code} {x : XS} {K : AExit → XS → Prop} (hok : codeOk E c = true) (htab : TabOk P m tab c) (h : (roundT P E sym tab lf k kx kr c x).holds (fun r => K r.1 r.2)) : Tri P F ds m c x K := by
  intro ρ a w hs hmx hf
  have main := exec_sound hE hm (F := F) (ds := ds) (m := m) c x
    (fun e y => Tree.holds (fun r : AExit × XS => K r.1 r.2) (match e with
      | .normal => trimK k e y
      | .exit _ => trimK kx e y
      | .ret => trimK kr e y)) hok htab (Tree.holds_mono (fun _ q => q) (Tree.holds_bind h)) ρ a w hs hmx hf
  refine wp_mono main ?_
  rintro e a' w' ⟨e', y, ρ', hk, he, hs', hm', hf', hp'⟩
  have fin : ∀ kk : Keep, m ≤ kk.n → (trimK kk e' y).holds (fun r => K r.1 r.2) → ∃ e2 z ρ2, K e2 z ∧ e2.is e ∧ Sim F ds ρ2 z.s a' w' ∧ m ≤ z.n ∧ (∀ id, z.n ≤ id → ρ2 id = none) ∧ (∀ id, id < m → Ren.eqAt ρ2 ρ id) := by
    intro kk hkk hh
    obtain ⟨z, ρ2, g1, g2, g3, g4, g5⟩ := trimK_sim (m := m) hs' hkk hh
    exact ⟨e', z, ρ2, g1, he, g2, g3, g4, fun id hlt => (g5 id hlt).trans (hp' id hlt)⟩
  cases e' with
  | normal => exact fin k h1 hk
  | exit i => exact fin kx h2 hk
  | ret => exact fin kr h3 hk

/-- A loop in a block: what holds ahead of each round is told by data. -/
theorem blockLoop {P : Program} {E : Env} (hE : EnvOk P E) (hm : P.follows .mixedOrders = true) {F : Fr} {ds : List Deferred} {m id : Nat} {sym : List Tmp} {tab : BTab} {lf : Nat} {k kx kr : Keep} (h1 : m ≤ k.n) (h2 : m ≤ kx.n) (h3 : m ≤ kr.n)
    {c : Code} {K : AExit → XS → Prop} (hok : codeOk E c = true) (htab : TabOk P m tab c) {α : Type} (I : α → XS) (R : α → Prop) (μ : α → Nat) (i0 : α) (hR : R i0)
    (h : ∀ i, R i → (roundT P E sym tab lf k kx kr c (I i)).holds (fun r => match r.1 with
      | .normal => ∃ j, R j ∧ μ j < μ i ∧ r.2 = I j
      | .exit q => if q = id then K .normal r.2 else K (.exit q) r.2
      | .ret => K .ret r.2)) : Tri P F ds m (.block id (.loop c)) (I i0) K := by
  refine Tri.block (Tri.loop (F := F) I R μ i0 rfl hR fun i hi => ?_)
  refine (round_sound hE hm h1 h2 h3 hok htab (K := fun e y => match e with
      | .normal => ∃ j, R j ∧ μ j < μ i ∧ y = I j
      | .exit q => if q = id then K .normal y else K (.exit q) y
      | .ret => K .ret y) (h i hi)).mono ?_
  intro e y hy
  cases e <;> exact hy

/-- The state at a block's head. -/
def reach (P : Program) (E : Env) (sym : List Tmp) (tab : BTab) (lf : Nat) (target : Nat) : Code → XS → Tree (Bool × AExit × XS)
  | .seq a b, x => (reach P E sym tab lf target a x).bind fun r => match r with
    | (true, e, y) => .leaf (true, e, y)
    | (false, .normal, y) => reach P E sym tab lf target b y
    | (false, e, y) => .leaf (false, e, y)
  | .cond c a b, x => match boolOf (look x.s.tm c) with
    | some true => reach P E sym tab lf target a x
    | some false => reach P E sym tab lf target b x
    | none => .fail
  | .block id c, x => bif Nat.beq id target then .leaf (true, .normal, x) else match tab id with
    | some b => b.post.bind fun (e, y) => .leaf (false, e, y)
    | none => (reach P E sym tab lf target c x).bind fun r => match r with
      | (false, .exit i, y) => bif Nat.beq i id then .leaf (false, .normal, y) else .leaf (false, .exit i, y)
      | r => .leaf r
  | .loop c, x => reach P E sym tab lf target c x
  | c, x => (exec P E sym tab lf c x).bind fun (e, y) => .leaf (false, e, y)

def firstT : Tree (Bool × AExit × XS) → Option XS
  | .leaf (true, _, x) => some x
  | .leaf (false, _, _) => none
  | .br _ t f => match firstT t with
    | some x => some x
    | none => firstT f
  | .need _ t => firstT t
  | .same _ _ t => firstT t
  | .fail => none

def bodyOf (P : Program) (f : Nat) : Code := match P.funcs.toList[f]? with
  | some fn => match fn.body with
    | some c => c
    | none => .skip
  | none => .skip

def ntmpsOf (P : Program) (f : Nat) : Nat := match P.funcs.toList[f]? with
  | some fn => fn.ntmps
  | none => 0

/-- The state at the head of a block of a function's body, as far as it is kept. -/
def entryOf (P : Program) (E : Env) (sym : List Tmp) (tab : BTab) (lf : Nat) (f : Nat) (args : List AV) (h : AH) (n : Nat) (target : Nat) (k : Keep) : XS :=
  match firstT (reach P E sym tab lf target (bodyOf P f) ⟨⟨args ++ undefs (ntmpsOf P f - args.length), h, true⟩, n⟩) with
  | some x => match trim k.tm k.ids k.n x with
    | some y => y
    | none => default
  | none => default

/-- The piece of code that a block holds. -/
def blockIn (id : Nat) : Code → Option Code
  | .seq a b => match blockIn id a with
    | some c => some c
    | none => blockIn id b
  | .cond _ a b => match blockIn id a with
    | some c => some c
    | none => blockIn id b
  | .block i c => bif Nat.beq i id then some c else blockIn id c
  | .loop c => blockIn id c
  | _ => none

/-- The round of the loop in a block of a function's body. -/
def roundOf (P : Program) (f id : Nat) : Code := match blockIn id (bodyOf P f) with
  | some (.loop c) => c
  | _ => .skip

def tabOf : List (Nat × BEnt) → BTab
  | [], _ => none
  | (i, b) :: t, id => bif Nat.beq i id then some b else tabOf t id

theorem ctx_of {P : Program} {E : Env} {sym : List Tmp} {tab : BTab} {lf f : Nat} (hE : EnvOk P E) (hm : P.follows .mixedOrders = true) {fn : Func} (hf : P.funcs.toList[f]? = some fn) (hb : fn.body = some (bodyOf P f)) (hok : codeOk E (bodyOf P f) = true)
    (htab : TabOk P 0 tab (bodyOf P f)) : Ctx P E sym tab lf f := ⟨hE, hm, fn, _, hf, hb, hok, htab⟩

theorem tabOk_none {P : Program} {m : Nat} : ∀ c : Code, TabOk P m (fun _ => none) c := by
  intro c
  induction c with
  | seq a b ha hb => exact ⟨ha, hb⟩
  | cond c a b ha hb => exact ⟨ha, hb⟩
  | block id c ih => exact ih
  | loop c ih => exact ih
  | _ => trivial

/-! Called functions, gone through where they are called: at exact values. -/

def strip : Tree AV → Option AV
  | .leaf a => some a
  | .need true t => strip t
  | _ => none

def allFlat (as : List AV) : Bool := match flatL as with
  | some _ => true
  | none => false

def isFlat (a : AV) : Bool := match flat a with
  | some _ => true
  | none => false

/-- A function gone through where it is called: it must come to one exact answer. -/
def inlineG (P : Program) (E : Env) (sym : List Tmp) (lf f : Nat) (as : List AV) : Option (Bool × AV) :=
  match allFlat as with
  | true => match strip (afunR P E sym (fun _ => none) lf f as).strict with
    | some r => match isFlat r with
      | true => some (true, r)
      | false => none
    | none => none
  | false => none

theorem strip_holds : ∀ {t : Tree AV} {r : AV}, strip t = some r → t.holds (fun q => q = r)
  | .leaf a, r, h => by simp [strip] at h; exact h
  | .need true t, r, h => by simp only [strip] at h; exact ⟨rfl, strip_holds h⟩
  | .need false t, r, h => by simp [strip] at h
  | .br _ _ _, r, h => by simp [strip] at h
  | .same _ _ _, r, h => by simp [strip] at h
  | .fail, r, h => by simp [strip] at h

theorem inline_ok {P : Program} {E : Env} {sym : List Tmp} {lf f : Nat} (X : Ctx P E sym (fun _ => none) lf f) : PureOk P f (inlineG P E sym lf f) := by
  refine pure_core X fun as r hg => ?_
  unfold inlineG at hg
  split at hg
  · rename_i hfl
    split at hg
    · rename_i q hq
      split at hg
      · rename_i hfr
        simp at hg; subst hg
        unfold allFlat at hfl
        split at hfl
        · rename_i l hl
          unfold isFlat at hfr
          split at hfr
          · rename_i y hy
            exact ⟨as, l, fun ρ xs hx => hx.flatL_eq hl, hl, y, hy, Tree.holds_strict (Tree.holds_mono (fun a h => by rw [h]; exact hy) (strip_holds hq))⟩
          · cases hfr
        · cases hfl
      · cases hg
    · cases hg
  · cases hg

end Go.Rq

/- Functions that only read the blocks that they are handed, gone through where they are called. -/
namespace Go.Rq
open Go

def topOf : List Nat → Nat
  | [] => 0
  | i :: t => Nat.max (i + 1) (topOf t)

theorem topOf_lt : ∀ {l : List Nat} {i : Nat}, i ∈ l → i < topOf l
  | j :: t, i, h => by
    simp only [topOf]
    rcases List.mem_cons.1 h with rfl | h
    · exact Nat.lt_of_lt_of_le (Nat.lt_succ_self _) (Nat.le_max_left _ _)
    · exact Nat.lt_of_lt_of_le (topOf_lt h) (Nat.le_max_right _ _)

/-- The blocks named, to be read alone; they must name no blocks. -/
def viewH (h : AH) : List Nat → Option AH
  | [] => some []
  | i :: t => match AH.get h i with
    | none => none
    | some B => match viewH h t with
      | none => none
      | some l => bif allLt 0 B.cs then some ((i, some ⟨false, B.ty, B.cs⟩) :: l) else none

theorem viewH_get {h : AH} : ∀ {ids : List Nat} {l : AH}, viewH h ids = some l → ∀ id B, l.get id = some B →
    id ∈ ids ∧ ∃ B0, h.get id = some B0 ∧ B = ⟨false, B0.ty, B0.cs⟩ ∧ allLt 0 B0.cs = true
  | [], l, e, id, B, g => by simp [viewH] at e; subst e; simp [AH.get] at g
  | i :: t, l, e, id, B, g => by
    simp only [viewH] at e
    split at e
    · cases e
    · rename_i B0 hB0
      split at e
      · cases e
      · rename_i l' hl'
        cases hc : allLt 0 B0.cs with
        | false => rw [hc] at e; simp at e
        | true =>
          rw [hc] at e; simp at e; subst e
          rw [AH.get_cons] at g
          split at g
          · rename_i e; subst e; simp at g; subst g; exact ⟨by simp, B0, hB0, rfl, hc⟩
          · obtain ⟨h1, h2⟩ := viewH_get hl' id B g
            exact ⟨by simp [h1], h2⟩

theorem viewH_congr {h h' : AH} : ∀ {ids : List Nat} {l : AH}, (∀ i ∈ ids, ∀ B, h.get i = some B → h'.get i = some B) → viewH h ids = some l → viewH h' ids = some l
  | [], l, _, e => e
  | i :: t, l, k, e => by
    simp only [viewH] at e ⊢
    split at e
    · cases e
    · rename_i B0 hB0
      split at e
      · cases e
      · rename_i l' hl'
        rw [k i (by simp) B0 hB0, viewH_congr (fun j hj => k j (by simp [hj])) hl']
        exact e

theorem viewH_ok {F : Fr} {ρ : Ren} {h : AH} {w : World} (r : RW F ρ h w) {ids : List Nat} {l : AH} {n : Nat} (hv : viewH h ids = some l) (hn : ∀ i ∈ ids, i < n) :
    RW (frameOf w) (ρ.cut n) l w := by
  refine ⟨fun id B hB => ?_, fun id id' B B' b hB hB' hw => ?_, fun _ _ h => h, rfl, rfl, rfl, r.gw⟩
  · obtain ⟨hi, B0, h1, rfl, h2⟩ := viewH_get hv id B hB
    obtain ⟨b, o, h3, h4, h5, h8⟩ := r.blk id B0 h1
    refine ⟨b, _, by rw [Ren.cut_lt (hn id hi)]; exact h3, h4, h5.keep rfl (fun h => by cases h) rfl rfl (fun a ha x hx => ?_), (fun h => by cases h), h8.2⟩
    exact (hx.lt (n := 0) (allLt_spec h2 a ha)).mono (fun j c hj => absurd (Ren.cut_some hj).1 (by omega))
  · obtain ⟨_, B0, _, rfl, _⟩ := viewH_get hv id B hB
    cases hw

def stripH : Tree (AV × AH) → Option AV
  | .leaf a => some a.1
  | .need true t => stripH t
  | _ => none

theorem stripH_holds : ∀ {t : Tree (AV × AH)} {r : AV}, stripH t = some r → t.holds (fun q => q.1 = r)
  | .leaf a, r, h => by simp [stripH] at h; exact h
  | .need true t, r, h => by simp only [stripH] at h; exact ⟨rfl, stripH_holds h⟩
  | .need false t, r, h => by simp [stripH] at h
  | .br _ _ _, r, h => by simp [stripH] at h
  | .same _ _ _, r, h => by simp [stripH] at h
  | .fail, r, h => by simp [stripH] at h

/-- A function that reads what it is handed, gone through where it is called: it must come to one exact answer. -/
def viewG (P : Program) (E : Env) (sym : List Tmp) (lf f : Nat) (as : List AV) (h : AH) : Option (Bool × AV × AH) :=
  match allLt (topOf (idsOf as)) as with
  | true => match viewH h (idsOf as) with
    | some h0 => match stripH (afun P E sym (fun _ => none) lf f as h0 (topOf (idsOf as))).strict with
      | some r => match isFlat r with
        | true => some (true, r, [])
        | false => none
      | none => none
    | none => none
  | false => none

theorem Rvs.ids_ne {ρ : Ren} {z : Nat} (hz : ρ z = none) : ∀ {as : List AV} {xs : List Value}, Rvs ρ as xs → ∀ i ∈ idsOf as, i ≠ z
  | [], xs, _, i, hi => by simp [idsOf] at hi
  | a :: t, xs, h, i, hi => by
    obtain ⟨x, ys, rfl, hx, ht⟩ := h.uncons
    simp only [idsOf] at hi
    split at hi
    · cases hx with
      | ptr hb =>
        rcases List.mem_cons.1 hi with rfl | hi
        · intro e; subst e; rw [hz] at hb; cases hb
        · exact ht.ids_ne hz i hi
    · cases hx with
      | slc hb =>
        rcases List.mem_cons.1 hi with rfl | hi
        · intro e; subst e; rw [hz] at hb; cases hb
        · exact ht.ids_ne hz i hi
    · cases hx with
      | own hb _ _ _ =>
        rcases List.mem_cons.1 hi with rfl | hi
        · intro e; subst e; rw [hz] at hb; cases hb
        · exact ht.ids_ne hz i hi
      | ownE hb _ =>
        rcases List.mem_cons.1 hi with rfl | hi
        · intro e; subst e; rw [hz] at hb; cases hb
        · exact ht.ids_ne hz i hi
    · exact ht.ids_ne hz i hi

theorem Rvs.lt_all {ρ : Ren} {n : Nat} : ∀ {as : List AV} {xs : List Value}, Rvs ρ as xs → allLt n as = true → Rvs (ρ.cut n) as xs
  | [], xs, h, _ => by rw [h.unnil]; exact .nil
  | a :: t, xs, h, e => by
    obtain ⟨x, ys, rfl, hx, ht⟩ := h.uncons
    simp only [allLt, Bool.and_eq_true] at e
    exact .cons (hx.lt e.1) (ht.lt_all e.2)

theorem view_ok {P : Program} {E : Env} {sym : List Tmp} {lf f : Nat} (X : Ctx P E sym (fun _ => none) lf f) : HeapOk P f (viewG P E sym lf f) := by
  obtain ⟨fn, c, hf, hb, hok, htab⟩ := X.body
  refine ⟨?_, ?_, ?_, ?_, ?_⟩
  rotate_left 4
  · intro as h h' x hle hg
    unfold viewG at hg ⊢
    split at hg
    · rename_i hlt
      split at hg
      · rename_i h0 hv
        simp only [viewH_congr hle hv]
        exact hg
      · cases hg
    · cases hg
  · intro F ρ as xs h r ups w hg hx hw
    unfold viewG at hg
    split at hg
    · rename_i hlt
      split at hg
      · rename_i h0 hv
        split at hg
        · rename_i q hq
          split at hg
          · rename_i hfr
            simp at hg
            obtain ⟨rfl, rfl⟩ := hg
            unfold isFlat at hfr
            split at hfr
            · rename_i y hy
              have := afun_calls X.env X.mixed hf hb hok (tabOk_none c) (K := fun q' _ => flat q' = some y)
                (Tree.holds_strict (Tree.holds_mono (fun a h => by rw [h]; exact hy) (stripH_holds hq))) (F := frameOf w)
                (hx.lt_all hlt) (viewH_ok hw hv (fun i hi => topOf_lt hi)) (fun id hid => Ren.cut_ge hid)
              refine Calls.mono this ?_
              rintro e w' ⟨v, q', h', ρ', rfl, hk, hrv, hrw, _⟩
              have := hrv.flat_eq hk
              subst this
              exact ⟨v, rfl, .of_flat hy, hw.below hrw.to_below⟩
            · cases hfr
          · cases hg
        · cases hg
      · cases hg
    · cases hg
  · intro as h h' x hle hg
    unfold viewG at hg ⊢
    split at hg
    · rename_i hlt
      split at hg
      · rename_i h0 hv
        simp only [viewH_congr (fun i _ B hB => hle i B hB) hv]
        exact hg
      · cases hg
    · cases hg
  · intro ρ as xs z b h x hx hz hg
    unfold viewG at hg ⊢
    split at hg
    · rename_i hlt
      split at hg
      · rename_i h0 hv
        have := viewH_congr (h' := h) (fun i hi B hB => by
          rw [AH.get_cons, if_neg (fun e => hx.ids_ne hz i hi e.symm)] at hB; exact hB) hv
        simp only [this]
        exact hg
      · cases hg
    · cases hg
  · intro as h c r ups hg
    unfold viewG at hg
    split at hg
    · split at hg
      · split at hg
        · split at hg
          · simp at hg
            obtain ⟨_, _, rfl⟩ := hg
            simp
          · cases hg
        · cases hg
      · cases hg
    · cases hg

/-- What a function comes to, whatever it is handed. -/
theorem any_calls {P : Program} {E : Env} {sym : List Tmp} {tab : BTab} {lf f : Nat} (X : Ctx P E sym tab lf f) {k : Nat} {y : Value}
    (h : (afunR P E sym tab lf f (List.replicate k .any)).holds (fun q => flat q = some y)) {xs : Array Value} (hk : xs.size = k) (w : World) (hgw : GW w) :
    Calls P f xs w (fun e w' => e = .returned y ∧ RowKit.Below w.heap.size w w') := by
  obtain ⟨fn, c, hf, hb, hok, htab⟩ := X.body
  have hx : Rvs Ren.empty (List.replicate k .any) xs.toList := ⟨by simp [hk], fun i a x ha _ => by
    have : a = .any := by
      rw [List.getElem?_replicate] at ha
      split at ha
      · simpa using ha.symm
      · cases ha
    subst this
    exact .any x⟩
  have := afun_calls X.env X.mixed hf hb hok htab (K := fun q _ => flat q = some y) (Tree.holds_bind h) (F := frameOf w) (ρ := Ren.empty) (w := w) hx (RW.init w _ hgw) (fun _ _ => rfl)
  have e : xs.toList.toArray = xs := by simp
  rw [e] at this
  refine Calls.mono this ?_
  rintro e w' ⟨v, q, h', ρ', rfl, hk, hrv, hrw, _⟩
  have := hrv.flat_eq hk
  subst this
  exact ⟨rfl, hrw.to_below⟩

abbrev HeapTab := List (FuncId × (List AV → AH → Option (Bool × AV × AH)))

def lookHT : HeapTab → FuncId → Option (List AV → AH → Option (Bool × AV × AH))
  | [], _ => none
  | (f, g) :: t, k => bif Nat.beq f k then some g else lookHT t k

theorem lookHT_mem : ∀ {ps : HeapTab} {f : FuncId} {g}, lookHT ps f = some g → (f, g) ∈ ps
  | [], f, g, h => by simp [lookHT] at h
  | (k, q) :: t, f, g, h => by
    simp only [lookHT] at h
    cases hb : Nat.beq k f with
    | true => rw [hb] at h; simp at h; subst h; rw [Nat.eq_of_beq_eq_true hb]; simp
    | false => rw [hb] at h; exact List.mem_cons_of_mem _ (lookHT_mem h)

def TabHOk (P : Program) (ps : HeapTab) : Prop := ∀ p ∈ ps, Enters P p.1 ∧ HeapOk P p.1 p.2

theorem TabHOk.nil {P : Program} : TabHOk P [] := fun p h => by simp at h
theorem TabHOk.cons {P : Program} {f : FuncId} {g : List AV → AH → Option (Bool × AV × AH)} {t : HeapTab} (h1 : Enters P f) (h : HeapOk P f g) (r : TabHOk P t) : TabHOk P ((f, g) :: t) := by
  intro p hp
  rcases List.mem_cons.1 hp with rfl | hp
  · exact ⟨h1, h⟩
  · exact r p hp

def envS (eqs : List (TypeId × List Nat)) (ps : PureTab) (hs : HeapTab) (ss : List TypeId) : Env := ⟨lookP ps, lookHT hs, lookE eqs, false, true, ss, [], fun _ => none, none, fun _ => none, false, [], 1⟩
/-- Likewise; an assignment under a bool (in a slot of ms) that may be a variable is made of both values. -/
def envM (eqs : List (TypeId × List Nat)) (ps : PureTab) (hs : HeapTab) (ms : List Tmp) : Env := ⟨lookP ps, lookHT hs, lookE eqs, false, true, [], ms, fun _ => none, none, fun _ => none, false, [], 1⟩
theorem envM_ok {P : Program} {eqs : List (TypeId × List Nat)} {ps : PureTab} {hs : HeapTab} {ms : List Tmp} (he : EqsOk P eqs) (hp : TabPOk P ps) (hh : TabHOk P hs) : EnvOk P (envM eqs ps hs ms) :=
  ⟨fun _ _ h => he _ (lookE_mem h), fun _ _ h => hp _ (lookP_mem h), fun _ _ h => hh _ (lookHT_mem h), (fun _ _ h => by cases h), (fun _ _ h => by cases h), Nat.le_refl 1⟩
def envH (eqs : List (TypeId × List Nat)) (ps : PureTab) (hs : HeapTab) : Env := envS eqs ps hs []

theorem envS_ok {P : Program} {eqs : List (TypeId × List Nat)} {ps : PureTab} {hs : HeapTab} {ss : List TypeId} (he : EqsOk P eqs) (hp : TabPOk P ps) (hh : TabHOk P hs) : EnvOk P (envS eqs ps hs ss) :=
  ⟨fun _ _ h => he _ (lookE_mem h), fun _ _ h => hp _ (lookP_mem h), fun _ _ h => hh _ (lookHT_mem h), (fun _ _ h => by cases h), (fun _ _ h => by cases h), Nat.le_refl 1⟩

theorem envH_ok {P : Program} {eqs : List (TypeId × List Nat)} {ps : PureTab} {hs : HeapTab} (he : EqsOk P eqs) (hp : TabPOk P ps) (hh : TabHOk P hs) : EnvOk P (envH eqs ps hs) :=
  ⟨fun _ _ h => he _ (lookE_mem h), fun _ _ h => hp _ (lookP_mem h), fun _ _ h => hh _ (lookHT_mem h), (fun _ _ h => by cases h), (fun _ _ h => by cases h), Nat.le_refl 1⟩

end Go.Rq

/- Loops whose heads depend on the arguments; tables of blocks. -/
namespace Go.Rq
open Go

/-- All pieces of code that blocks of one name hold. -/
def blkAll (id : Nat) : Code → List Code
  | .seq a b => blkAll id a ++ blkAll id b
  | .cond _ a b => blkAll id a ++ blkAll id b
  | .block i c => bif Nat.beq i id then c :: blkAll id c else blkAll id c
  | .loop c => blkAll id c
  | _ => []

theorem tabOk_of {P : Program} {m : Nat} {tab : BTab} : ∀ {c : Code}, (∀ id b, tab id = some b → m ≤ b.n ∧ ∀ q ∈ blkAll id c, ∀ F ds K, b.post.holds (fun r => K r.1 r.2) → Tri P F ds m (.block id q) b.pre K) → TabOk P m tab c := by
  intro c
  induction c with
  | seq a b ha hb =>
    intro h
    exact ⟨ha fun id e he => ⟨(h id e he).1, fun q hq => (h id e he).2 q (List.mem_append_left _ hq)⟩, hb fun id e he => ⟨(h id e he).1, fun q hq => (h id e he).2 q (List.mem_append_right _ hq)⟩⟩
  | cond c a b ha hb =>
    intro h
    exact ⟨ha fun id e he => ⟨(h id e he).1, fun q hq => (h id e he).2 q (List.mem_append_left _ hq)⟩, hb fun id e he => ⟨(h id e he).1, fun q hq => (h id e he).2 q (List.mem_append_right _ hq)⟩⟩
  | block i c ih =>
    intro h
    simp only [TabOk]
    split
    · rename_i b hb
      refine ⟨(h i b hb).1, fun F ds K hk => (h i b hb).2 c ?_ F ds K hk⟩
      simp [blkAll, Nat.beq_refl]
    · refine ih fun id e he => ⟨(h id e he).1, fun q hq => (h id e he).2 q ?_⟩
      simp only [blkAll]
      cases Nat.beq i id with
      | true => exact List.mem_cons_of_mem _ hq
      | false => exact hq
  | loop c ih => intro h; exact ih h
  | _ => intro _; trivial

/-- A table of one block. -/
theorem tabOk_one {P : Program} {m id : Nat} {b : BEnt} {c q : Code} (hn : m ≤ b.n) (hc : blkAll id c = [q]) (h : ∀ F ds K, b.post.holds (fun r => K r.1 r.2) → Tri P F ds m (.block id q) b.pre K) : TabOk P m (tabOf [(id, b)]) c := by
  refine tabOk_of fun i e he => ?_
  simp only [tabOf] at he
  cases hb : Nat.beq id i with
  | true =>
    rw [hb] at he
    simp at he; subst he
    obtain rfl := Nat.eq_of_beq_eq_true hb
    refine ⟨hn, fun q' hq => ?_⟩
    rw [hc] at hq
    simp at hq; subst hq
    exact h
  | false => rw [hb] at he; simp at he

/-- A context made for one list of arguments. -/
structure GivesX (P : Program) (f : Nat) (as : List AV) (v : Value) : Prop where
  out : ∃ E sym tab lf, Ctx P E sym tab lf f ∧ (afunR P E sym tab lf f as).holds (fun q => flat q = some v)

theorem GivesX.of {P : Program} {E : Env} {sym : List Tmp} {tab : BTab} {lf f : Nat} {as : List AV} {v : Value} (X : Ctx P E sym tab lf f) (h : Gives (afunR P E sym tab lf f as) v) : GivesX P f as v := ⟨E, sym, tab, lf, X, h.out⟩

theorem pure_coreX {P : Program} {f : Nat} {g : List AV → Option (Bool × AV)}
    (h : ∀ as r, g as = some (true, r) → ∃ as' l, (∀ (ρ : Ren) (xs : List Value), Rvs ρ as xs → xs = l) ∧ flatL as' = some l ∧ ∃ y, flat r = some y ∧ GivesX P f as' y) : PureOk P f g := by
  intro ρ as xs r hg hx w hgw
  obtain ⟨as', l, h1, h2, y, h3, E, sym, tab, lf, X, h4⟩ := h as r hg
  obtain ⟨fn, c, hf, hb, hok, htab⟩ := X.body
  have hxl := h1 ρ xs hx
  subst hxl
  have := afun_calls X.env X.mixed hf hb hok htab (K := fun q _ => flat q = some y) (Tree.holds_bind h4) (F := frameOf w) (ρ := Ren.empty) (xs := xs) (w := w) (Rvs.of_flatL h2) (RW.init w _ hgw) (fun _ _ => rfl)
  refine Calls.mono this ?_
  rintro e w' ⟨v, q, h', ρ', rfl, hk, hrv, hrw, _⟩
  have := hrv.flat_eq hk
  subst this
  exact ⟨v, rfl, .of_flat h3, hrw.to_below⟩

theorem sameVal {β : Type} {B : Cod β} {y : β} {x : XS} {t : Tree AV} (h : t.strict = .same x x (.leaf (B.enc y))) : Gives t (B.val y) :=
  ⟨Tree.holds_strict (by rw [h]; exact ⟨rfl, B.h1 y⟩)⟩

section
variable {P : Program} {f : Nat} {α β γ δ : Type} {A : Cod α} {B : Cod β} {C : Cod γ} {D : Cod δ}

theorem pure1X {F : α → β} (h : ∀ x, GivesX P f [A.enc x] (B.val (F x))) : PureOk P f (fn1 A B F) := by
  refine pure_coreX fun as r hg => ?_
  unfold fn1 at hg
  split at hg
  · rename_i a
    split at hg
    · rename_i x hx
      simp at hg; subst hg
      refine ⟨[A.enc x], [A.val x], fun ρ xs hxs => ?_, by simp [flatL, A.h1], _, B.h1 _, h x⟩
      obtain ⟨v, ys, rfl, h1, h2⟩ := hxs.uncons
      rw [h2.unnil, A.h2 ρ _ _ _ hx h1]
    · cases hg
  · cases hg

theorem pure2X {F : α → γ → β} (h : ∀ x y, GivesX P f [A.enc x, C.enc y] (B.val (F x y))) : PureOk P f (fn2 A C B F) := by
  refine pure_coreX fun as r hg => ?_
  unfold fn2 at hg
  split at hg
  · rename_i a c
    split at hg
    · rename_i x y hx hy
      simp at hg; subst hg
      refine ⟨[A.enc x, C.enc y], [A.val x, C.val y], fun ρ xs hxs => ?_, by simp [flatL, A.h1, C.h1], _, B.h1 _, h x y⟩
      obtain ⟨v, ys, rfl, h1, h2⟩ := hxs.uncons
      obtain ⟨u, zs, rfl, h3, h4⟩ := h2.uncons
      rw [h4.unnil, A.h2 ρ _ _ _ hx h1, C.h2 ρ _ _ _ hy h3]
    · cases hg
  · cases hg

end
end Go.Rq

/- Rows of the library with two arguments; strings and bytes. -/
namespace Go.Rq
open Go

theorem ext2 {P : Program} {f : FuncId} {fn : Func} (hf : P.funcs.toList[f]? = some fn) (h1 : (fn.name == "runtime.NumGoroutine") = false) (h2 : fn.body.isNone = true) (h3 : (Extern.findNext fn).isNone = true)
    {r : Array Value → Sem Value} (h4 : Extern.find fn = some r) {α β γ : Type} {A : Cod α} {B : Cod β} {C : Cod γ} {F : α → γ → β}
    (h : ∀ x y w, (r #[A.val x, C.val y]).run P w = .ok (B.val (F x y)) w) : ExtOk P f (fn2 A C B F) := by
  intro ρ as xs q hg hx w
  unfold fn2 at hg
  split at hg
  · rename_i a c
    split at hg
    · rename_i x y hx' hy
      simp at hg; subst hg
      obtain ⟨v, ys, rfl, h1', h2'⟩ := hx.uncons
      obtain ⟨u, zs, rfl, h3', h4'⟩ := h2'.uncons
      rw [h4'.unnil, A.h2 ρ _ _ _ hx' h1', C.h2 ρ _ _ _ hy h3']
      refine ⟨B.val (F x y), ?_, .of_flat (B.h1 _)⟩
      have hf' : P.funcs[f]? = some fn := by simpa using hf
      have hnext : Extern.findNext fn = none := by simpa using h3
      have hr := h x y w
      simp only [callFunc, Sem.run_bind, run_program, Result.andThen_ok, hf', h1, h2, hnext, h4, Sem.run_ite]
      simp only [hr, Bool.false_eq_true, if_false, if_true, run_mark, Result.andThen_ok, Sem.run_pure]
    · cases hg
  · cases hg

def strOf : AV → Option ByteArray
  | .v (.string s) => some s
  | _ => none

def kStr : Cod ByteArray where
  enc s := .v (.string s)
  dec a := strOf a
  val s := .string s
  h1 _ := rfl
  h2 ρ a v x h r := by
    unfold strOf at h
    split at h
    · simp at h; subst h; cases r; rfl
    · cases h

/-- Where a byte stands first. -/
def idxByte (s : ByteArray) (b : Int) : Int := match (List.range s.size).find? (fun i => s[i]! == b.toNat.toUInt8) with
  | some i => (i : Int)
  | none => -1

theorem idxByte_run {P : Program} (s : ByteArray) (b : Int) (w : World) : (Extern.BytealgIndexByte.indexByte #[kStr.val s, (kInt .u8).val b]).run P w = .ok ((kInt .i64).val (idxByte s b)) w := by
  have e : Extern.BytealgIndexByte.indexByte #[kStr.val s, (kInt .u8).val b] = (do
    let x ← Extern.Bytes.bytesOf (.string s)
    let c ← Extern.Bytes.asByte (.int .u8 b)
    match (List.range x.size).find? fun i => x[i]! == c with
    | some i => pure (goInt i)
    | none => pure (goInt (-1)) : Sem Value) := rfl
  rw [e]
  simp only [kInt, Extern.Bytes.bytesOf, Extern.Bytes.asByte, Sem.run_bind, Sem.run_pure, Result.andThen_ok, idxByte]
  cases (List.range s.size).find? (fun i => s[i]! == b.toNat.toUInt8) with
  | none => simp [Sem.run_pure, goInt]
  | some i => simp [Sem.run_pure, goInt]

/-- A tree of answers, all of them exact. -/
theorem treeVal {β : Type} {B : Cod β} {y : β} {t u : Tree AV} (h : t.strict = u) (hu : u.holds (fun q => q = B.enc y)) : Gives t (B.val y) :=
  ⟨Tree.holds_strict (by rw [h]; exact Tree.holds_mono (fun a ha => by rw [ha]; exact B.h1 y) hu)⟩

/-- Which of two numbers is the less, from the top. -/
def cmpW (a b : W6) : Int :=
  bif BitVec.ult a.w5 b.w5 then -1 else bif BitVec.ult b.w5 a.w5 then 1 else
  bif BitVec.ult a.w4 b.w4 then -1 else bif BitVec.ult b.w4 a.w4 then 1 else
  bif BitVec.ult a.w3 b.w3 then -1 else bif BitVec.ult b.w3 a.w3 then 1 else
  bif BitVec.ult a.w2 b.w2 then -1 else bif BitVec.ult b.w2 a.w2 then 1 else
  bif BitVec.ult a.w1 b.w1 then -1 else bif BitVec.ult b.w1 a.w1 then 1 else
  bif BitVec.ult a.w0 b.w0 then -1 else bif BitVec.ult b.w0 a.w0 then 1 else 0

/-- A chain of questions, each with its answer. -/
def chain {β : Type} (B : Cod β) : List (Bool × β) → β → Tree AV
  | [], y => .leaf (B.enc y)
  | (c, x) :: t, y => .br c (.leaf (B.enc x)) (chain B t y)

def chainV {β : Type} : List (Bool × β) → β → β
  | [], y => y
  | (c, x) :: t, y => bif c then x else chainV t y

theorem chain_holds {β : Type} (B : Cod β) : ∀ (l : List (Bool × β)) (y : β), (chain B l y).holds (fun q => q = B.enc (chainV l y))
  | [], _ => rfl
  | (c, x) :: t, y => ⟨fun h => by simp only [chainV, h, cond_true]; rfl, fun h => by simp only [chainV, h, cond_false]; exact chain_holds B t y⟩

theorem chainVal {β : Type} {B : Cod β} {l : List (Bool × β)} {y : β} {t : Tree AV} (h : t.strict = chain B l y) : Gives t (B.val (chainV l y)) := treeVal h (chain_holds B l y)

end Go.Rq

/- Contracts at listed values; contracts of functions that read slices. -/
namespace Go.Rq
open Go

theorem CallOk.weaken {P : Program} {f : FuncId} {g g' : List AV → Option (Bool × AV)} (h : ∀ as r, g' as = some (true, r) → g as = some (true, r)) (k : CallOk P f g) : CallOk P f g' := by
  rcases k with ⟨h1, h2⟩ | h2
  · exact .inl ⟨h1, fun ρ as xs r hg hx w => h2 ρ as xs r (h _ _ hg) hx w⟩
  · exact .inr fun ρ as xs r hg hx w => h2 ρ as xs r (h _ _ hg) hx w

/-- What is listed of an argument. -/
def lookT {α β : Type} (e : α → α → Bool) : List (α × β) → α → Option β
  | [], _ => none
  | p :: t, x => match e p.1 x with
    | true => some p.2
    | false => lookT e t x

theorem lookT_mem {α β : Type} {e : α → α → Bool} (he : ∀ x y, e x y = true → x = y) : ∀ {tab : List (α × β)} {x : α} {y : β}, lookT e tab x = some y → (x, y) ∈ tab
  | [], x, y, h => by simp [lookT] at h
  | p :: t, x, y, h => by
    simp only [lookT] at h
    split at h
    · rename_i hp; simp at h; subst h; rw [← he _ _ hp]; simp
    · exact List.mem_cons_of_mem _ (lookT_mem he h)

def fnT1 {α β : Type} (A : Cod α) (B : Cod β) (e : α → α → Bool) (tab : List (α × β)) : List AV → Option (Bool × AV)
  | [a] => match A.dec a with
    | none => none
    | some x => match lookT e tab x with
      | none => none
      | some y => some (true, B.enc y)
  | _ => none

def pairB {α γ : Type} (e : α → α → Bool) (e' : γ → γ → Bool) (p q : α × γ) : Bool := bif e p.1 q.1 then e' p.2 q.2 else false

theorem pairB_eq {α γ : Type} {e : α → α → Bool} (he : ∀ x y, e x y = true → x = y) {e' : γ → γ → Bool} (he' : ∀ x y, e' x y = true → x = y) (p q : α × γ) (h : pairB e e' p q = true) : p = q := by
  unfold pairB at h
  cases h1 : e p.1 q.1 with
  | false => rw [h1] at h; cases h
  | true => rw [h1] at h; exact Prod.ext (he _ _ h1) (he' _ _ h)

def fnT2 {α β γ : Type} (A : Cod α) (C : Cod γ) (B : Cod β) (e : α → α → Bool) (e' : γ → γ → Bool) (tab : List ((α × γ) × β)) : List AV → Option (Bool × AV)
  | [a, c] => match A.dec a, C.dec c with
    | some x, some z => match lookT (pairB e e') tab (x, z) with
      | none => none
      | some y => some (true, B.enc y)
    | _, _ => none
  | _ => none

theorem callT1 {P : Program} {f : FuncId} {α β : Type} {A : Cod α} {B : Cod β} {F : α → β} {e : α → α → Bool} (he : ∀ x y, e x y = true → x = y) {tab : List (α × β)} (ht : ∀ p ∈ tab, F p.1 = p.2)
    (h : CallOk P f (fn1 A B F)) : CallOk P f (fnT1 A B e tab) := by
  refine h.weaken fun as r hg => ?_
  unfold fnT1 at hg
  split at hg
  · split at hg
    · cases hg
    · rename_i x hx
      split at hg
      · cases hg
      · rename_i y hy
        simp at hg; subst hg
        simp [fn1, hx, ht _ (lookT_mem he hy)]
  · cases hg

theorem callT2 {P : Program} {f : FuncId} {α β γ : Type} {A : Cod α} {B : Cod β} {C : Cod γ} {F : α → γ → β} {e : α → α → Bool} (he : ∀ x y, e x y = true → x = y) {e' : γ → γ → Bool} (he' : ∀ x y, e' x y = true → x = y)
    {tab : List ((α × γ) × β)} (ht : ∀ p ∈ tab, F p.1.1 p.1.2 = p.2) (h : CallOk P f (fn2 A C B F)) : CallOk P f (fnT2 A C B e e' tab) := by
  refine h.weaken fun as r hg => ?_
  unfold fnT2 at hg
  split at hg
  · split at hg
    · rename_i x z hx hz
      split at hg
      · cases hg
      · rename_i y hy
        simp at hg; subst hg
        have hm := lookT_mem (pairB_eq he he') hy
        simp [fn2, hx, hz, ht _ hm]
    · cases hg
  · cases hg

/-- A function of one argument, gone through at the listed values. -/
theorem tabT1 {P : Program} {E : Env} {sym : List Tmp} {tab : BTab} {lf f : Nat} (X : Ctx P E sym tab lf f) {α β : Type} {A : Cod α} {B : Cod β} {e : α → α → Bool} (he : ∀ x y, e x y = true → x = y) {l : List (α × β)}
    (h : ∀ p ∈ l, Gives (afunR P E sym tab lf f [A.enc p.1]) (B.val p.2)) : PureOk P f (fnT1 A B e l) := by
  refine pure_core X fun as r hg => ?_
  unfold fnT1 at hg
  split at hg
  · rename_i a
    split at hg
    · cases hg
    · rename_i x hx
      split at hg
      · cases hg
      · rename_i y hy
        simp at hg; subst hg
        refine ⟨[A.enc x], [A.val x], fun ρ xs hxs => ?_, by simp [flatL, A.h1], _, B.h1 _, (h _ (lookT_mem he hy)).out⟩
        obtain ⟨v, ys, rfl, h1, h2⟩ := hxs.uncons
        rw [h2.unnil, A.h2 ρ _ _ _ hx h1]
  · cases hg

/-! Functions that read slices of known length. -/

/-- A slice as it is handed: all of a block, or a row that is owned. -/
inductive SlA where
  | slc (n : Nat)
  | own (es n : Nat)

def SlA.at (s : SlA) (id : Nat) : AV := match s with
  | .slc n => .slc id 0 n n
  | .own es n => .own id es 0 n

def SlA.name (s : SlA) : AV → Option Nat
  | .slc i 0 n m => match s with
    | .slc k => bif Nat.beq n k && Nat.beq m k then some i else none
    | _ => none
  | .own i es 0 n => match s with
    | .own es' k => bif Nat.beq es es' && Nat.beq n k then some i else none
    | _ => none
  | _ => none

theorem bcond {α : Type} {b : Bool} {x : Option α} {y : α} (h : (bif b then x else none) = some y) : b = true ∧ x = some y := by
  cases b with
  | true => exact ⟨rfl, h⟩
  | false => cases h

theorem SlA.name_eq {s : SlA} {a : AV} {i : Nat} (h : s.name a = some i) : a = s.at i := by
  unfold SlA.name at h
  split at h
  · split at h
    · obtain ⟨h1, h2⟩ := bcond h
      simp only [Bool.and_eq_true, Option.some.injEq] at h1 h2
      obtain ⟨e1, e2⟩ := h1
      have e1 := Nat.eq_of_beq_eq_true e1
      have e2 := Nat.eq_of_beq_eq_true e2
      subst e1; subst e2; subst h2; rfl
    · cases h
  · split at h
    · obtain ⟨h1, h2⟩ := bcond h
      simp only [Bool.and_eq_true, Option.some.injEq] at h1 h2
      obtain ⟨e1, e2⟩ := h1
      have e1 := Nat.eq_of_beq_eq_true e1
      have e2 := Nat.eq_of_beq_eq_true e2
      subst e1; subst e2; subst h2; rfl
    · cases h
  · cases h

/-- The same slice under another name of the same block. -/
theorem SlA.moved {ρ σ : Ren} {s : SlA} {i j : Nat} {x : Value} (h : Rv ρ (s.at i) x) : ∃ b, ρ i = some b ∧ (σ j = some b → σ.cells j = ρ.cells i → σ.base j = ρ.base i → Rv σ (s.at j) x) := by
  cases s with
  | slc n =>
    simp only [SlA.at] at h
    cases h with
    | slc hb => exact ⟨_, hb, fun h _ k0 => by rw [← k0]; exact .slc h⟩
  | own es n =>
    simp only [SlA.at] at h
    cases h with
    | own hb h0 hc hl hm => exact ⟨_, hb, fun h k k0 => .own h (k0.trans h0) (by rw [k]; exact hc) hl hm⟩
    | ownE _ hk => exact absurd hk (Nat.lt_irrefl 0)

/-- The datum in a block. -/
def blkDec {α : Type} (C : CC α) (t : TypeId) (h : AH) (i : Nat) : Option α :=
  match h.getC i with
  | none => none
  | some B => match Nat.beq B.ty t with
    | false => none
    | true => C.dec B.cs

def twoAH {α γ : Type} (A : CC α) (C : CC γ) (t1 t2 : TypeId) (x : α) (y : γ) : AH := [(0, some ⟨false, t1, A.enc x⟩), (1, some ⟨false, t2, C.enc y⟩)]

theorem rvs_prefix {ρ : Ren} : ∀ {cs : List AV} {xs : List Value}, cs.length ≤ xs.length → (∀ (i : Nat) (a : AV) (x : Value), cs[i]? = some a → xs[i]? = some x → Rv ρ a x) → Rvs ρ cs (xs.take cs.length) :=
  fun hl h => ⟨by simp [hl], fun i a x ha hx => by
    rw [List.getElem?_take] at hx
    split at hx
    · exact h i a x ha hx
    · cases hx⟩

/-- What is known of a block, said anew: by the datum that it tells. -/
theorem blk_again {α : Type} {F : Fr} {ρ : Ren} {h : AH} {w : World} (hw : RW F ρ h w) {C : CC α} {t : TypeId} {i : Nat} {x : α} (hd : blkDec C t h i = some x) :
    ∃ b xs fr, ρ i = some b ∧ w.heap[b]? = some (.cells xs t fr) ∧ xs.size = ρ.cells i ∧ ρ.base i + (C.enc x).length ≤ xs.size ∧ ∀ (σ : Ren) (j : Nat) (a : AV) (v : Value), (C.enc x)[j]? = some a → xs[ρ.base i + j]? = some v → Rv σ a v := by
  unfold blkDec at hd
  split at hd
  · cases hd
  · rename_i B hB
    split at hd
    · cases hd
    · rename_i ht
      have ht := Nat.eq_of_beq_eq_true ht
      obtain ⟨b, o, h1, h2, ⟨xs, fr, rfl, h3, h4, h5⟩, h6, h7⟩ := hw.blkC hB
      have hr := rvs_prefix (ρ := ρ) (cs := B.cs) (xs := xs.toList.drop (ρ.base i)) (by simp; omega) (fun i a x ha hx => h5 i a x ha (by simpa using hx))
      have hv := C.h2 ρ _ _ _ hd hr
      have hlen : (C.enc x).length = B.cs.length := by
        have := (Rvs.of_flats (ρ := ρ) (C.h1 x)).1
        rw [this, ← hv]; exact hr.1.symm
      refine ⟨b, xs, fr, h1, by rw [← ht]; exact h2, by simpa [count] using h7, by omega, fun σ j a v ha hv' => ?_⟩
      have h8 := Rvs.of_flats (ρ := σ) (C.h1 x)
      refine h8.2 j a v ha ?_
      rw [← hv, List.getElem?_take, if_pos (by rw [← hlen]; exact (List.getElem?_eq_some_iff.1 ha).1)]
      simpa using hv'

/-- What a function that reads two slices comes to. -/
structure GivesH (t : Tree (AV × AH)) (v : Value) : Prop where
  out : t.holds (fun q => flat q.1 = some v)

/-- A walk from a heap, of which the answer alone is kept. -/
def afunH (P : Program) (E : Env) (sym : List Tmp) (lf f : Nat) (as : List AV) (h : AH) (n : Nat) : Tree AV := (afun P E sym (fun _ => none) lf f as h n).bind fun q => .leaf q.1

theorem givesH {P : Program} {E : Env} {sym : List Tmp} {lf f : Nat} {as : List AV} {h : AH} {n : Nat} {u : Tree AV} {v : Value} (e : (afunH P E sym lf f as h n).strict = u) (hu : u.holds (fun q => flat q = some v)) :
    GivesH (afun P E sym (fun _ => none) lf f as h n) v := ⟨Tree.holds_bind (Tree.holds_strict (by rw [show ((afun P E sym (fun _ => none) lf f as h n).bind fun q => Tree.leaf q.1).strict = u from e]; exact hu))⟩

def sl2 {α β γ : Type} (s1 s2 : SlA) (t1 t2 : TypeId) (A : CC α) (C : CC γ) (B : Cod β) (F : α → γ → β) : List AV → AH → Option (Bool × AV × AH)
  | [a, c], h => match s1.name a, s2.name c with
    | some i, some j => match blkDec A t1 h i, blkDec C t2 h j with
      | some x, some y => some (true, B.enc (F x y), [])
      | _, _ => none
    | _, _ => none
  | _, _ => none

/-- Likewise with an exact argument ahead. -/
def sl3 {α β γ δ : Type} (s1 s2 : SlA) (t1 t2 : TypeId) (D : Cod δ) (A : CC α) (C : CC γ) (B : Cod β) (F : δ → α → γ → β) : List AV → AH → Option (Bool × AV × AH)
  | [d, a, c], h => match D.dec d, s1.name a, s2.name c with
    | some z, some i, some j => match blkDec A t1 h i, blkDec C t2 h j with
      | some x, some y => some (true, B.enc (F z x y), [])
      | _, _ => none
    | _, _, _ => none
  | _, _ => none

theorem two_world {α γ : Type} {F : Fr} {ρ : Ren} {h : AH} {w : World} (hw : RW F ρ h w) {A : CC α} {C : CC γ} {t1 t2 : TypeId} {i j : Nat} {x : α} {y : γ} (h1 : blkDec A t1 h i = some x) (h2 : blkDec C t2 h j = some y)
    {s1 s2 : SlA} {u v : Value} (hu : Rv ρ (s1.at i) u) (hv : Rv ρ (s2.at j) v) :
    ∃ σ : Ren, RW (frameOf w) σ (twoAH A C t1 t2 x y) w ∧ Rv σ (s1.at 0) u ∧ Rv σ (s2.at 1) v ∧ ∀ id, 2 ≤ id → σ id = none := by
  obtain ⟨b, xs, fr, p1, p2, p3, p4, p5⟩ := blk_again hw h1
  obtain ⟨c, ys, gr, q1, q2, q3, q4, q5⟩ := blk_again hw h2
  let σ : Ren := ⟨fun id => if id = 0 then some b else if id = 1 then some c else none, fun id => if id = 0 then xs.size else ys.size, fun id => if id = 0 then ρ.base i else ρ.base j⟩
  have s0 : σ 0 = some b := rfl
  have s1' : σ 1 = some c := rfl
  obtain ⟨b', e1, k1⟩ := SlA.moved (σ := σ) (j := 0) hu
  obtain ⟨c', e2, k2⟩ := SlA.moved (σ := σ) (j := 1) hv
  rw [p1] at e1; simp at e1; subst e1
  rw [q1] at e2; simp at e2; subst e2
  refine ⟨σ, ⟨fun id B hB => ?_, fun id id' B B' d hB hB' hwr => ?_, fun _ _ h => h, rfl, rfl, rfl, hw.gw⟩, k1 s0 p3 rfl, k2 s1' q3 rfl, fun id hid => by show (if id = 0 then some b else if id = 1 then some c else none) = none; rw [if_neg (by omega), if_neg (by omega)]⟩
  · unfold twoAH at hB
    rw [AH.get_cons] at hB
    split at hB
    · rename_i e; subst e; simp at hB; subst hB
      exact ⟨b, _, s0, p2, .inl ⟨xs, fr, rfl, (fun h => by cases h), p4, fun k a v ha hv => p5 σ k a v ha hv⟩, (fun h => by cases h), rfl⟩
    · rw [AH.get_cons] at hB
      split at hB
      · rename_i e; subst e; simp at hB; subst hB
        exact ⟨c, _, s1', q2, .inl ⟨ys, gr, rfl, (fun h => by cases h), q4, fun k a v ha hv => q5 σ k a v ha hv⟩, (fun h => by cases h), rfl⟩
      · simp [AH.get] at hB
  · unfold twoAH at hB
    rw [AH.get_cons] at hB
    split at hB
    · simp at hB; subst hB; cases hwr
    · rw [AH.get_cons] at hB
      split at hB
      · simp at hB; subst hB; cases hwr
      · simp [AH.get] at hB

theorem blkDec_congr {α : Type} {C : CC α} {t : TypeId} {h h' : AH} {i : Nat} {x : α} (hh : ∀ B, h.get i = some B → h'.get i = some B) (hd : blkDec C t h i = some x) : blkDec C t h' i = some x := by
  unfold blkDec at hd ⊢
  split at hd
  · cases hd
  · rename_i B hB
    simp only [getC_mono hh hB]; exact hd

theorem SlA.known {ρ : Ren} {s : SlA} {i : Nat} {x : Value} (h : Rv ρ (s.at i) x) : ∃ b, ρ i = some b := by
  obtain ⟨b, h, _⟩ := SlA.moved (σ := ρ) (j := i) h
  exact ⟨b, h⟩

theorem sl2_ok {P : Program} {E : Env} {sym : List Tmp} {lf f : Nat} {tab : BTab} {c : Code} {fn : Func} (hE : EnvOk P E) (hm : P.follows .mixedOrders = true) (hf : P.funcs.toList[f]? = some fn) (hb : fn.body = some c)
    (hok : codeOk E c = true) (htab : TabOk P 2 tab c) {α β γ : Type} {A : CC α} {C : CC γ} {B : Cod β} {F : α → γ → β} {s1 s2 : SlA} {t1 t2 : TypeId}
    (hr : ∀ x y, GivesH (afun P E sym tab lf f [s1.at 0, s2.at 1] (twoAH A C t1 t2 x y) 2) (B.val (F x y))) : HeapOk P f (sl2 s1 s2 t1 t2 A C B F) := by
  have key : ∀ {as : List AV} {h : AH} {o : Bool × AV × AH}, sl2 s1 s2 t1 t2 A C B F as h = some o → ∃ i j x y, as = [s1.at i, s2.at j] ∧ blkDec A t1 h i = some x ∧ blkDec C t2 h j = some y ∧ o = (true, B.enc (F x y), []) := by
    intro as h o hg
    unfold sl2 at hg
    split at hg
    · rename_i a c' 
      split at hg
      · rename_i i j hi hj
        split at hg
        · rename_i x y hx hy
          simp at hg
          exact ⟨i, j, x, y, by rw [SlA.name_eq hi, SlA.name_eq hj], hx, hy, hg.symm⟩
        · cases hg
      · cases hg
    · cases hg
  have again : ∀ {as : List AV} {h h' : AH} {o : Bool × AV × AH}, sl2 s1 s2 t1 t2 A C B F as h = some o → (∀ i, i ∈ idsOf as → ∀ B, h.get i = some B → h'.get i = some B) → sl2 s1 s2 t1 t2 A C B F as h' = some o := by
    intro as h h' o hg hh
    unfold sl2 at hg ⊢
    split at hg
    · rename_i a c'
      split at hg
      · rename_i i j hi hj
        have ea := SlA.name_eq hi
        have ec := SlA.name_eq hj
        have hi' : i ∈ idsOf [a, c'] := by subst ea; cases s1 <;> simp [SlA.at, idsOf]
        have hj' : j ∈ idsOf [a, c'] := by
          subst ea; subst ec
          cases s1 <;> cases s2 <;> simp [SlA.at, idsOf]
        split at hg
        · rename_i x y hx hy
          simp only [blkDec_congr (hh i hi') hx, blkDec_congr (hh j hj') hy]; exact hg
        · cases hg
      · cases hg
    · cases hg
  refine ⟨?_, fun as h h' x hle hg => again hg (fun i _ B hB => hle i B hB), fun ρ as xs z b h x hx hz hg => again hg (fun i hi B hB => by
      rw [AH.get_cons, if_neg (fun e => hx.ids_ne hz i hi e.symm)] at hB; exact hB), fun as h c' r ups hg => ?_, fun as h h' x hh hg => again hg hh⟩
  · intro F' ρ as xs h r ups w hg hx hw
    obtain ⟨i, j, x, y, rfl, h1, h2, ho⟩ := key hg
    simp at ho
    obtain ⟨rfl, rfl⟩ := ho
    obtain ⟨u, xs', rfl, hu, hx'⟩ := hx.uncons
    obtain ⟨v, xs'', rfl, hv, hx''⟩ := hx'.uncons
    rw [hx''.unnil]
    obtain ⟨σ, g1, g2, g3, g4⟩ := two_world hw h1 h2 hu hv
    have := afun_calls hE hm hf hb hok htab (K := fun q _ => flat q = some (B.val (F x y))) (hr x y).out (F := frameOf w) (.cons g2 (.cons g3 .nil)) g1 g4
    refine Calls.mono this ?_
    rintro e w' ⟨v', q', h', ρ', rfl, hk, hrv, hrw, _⟩
    have := hrv.flat_eq hk
    subst this
    exact ⟨_, rfl, .of_flat (B.h1 _), hw.below hrw.to_below⟩
  · obtain ⟨i, j, x, y, _, _, _, ho⟩ := key hg
    simp at ho
    obtain ⟨_, _, rfl⟩ := ho
    simp

theorem sl3_ok {P : Program} {E : Env} {sym : List Tmp} {lf f : Nat} {tab : BTab} {c : Code} {fn : Func} (hE : EnvOk P E) (hm : P.follows .mixedOrders = true) (hf : P.funcs.toList[f]? = some fn) (hb : fn.body = some c)
    (hok : codeOk E c = true) (htab : TabOk P 2 tab c) {α β γ δ : Type} {D : Cod δ} {A : CC α} {C : CC γ} {B : Cod β} {F : δ → α → γ → β} {s1 s2 : SlA} {t1 t2 : TypeId}
    (hr : ∀ z x y, GivesH (afun P E sym tab lf f [D.enc z, s1.at 0, s2.at 1] (twoAH A C t1 t2 x y) 2) (B.val (F z x y))) : HeapOk P f (sl3 s1 s2 t1 t2 D A C B F) := by
  have key : ∀ {as : List AV} {h : AH} {o : Bool × AV × AH}, sl3 s1 s2 t1 t2 D A C B F as h = some o → ∃ d z i j x y, as = [d, s1.at i, s2.at j] ∧ D.dec d = some z ∧ blkDec A t1 h i = some x ∧ blkDec C t2 h j = some y ∧ o = (true, B.enc (F z x y), []) := by
    intro as h o hg
    unfold sl3 at hg
    split at hg
    · rename_i d a c'
      split at hg
      · rename_i z i j hz hi hj
        split at hg
        · rename_i x y hx hy
          simp at hg
          exact ⟨d, z, i, j, x, y, by rw [SlA.name_eq hi, SlA.name_eq hj], hz, hx, hy, hg.symm⟩
        · cases hg
      · cases hg
    · cases hg
  have more : ∀ (d : AV) (l : List AV) (i : Nat), i ∈ idsOf l → i ∈ idsOf (d :: l) := by
    intro d l i hi
    simp only [idsOf]
    split <;> simp [hi]
  have again : ∀ {as : List AV} {h h' : AH} {o : Bool × AV × AH}, sl3 s1 s2 t1 t2 D A C B F as h = some o → (∀ i, i ∈ idsOf as → ∀ B, h.get i = some B → h'.get i = some B) → sl3 s1 s2 t1 t2 D A C B F as h' = some o := by
    intro as h h' o hg hh
    unfold sl3 at hg ⊢
    split at hg
    · rename_i d a c'
      split at hg
      · rename_i z i j hz hi hj
        have ea := SlA.name_eq hi
        have ec := SlA.name_eq hj
        have hi' : i ∈ idsOf [d, a, c'] := more d _ i (by subst ea; cases s1 <;> simp [SlA.at, idsOf])
        have hj' : j ∈ idsOf [d, a, c'] := more d _ j (by
          subst ea; subst ec
          cases s1 <;> cases s2 <;> simp [SlA.at, idsOf])
        split at hg
        · rename_i x y hx hy
          simp only [blkDec_congr (hh i hi') hx, blkDec_congr (hh j hj') hy]; exact hg
        · cases hg
      · cases hg
    · cases hg
  refine ⟨?_, fun as h h' x hle hg => again hg (fun i _ B hB => hle i B hB), fun ρ as xs z b h x hx hz hg => again hg (fun i hi B hB => by
      rw [AH.get_cons, if_neg (fun e => hx.ids_ne hz i hi e.symm)] at hB; exact hB), fun as h c' r ups hg => ?_, fun as h h' x hh hg => again hg hh⟩
  · intro F' ρ as xs h r ups w hg hx hw
    obtain ⟨d, z, i, j, x, y, rfl, hz, h1, h2, ho⟩ := key hg
    simp at ho
    obtain ⟨rfl, rfl⟩ := ho
    obtain ⟨p, xs0, rfl, hp, hx0⟩ := hx.uncons
    obtain ⟨u, xs', rfl, hu, hx'⟩ := hx0.uncons
    obtain ⟨v, xs'', rfl, hv, hx''⟩ := hx'.uncons
    rw [hx''.unnil]
    obtain ⟨σ, g1, g2, g3, g4⟩ := two_world hw h1 h2 hu hv
    have hpv := D.h2 ρ _ _ _ hz hp
    subst hpv
    have := afun_calls hE hm hf hb hok htab (K := fun q _ => flat q = some (B.val (F z x y))) (hr z x y).out (F := frameOf w) (.cons (.of_flat (D.h1 z)) (.cons g2 (.cons g3 .nil))) g1 g4
    refine Calls.mono this ?_
    rintro e w' ⟨v', q', h', ρ', rfl, hk, hrv, hrw, _⟩
    have := hrv.flat_eq hk
    subst this
    exact ⟨_, rfl, .of_flat (B.h1 _), hw.below hrw.to_below⟩
  · obtain ⟨d, z, i, j, x, y, _, _, _, _, ho⟩ := key hg
    simp at ho
    obtain ⟨_, _, rfl⟩ := ho
    simp


/-! Functions that write one block that they are handed. -/

/-- A store into a block, other blocks may have come. -/
theorem RW.wrote {F : Fr} {ρ : Ren} {h : AH} {w w' : World} (r : RW F ρ h w) {id b : Nat} {B : Blk} (hb : h.get id = some B) (hρ : ρ id = some b) (hwr : B.wr = true)
    {xs : Array Value} (hx : w.heap[b]? = some (.cells xs B.ty (0, 0))) (cs' : List AV) (ys : Array Value)
    (hbz : ρ.base id = 0) (hsz : ys.size = xs.size) (hys : cs'.length ≤ ys.size) (hrel : ∀ (i : Nat) (a : AV) (x : Value), cs'[i]? = some a → ys[i]? = some x → Rv ρ a x)
    (h1 : w'.heap[b]? = some (.cells ys B.ty (0, 0))) (h2 : ∀ k o, k ≠ b → w.heap[k]? = some o → w'.heap[k]? = some o) (h3 : w'.os = w.os) (h4 : w'.tape = w.tape) (h5 : w'.output = w.output) :
    RW F ρ ((id, some ⟨B.wr, B.ty, cs'⟩) :: h) w' := by
  obtain ⟨b0, o0, hb0, ho0, hB0, hF0, hcn⟩ := r.blk id B hb
  rw [hρ] at hb0; simp at hb0; subst hb0
  rw [hx] at ho0; simp at ho0; subst ho0
  refine ⟨fun j C hj => ?_, fun j j' C C' c hj hj' hw hc hc' => ?_, fun k o hk => ?_, h3.trans r.os, h4.trans r.tape, h5.trans r.out, r.gc⟩
  · rw [AH.get_cons] at hj
    split at hj
    · rename_i e; subst e; simp at hj; subst hj
      exact ⟨b, _, hρ, h1, .inl ⟨ys, (0, 0), rfl, fun _ => ⟨rfl, hbz⟩, by rw [hbz]; simpa using hys, by rw [hbz]; simpa using hrel⟩, fun _ => hF0 hwr, by simp only [count] at hcn ⊢; rw [hsz]; exact hcn⟩
    · rename_i e
      obtain ⟨c, o, hc, ho, hC, hk⟩ := r.blk j C hj
      have hne : c ≠ b := fun ec => by subst ec; exact e (r.inj id j B C c hb hj hwr hρ hc)
      exact ⟨c, o, hc, h2 c o hne ho, hC, hk⟩
  · have get' : ∀ k C, AH.get ((id, some ⟨B.wr, B.ty, cs'⟩) :: h) k = some C → ∃ C0, h.get k = some C0 ∧ C0.wr = C.wr := by
      intro k C hk
      rw [AH.get_cons] at hk
      split at hk
      · rename_i e; subst e; simp at hk; subst hk; exact ⟨B, hb, rfl⟩
      · exact ⟨C, hk, rfl⟩
    obtain ⟨C0, hC0, hw0⟩ := get' j C hj
    obtain ⟨C1, hC1, hw1⟩ := get' j' C' hj'
    exact r.inj j j' C0 C1 c hC0 hC1 (by rw [hw0]; exact hw) hc hc'
  · have hne : k ≠ b := fun e => by subst e; rw [hF0 hwr] at hk; cases hk
    exact h2 k o hne (r.fr k o hk)

/-- The datum in a block that may be written. -/
def blkDecW {α : Type} (C : CC α) (t : TypeId) (h : AH) (i : Nat) : Option α :=
  match h.getC i with
  | none => none
  | some B => match B.wr && Nat.beq B.ty t with
    | false => none
    | true => C.dec B.cs

theorem blkDecW_congr {α : Type} {C : CC α} {t : TypeId} {h h' : AH} {i : Nat} {x : α} (hh : ∀ B, h.get i = some B → h'.get i = some B) (hd : blkDecW C t h i = some x) : blkDecW C t h' i = some x := by
  unfold blkDecW at hd ⊢
  split at hd
  · cases hd
  · rename_i B hB
    simp only [getC_mono hh hB]; exact hd

/-- The second argument's block is written, by the other arguments; nothing is handed back. -/
def wr4 {α β γ δ : Type} (t : TypeId) (D : Cod δ) (C : CC γ) (A : Cod α) (B : Cod β) (F : δ → γ → α → β → γ) : List AV → AH → Option (Bool × AV × AH)
  | [d, .ptr i 0, a, b], h => match D.dec d, blkDecW C t h i, A.dec a, B.dec b with
    | some z, some w, some x, some y => some (true, .tup [], [(i, some ⟨true, t, C.enc (F z w x y)⟩)])
    | _, _, _, _ => none
  | _, _ => none

/-- What is left in the first block. -/
def outW (t : TypeId) (q : AV × AH) : AV := match q.2.get 0 with
  | none => .any
  | some B => match B.wr && Nat.beq B.ty t with
    | true => .tup [q.1, .agg B.cs]
    | false => .any

theorem outW_eq {t : TypeId} {q : AV × AH} {a : AV} {cs : List AV} (h : outW t q = .tup [a, .agg cs]) : q.1 = a ∧ q.2.get 0 = some ⟨true, t, cs⟩ := by
  unfold outW at h
  split at h
  · cases h
  · rename_i B hB
    split at h
    · rename_i hc
      simp only [Bool.and_eq_true] at hc
      simp at h
      obtain ⟨h1, h2⟩ := h
      refine ⟨h1, ?_⟩
      rw [hB]
      obtain ⟨wr, ty, cs'⟩ := B
      simp at hc h2
      obtain ⟨e1, e2⟩ := hc
      subst e1; subst e2; subst h2
      rfl
    · cases h

/-- A walk that starts with a block to be written. -/
def afunW (P : Program) (E : Env) (sym : List Tmp) (lf f : Nat) (t : TypeId) (as : List AV) (cs : List AV) : Tree AV := (afun P E sym (fun _ => none) lf f as [(0, some ⟨true, t, cs⟩)] 1).bind fun q => .leaf (outW t q)

theorem wr4_ok {P : Program} {E : Env} {sym : List Tmp} {lf f : Nat} {c : Code} {fn : Func} (hE : EnvOk P E) (hm : P.follows .mixedOrders = true) (hf : P.funcs.toList[f]? = some fn) (hb : fn.body = some c)
    (hok : codeOk E c = true) {α β γ δ : Type} {t : TypeId} {D : Cod δ} {C : CC γ} {A : Cod α} {B : Cod β} {F : δ → γ → α → β → γ}
    (hr : ∀ z w x y, (afunW P E sym lf f t [D.enc z, .ptr 0 0, A.enc x, B.enc y] (C.enc w)).strict = .leaf (.tup [.tup [], .agg (C.enc (F z w x y))])) : HeapOk P f (wr4 t D C A B F) := by
  have key : ∀ {as : List AV} {h : AH} {o : Bool × AV × AH}, wr4 t D C A B F as h = some o → ∃ d i a b z w x y, as = [d, .ptr i 0, a, b] ∧ D.dec d = some z ∧ blkDecW C t h i = some w ∧ A.dec a = some x ∧ B.dec b = some y ∧ o = (true, .tup [], [(i, some ⟨true, t, C.enc (F z w x y)⟩)]) := by
    intro as h o hg
    unfold wr4 at hg
    split at hg
    · rename_i d i a b
      split at hg
      · rename_i z w x y h0 h1 h2 h3
        simp at hg
        exact ⟨d, i, a, b, z, w, x, y, rfl, h0, h1, h2, h3, hg.symm⟩
      · cases hg
    · cases hg
  have again : ∀ {as : List AV} {h h' : AH} {o : Bool × AV × AH}, wr4 t D C A B F as h = some o → (∀ i, i ∈ idsOf as → ∀ B, h.get i = some B → h'.get i = some B) → wr4 t D C A B F as h' = some o := by
    intro as h h' o hg hh
    obtain ⟨d, i, a, b, z, w, x, y, rfl, h0, h1, h2, h3, rfl⟩ := key hg
    have hi : i ∈ idsOf [d, .ptr i 0, a, b] := by
      simp only [idsOf]
      split <;> simp
    unfold wr4
    simp only [h0, blkDecW_congr (hh i hi) h1, h2, h3]
  refine ⟨?_, fun as h h' x hle hg => again hg (fun i _ B hB => hle i B hB), fun ρ as xs z b h x hx hz hg => again hg (fun i hi B hB => by
      rw [AH.get_cons, if_neg (fun e => hx.ids_ne hz i hi e.symm)] at hB; exact hB), fun as h c' r ups hg => ?_, fun as h h' x hh hg => again hg hh⟩
  · intro F' ρ as xs h r ups w hg hx hw
    obtain ⟨d, i, a, bb, z, w0, x, y, rfl, h0, h1, h2, h3, ho⟩ := key hg
    simp at ho
    obtain ⟨rfl, rfl⟩ := ho
    obtain ⟨v0, xs0, rfl, hv0, hx0⟩ := hx.uncons
    obtain ⟨v1, xs1, rfl, hv1, hx1⟩ := hx0.uncons
    obtain ⟨v2, xs2, rfl, hv2, hx2⟩ := hx1.uncons
    obtain ⟨v3, xs3, rfl, hv3, hx3⟩ := hx2.uncons
    rw [hx3.unnil]
    have e0 := D.h2 ρ _ _ _ h0 hv0
    have e2 := A.h2 ρ _ _ _ h2 hv2
    have e3 := B.h2 ρ _ _ _ h3 hv3
    subst e0; subst e2; subst e3
    unfold blkDecW at h1
    split at h1
    · cases h1
    rename_i Bk hBk
    split at h1
    · cases h1
    rename_i hc
    simp only [Bool.and_eq_true] at hc
    obtain ⟨c1, c2⟩ := hc
    have c2 := Nat.eq_of_beq_eq_true c2
    obtain ⟨b, o, p1, p2, ⟨cx, fr, rfl, p3, p4, p5⟩, p6, p7⟩ := hw.blkC hBk
    have pz := (p3 c1).2
    rw [(p3 c1).1, c2] at p2
    rw [pz] at p4 p5
    simp only [Nat.zero_add] at p4 p5
    have hpre := rvs_prefix (ρ := ρ) (cs := Bk.cs) (xs := cx.toList) (by simpa using p4) (fun i a x ha hx => p5 i a x ha (by simpa using hx))
    have hval := C.h2 ρ _ _ _ h1 hpre
    have hlen : (C.enc w0).length = Bk.cs.length := by
      have := (Rvs.of_flats (ρ := ρ) (C.h1 w0)).1
      rw [this, ← hval]; exact hpre.1.symm
    let F1 : Fr := ⟨fun k => if k = b then none else w.heap[k]?, w.os, w.tape, w.output⟩
    let σ : Ren := ⟨fun id => if id = 0 then some b else none, fun _ => cx.size, fun _ => 0⟩
    have hσ : σ 0 = some b := rfl
    have hgc : GF F1 := fun g cs e => by
      obtain ⟨xs, ty, fr, g1, g2⟩ := hw.gc g cs e
      refine ⟨xs, ty, fr, ?_, g2⟩
      show (if g = b then none else w.heap[g]?) = _
      rw [if_neg (fun e => by rw [e, p6 c1] at g1; cases g1)]
      exact hw.fr _ _ g1
    have hRW : RW F1 σ [(0, some ⟨true, t, C.enc w0⟩)] w := by
      refine ⟨fun id B hB => ?_, fun id id' B B' d hB hB' _ => ?_, fun k o hk => ?_, rfl, rfl, rfl, hgc⟩
      · rw [AH.get_cons] at hB
        split at hB
        · rename_i e; subst e; simp at hB; subst hB
          refine ⟨b, _, hσ, p2, .inl ⟨cx, (0, 0), rfl, fun _ => ⟨rfl, rfl⟩, by show 0 + (C.enc w0).length ≤ cx.size; rw [hlen, Nat.zero_add]; exact p4, fun j a v ha hv => ?_⟩, fun _ => if_pos rfl, rfl⟩
          rw [show σ.base 0 = 0 from rfl, Nat.zero_add] at hv
          have h8 := Rvs.of_flats (ρ := σ) (C.h1 w0)
          refine h8.2 j a v ha ?_
          rw [← hval, List.getElem?_take, if_pos (by rw [← hlen]; exact (List.getElem?_eq_some_iff.1 ha).1)]
          simpa using hv
        · simp [AH.get] at hB
      · have e : ∀ {k : Nat} {D : Blk}, AH.get [(0, some ⟨true, t, C.enc w0⟩)] k = some D → k = 0 := by
          intro k D hk
          rw [AH.get_cons] at hk
          split at hk
          · rename_i e; exact e.symm
          · simp [AH.get] at hk
        intro _ _
        rw [e hB, e hB']
      · have hk' : (if k = b then none else w.heap[k]?) = some o := hk
        split at hk'
        · cases hk'
        · exact hk'
    cases hv1 with
    | ptr hpb =>
    rw [p1] at hpb; simp at hpb; subst hpb
    rw [pz, Nat.zero_add]
    have hq0 : (afunW P E sym lf f t [D.enc z, .ptr 0 0, A.enc x, B.enc y] (C.enc w0)).holds (fun a => a = .tup [.tup [], .agg (C.enc (F z w0 x y))]) := Tree.holds_strict (by rw [hr]; exact (rfl : AV.tup [.tup [], .agg (C.enc (F z w0 x y))] = _))
    have hq1 : (afun P E sym (fun _ => none) lf f [D.enc z, .ptr 0 0, A.enc x, B.enc y] [(0, some ⟨true, t, C.enc w0⟩)] 1).holds (fun q : AV × AH => outW t q = .tup [.tup [], .agg (C.enc (F z w0 x y))]) := Tree.holds_bind (g := fun q => .leaf (outW t q)) hq0
    have hcalls := afun_calls hE hm hf hb hok (tabOk_none c) (K := fun q h' => q = .tup [] ∧ h'.get 0 = some ⟨true, t, C.enc (F z w0 x y)⟩)
      (Tree.holds_mono (fun q hq => outW_eq hq) hq1)
      (F := F1) (xs := [D.val z, .pointer (some ⟨b, 0, none⟩), A.val x, B.val y]) (.cons (.of_flat (D.h1 z)) (.cons (.ptr hσ) (.cons (.of_flat (A.h1 x)) (.cons (.of_flat (B.h1 y)) .nil)))) hRW (fun id hid => by show (if id = 0 then some b else none) = none; rw [if_neg (by omega)])
    refine Calls.mono hcalls ?_
    rintro e w' ⟨v, q, h', ρ', rfl, ⟨rfl, hget⟩, hrv, hrw, hsame⟩
    refine ⟨v, rfl, ?_, ?_⟩
    · obtain ⟨us, rfl, hus⟩ := hrv.tup_iff
      have := hus.unnil
      have e : us = #[] := by apply Array.ext'; simpa using this
      subst e
      exact .tup_mk .nil
    · obtain ⟨b', o', q1, q2, ⟨ys, fr', rfl, q3, q4, q5⟩, q6, q7⟩ := hrw.blkF hget (C.h1 _)
      obtain ⟨s1, s2⟩ := hsame 0 (by omega)
      rw [s1, hσ] at q1; simp at q1; subst q1
      rw [(q3 rfl).2, Nat.zero_add] at q4
      simp only [(q3 rfl).2, Nat.zero_add] at q5
      rw [(q3 rfl).1] at q2
      have q7 : ys.size = ρ'.cells 0 := q7
      rw [(s2 b hσ).1] at q7
      have hst := hw.wrote (w' := w') (getC_get hBk) p1 c1 (xs := cx) (by rw [c2]; exact p2) (C.enc (F z w0 x y)) ys pz q7 q4 (fun j a v ha hv => by
        have h8 := (Rvs.of_flats (ρ := ρ') (C.h1 (F z w0 x y)))
        have h9 := Rvs.of_flats (ρ := ρ) (C.h1 (F z w0 x y))
        have hlt : j < (C.enc (F z w0 x y)).length := (List.getElem?_eq_some_iff.1 ha).1
        obtain ⟨u, hu, hau⟩ := h9.getD ha
        have hr' : Rvs ρ' (C.enc (F z w0 x y)) (ys.toList.take (C.enc (F z w0 x y)).length) := rvs_prefix (by simpa using q4) (fun i a x ha hx => q5 i a x ha (by simpa using hx))
        have hfl := hr'.flats_eq (C.h1 (F z w0 x y))
        have : (ys.toList.take (C.enc (F z w0 x y)).length)[j]? = some v := by rw [List.getElem?_take, if_pos hlt]; simpa using hv
        rw [hfl, hu] at this
        simp at this; subst this
        exact hau) (by rw [c2]; exact q2) (fun k o hk hko => hrw.fr k o (by show (if k = b then none else w.heap[k]?) = some o; rw [if_neg hk]; exact hko)) hrw.os hrw.tape hrw.out
      rw [c1, c2] at hst
      exact hst
  · obtain ⟨d, i, a, b, z, w, x, y, rfl, h0, h1, h2, h3, ho⟩ := key hg
    simp at ho
    obtain ⟨_, _, rfl⟩ := ho
    intro p hp
    simp at hp; subst hp
    unfold blkDecW at h1
    split at h1
    · cases h1
    · rename_i Bk hBk; exact ⟨Bk, getC_get hBk⟩

/-- One way or another, by the form of the arguments. -/
def gIf (p : List AV → Bool) (g g' : List AV → AH → Option (Bool × AV × AH)) (as : List AV) (h : AH) : Option (Bool × AV × AH) := bif p as then g as h else g' as h

theorem gIf_ok {P : Program} {f : FuncId} {p : List AV → Bool} {g g' : List AV → AH → Option (Bool × AV × AH)} (h : HeapOk P f g) (k : HeapOk P f g') : HeapOk P f (gIf p g g') := by
  refine ⟨fun F ρ as xs hh r ups w hg hx hw => ?_, fun as hh h' x hle hg => ?_, fun ρ as xs z b hh x hx hz hg => ?_, fun as hh c r ups hg => ?_, fun as hh h' x hle hg => ?_⟩ <;> unfold gIf at hg <;> (try unfold gIf) <;> cases hp : p as <;> rw [hp] at hg <;> simp only [cond_true, cond_false] at hg ⊢
  · exact k.run F ρ as xs hh r ups w hg hx hw
  · exact h.run F ρ as xs hh r ups w hg hx hw
  · exact k.mono as hh h' x hle hg
  · exact h.mono as hh h' x hle hg
  · exact k.local_ ρ as xs z b hh x hx hz hg
  · exact h.local_ ρ as xs z b hh x hx hz hg
  · exact k.dom as hh c r ups hg
  · exact h.dom as hh c r ups hg
  · exact k.loc as hh h' x hle hg
  · exact h.loc as hh h' x hle hg

end Go.Rq

/- Functions that lay a slice; functions that read a slice whose length may be a variable. -/
namespace Go.Rq
open Go

abbrev LayTab := List (FuncId × (List AV → Nat → Option (Bool × AV × Blk)))

def lookLT : LayTab → FuncId → Option (List AV → Nat → Option (Bool × AV × Blk))
  | [], _ => none
  | (f, g) :: t, k => bif Nat.beq f k then some g else lookLT t k

theorem lookLT_mem : ∀ {ps : LayTab} {f : FuncId} {g}, lookLT ps f = some g → (f, g) ∈ ps
  | [], f, g, h => by simp [lookLT] at h
  | (k, q) :: t, f, g, h => by
    simp only [lookLT] at h
    cases hb : Nat.beq k f with
    | true => rw [hb] at h; simp at h; subst h; rw [Nat.eq_of_beq_eq_true hb]; simp
    | false => rw [hb] at h; exact List.mem_cons_of_mem _ (lookLT_mem h)

def TabLOk (P : Program) (ps : LayTab) : Prop := ∀ p ∈ ps, Enters P p.1 ∧ LayOk P p.1 p.2
theorem TabLOk.nil {P : Program} : TabLOk P [] := fun p h => by simp at h
theorem TabLOk.cons {P : Program} {f : FuncId} {g : List AV → Nat → Option (Bool × AV × Blk)} {t : LayTab} (h1 : Enters P f) (h : LayOk P f g) (r : TabLOk P t) : TabLOk P ((f, g) :: t) := by
  intro p hp
  rcases List.mem_cons.1 hp with rfl | hp
  · exact ⟨h1, h⟩
  · exact r p hp

/-- All kinds of tables; whether places may be variables. -/
def envL (eqs : List (TypeId × List Nat)) (ps : PureTab) (hs : HeapTab) (ls : LayTab) (wide : Bool) : Env := ⟨lookP ps, lookHT hs, lookE eqs, wide, true, [], [], lookLT ls, none, fun _ => none, false, [], 1⟩
theorem envL_ok {P : Program} {eqs : List (TypeId × List Nat)} {ps : PureTab} {hs : HeapTab} {ls : LayTab} {wide : Bool} (he : EqsOk P eqs) (hp : TabPOk P ps) (hh : TabHOk P hs) (hl : TabLOk P ls) : EnvOk P (envL eqs ps hs ls wide) :=
  ⟨fun _ _ h => he _ (lookE_mem h), fun _ _ h => hp _ (lookP_mem h), fun _ _ h => hh _ (lookHT_mem h), fun _ _ h => hl _ (lookLT_mem h), (fun _ _ h => by cases h), Nat.le_refl 1⟩

/-- A block that came from elsewhere is named. -/
theorem RW.adopt {F : Fr} {ρ : Ren} {h : AH} {w : World} (r : RW F ρ h w) {id b : Nat} (hid : ρ id = none) (hF : F.blocks b = none) (hne : ∀ j B, h.get j = some B → ρ j ≠ some b) (t : TypeId) (cs : List AV) {xs : Array Value}
    (hx : w.heap[b]? = some (.cells xs t (0, 0))) (hl : cs.length ≤ xs.size) (hr : ∀ (σ : Ren) (i : Nat) (a : AV) (x : Value), cs[i]? = some a → xs[i]? = some x → Rv σ a x) :
    RW F (ρ.upd id b xs.size) ((id, some ⟨true, t, cs⟩) :: h) w := by
  have hle := Ren.le_upd (b := b) (n := xs.size) hid
  refine ⟨fun j B hj => ?_, fun j j' B B' c hj hj' hw hc hc' => ?_, r.fr, r.os, r.tape, r.out, r.gc⟩
  · rw [AH.get_cons] at hj
    split at hj
    · rename_i e; subst e; simp at hj; subst hj
      exact ⟨b, _, Ren.upd_same _ _ _ _, hx, .inl ⟨xs, (0, 0), rfl, fun _ => ⟨rfl, Ren.upd_base _ _ _ _⟩, by rw [Ren.upd_base, Nat.zero_add]; exact hl, fun i a x ha hx' => hr _ i a x ha (by rw [Ren.upd_base, Nat.zero_add] at hx'; exact hx')⟩, fun _ => hF, by simp [count, Ren.upd_cells]⟩
    · obtain ⟨c, o, hc, ho, hB, hk⟩ := r.blk j B hj
      exact ⟨c, o, (hle _ _ hc).1, ho, hB.mono hle hc, hk.1, hk.2.trans (hle _ _ hc).2.1.symm⟩
  · have key : ∀ {k : Nat} {C : Blk}, AH.get ((id, some ⟨true, t, cs⟩) :: h) k = some C → k ≠ id → h.get k = some C := by
      intro k C hk hn
      rw [AH.get_cons, if_neg (fun e => hn e.symm)] at hk
      exact hk
    by_cases e1 : j = id
    · by_cases e2 : j' = id
      · rw [e1, e2]
      · subst e1
        rw [Ren.upd_same] at hc; simp at hc; subst hc
        rw [Ren.upd_ne _ e2] at hc'
        exact absurd hc' (hne _ _ (key hj' e2))
    · by_cases e2 : j' = id
      · subst e2
        rw [Ren.upd_same] at hc'; simp at hc'; subst hc'
        rw [Ren.upd_ne _ e1] at hc
        exact absurd hc (hne _ _ (key hj e1))
      · rw [Ren.upd_ne _ e1] at hc
        rw [Ren.upd_ne _ e2] at hc'
        exact r.inj j j' B B' c (key hj e1) (key hj' e2) hw hc hc'

/-- The argument is exact; a new slice of a new row is handed back. -/
def layS {α γ : Type} (A : Cod α) (t : TypeId) (C : CC γ) (L : α → Nat) (cap : Nat) (F : α → γ) : List AV → Nat → Option (Bool × AV × Blk)
  | [a], z => match A.dec a with
    | none => none
    | some x => some (true, .slc z 0 (L x) cap, ⟨true, t, C.enc (F x)⟩)
  | _, _ => none

/-- A slice that is handed back, and its row. -/
def outS (t : TypeId) (q : AV × AH) : AV := match q.1 with
  | .slc i 0 len cap => match q.2.get i with
    | none => .any
    | some B => match B.wr && Nat.beq B.ty t with
      | true => .tup [.slc 0 0 len cap, .agg B.cs]
      | false => .any
  | _ => .any

theorem outS_eq {t : TypeId} {q : AV × AH} {len cap : Nat} {cs : List AV} (h : outS t q = .tup [.slc 0 0 len cap, .agg cs]) : ∃ i, q.1 = .slc i 0 len cap ∧ q.2.get i = some ⟨true, t, cs⟩ := by
  unfold outS at h
  split at h
  · rename_i i len' cap' hq
    split at h
    · cases h
    · rename_i B hB
      split at h
      · rename_i hc
        simp only [Bool.and_eq_true] at hc
        simp at h
        obtain ⟨⟨rfl, rfl⟩, h2⟩ := h
        refine ⟨i, hq, ?_⟩
        rw [hB]
        obtain ⟨wr, ty, cs'⟩ := B
        simp at hc h2
        obtain ⟨e1, e2⟩ := hc
        subst e1; subst e2; subst h2
        rfl
      · cases h
  · cases h

def afunS (P : Program) (E : Env) (sym : List Tmp) (lf f : Nat) (t : TypeId) (as : List AV) : Tree AV := (afun P E sym (fun _ => none) lf f as [] 0).bind fun q => .leaf (outS t q)

theorem layS_ok {P : Program} {E : Env} {sym : List Tmp} {lf f : Nat} (X : Ctx P E sym (fun _ => none) lf f) {α γ : Type} {t : TypeId} {A : Cod α} {C : CC γ} {L : α → Nat} {cap : Nat} {F : α → γ}
    (hr : ∀ x, (afunS P E sym lf f t [A.enc x]).holds (fun a => a = .tup [.slc 0 0 (L x) cap, .agg (C.enc (F x))])) : LayOk P f (layS A t C L cap F) := by
  obtain ⟨fn, c, hf, hb, hok, htab⟩ := X.body
  have key : ∀ {as : List AV} {z : Nat} {o : Bool × AV × Blk}, layS A t C L cap F as z = some o → ∃ a x, as = [a] ∧ A.dec a = some x ∧ o = (true, .slc z 0 (L x) cap, ⟨true, t, C.enc (F x)⟩) := by
    intro as z o hg
    unfold layS at hg
    split at hg
    · rename_i a
      split at hg
      · cases hg
      · rename_i x hx
        simp at hg
        exact ⟨a, x, rfl, hx, hg.symm⟩
    · cases hg
  constructor
  · intro F' ρ as xs h z r Bz w hg hx hw hz
    obtain ⟨a, x, rfl, hd, ho⟩ := key hg
    simp at ho
    obtain ⟨rfl, rfl⟩ := ho
    obtain ⟨v, ys, rfl, hv, hx'⟩ := hx.uncons
    rw [hx'.unnil]
    have e0 := A.h2 ρ _ _ _ hd hv
    subst e0
    have hq := Tree.holds_bind (g := fun q => .leaf (outS t q)) (hr x)
    have := afun_calls X.env X.mixed hf hb hok htab (K := fun q h' => ∃ i, q = .slc i 0 (L x) cap ∧ h'.get i = some ⟨true, t, C.enc (F x)⟩)
      (Tree.holds_mono (fun q hq => outS_eq hq) hq) (F := frameOf w) (ρ := Ren.empty) (xs := [A.val x]) (w := w) (.cons (.of_flat (A.h1 x)) .nil) (RW.init w _ hw.gw) (fun _ _ => rfl)
    refine Calls.mono this ?_
    rintro e w' ⟨u, q, h', ρ', rfl, ⟨i, rfl, hget⟩, hrv, hrw, _⟩
    obtain ⟨b, o, p1, p2, ⟨cx, fr, rfl, p3, p4, p5⟩, p6, p7⟩ := hrw.blkF hget (C.h1 _)
    have pz := (p3 rfl).2
    rw [(p3 rfl).1] at p2
    rw [pz] at p4 p5
    simp only [Nat.zero_add] at p4 p5
    have hnew : w.heap[b]? = none := p6 rfl
    have hrel := rvs_prefix (ρ := ρ') (cs := C.enc (F x)) (xs := cx.toList) (by simpa using p4) (fun i a x ha hx => p5 i a x ha (by simpa using hx))
    have hval := hrel.flats_eq (C.h1 (F x))
    have hF : F'.blocks b = none := by
      cases hb : F'.blocks b with
      | none => rfl
      | some o => have := hw.fr b o hb; rw [hnew] at this; cases this
    cases hrv with
    | slc hsb =>
      rw [p1] at hsb; simp at hsb; subst hsb
      rw [pz]
      refine ⟨_, ρ.upd z b cx.size, rfl, Ren.le_upd hz, fun j hj => Ren.upd_ne ρ hj, .slcU, ?_⟩
      refine (hw.below hrw.to_below).adopt hz hF (fun j B hj e => ?_) t (C.enc (F x)) p2 p4 (fun σ j a v ha hv => ?_)
      · obtain ⟨b', o', q1, q2, _⟩ := hw.blk j B hj
        rw [q1] at e; simp at e; subst e
        rw [hnew] at q2; cases q2
      · have h8 := Rvs.of_flats (ρ := σ) (C.h1 (F x))
        refine h8.2 j a v ha ?_
        rw [← hval, List.getElem?_take, if_pos (List.getElem?_eq_some_iff.1 ha).1]
        simpa using hv

/-! A function that reads one slice, whose length may be a variable. -/

def slv {β γ δ : Type} (t : TypeId) (D : Cod δ) (C : CC γ) (B : Cod β) (ok : Nat → Bool) (F : δ → γ → Nat → β) : List AV → AH → Option (Bool × AV × AH)
  | [d, .slc i 0 len _], h => match D.dec d, blkDec C t h i with
    | some z, some x => some (ok len, B.enc (F z x len), [])
    | _, _ => none
  | _, _ => none

def oneAH {α : Type} (A : CC α) (t : TypeId) (x : α) : AH := [(0, some ⟨false, t, A.enc x⟩)]

theorem slv_ok {β γ δ : Type} {P : Program} {E : Env} {sym : List Tmp} {lf f : Nat} {tab : δ → γ → Nat → Nat → BTab} {c : Code} {fn : Func} (hE : EnvOk P E) (hm : P.follows .mixedOrders = true) (hf : P.funcs.toList[f]? = some fn) (hb : fn.body = some c)
    (hok : codeOk E c = true) {D : Cod δ} {C : CC γ} {B : Cod β} {F : δ → γ → Nat → β} {t : TypeId} {ok : Nat → Bool} (htab : ∀ z x len cap, ok len = true → TabOk P 1 (tab z x len cap) c)
    (hr : ∀ z x len cap, ok len = true → GivesH (afun P E sym (tab z x len cap) lf f [D.enc z, .slc 0 0 len cap] (oneAH C t x) 1) (B.val (F z x len))) : HeapOk P f (slv t D C B ok F) := by
  have key : ∀ {as : List AV} {h : AH} {o : Bool × AV × AH}, slv t D C B ok F as h = some o → ∃ d i len cap z x, as = [d, .slc i 0 len cap] ∧ D.dec d = some z ∧ blkDec C t h i = some x ∧ o = (ok len, B.enc (F z x len), []) := by
    intro as h o hg
    unfold slv at hg
    split at hg
    · rename_i d i len cap
      split at hg
      · rename_i z x hz hx
        simp at hg
        exact ⟨d, i, len, cap, z, x, rfl, hz, hx, hg.symm⟩
      · cases hg
    · cases hg
  have again : ∀ {as : List AV} {h h' : AH} {o : Bool × AV × AH}, slv t D C B ok F as h = some o → (∀ i, i ∈ idsOf as → ∀ B, h.get i = some B → h'.get i = some B) → slv t D C B ok F as h' = some o := by
    intro as h h' o hg hh
    obtain ⟨d, i, len, cap, z, x, rfl, hz, hx, rfl⟩ := key hg
    have hi : i ∈ idsOf [d, .slc i 0 len cap] := by
      simp only [idsOf]
      split <;> simp
    unfold slv
    simp only [hz, blkDec_congr (hh i hi) hx]
  refine ⟨?_, fun as h h' x hle hg => again hg (fun i _ B hB => hle i B hB), fun ρ as xs z b h x hx hz hg => again hg (fun i hi B hB => by
      rw [AH.get_cons, if_neg (fun e => hx.ids_ne hz i hi e.symm)] at hB; exact hB), fun as h c' r ups hg => ?_, fun as h h' x hh hg => again hg hh⟩
  · intro F' ρ as xs h r ups w hg hx hw
    obtain ⟨d, i, len, cap, z, x, rfl, hz, h1, ho⟩ := key hg
    simp at ho
    obtain ⟨hk, rfl, rfl⟩ := ho
    obtain ⟨p, xs0, rfl, hp, hx0⟩ := hx.uncons
    obtain ⟨u, xs', rfl, hu, hx'⟩ := hx0.uncons
    rw [hx'.unnil]
    have hpv := D.h2 ρ _ _ _ hz hp
    subst hpv
    obtain ⟨b, cx, fr, p1, p2, p3, p4, p5⟩ := blk_again hw h1
    let σ : Ren := ⟨fun id => if id = 0 then some b else none, fun _ => cx.size, fun _ => ρ.base i⟩
    have hσ : σ 0 = some b := rfl
    have hRW : RW (frameOf w) σ (oneAH C t x) w := by
      refine ⟨fun id B hB => ?_, fun id id' B B' d hB hB' hwr => ?_, fun _ _ h => h, rfl, rfl, rfl, hw.gw⟩
      · unfold oneAH at hB
        rw [AH.get_cons] at hB
        split at hB
        · rename_i e; subst e; simp at hB; subst hB
          exact ⟨b, _, hσ, p2, .inl ⟨cx, fr, rfl, (fun h => by cases h), p4, fun k a v ha hv => p5 σ k a v ha hv⟩, (fun h => by cases h), rfl⟩
        · simp [AH.get] at hB
      · unfold oneAH at hB
        rw [AH.get_cons] at hB
        split at hB
        · simp at hB; subst hB; cases hwr
        · simp [AH.get] at hB
    cases hu with
    | slc hsb =>
      rw [p1] at hsb; simp at hsb; subst hsb
      have := afun_calls hE hm hf hb hok (htab z x len cap hk) (K := fun q _ => flat q = some (B.val (F z x len))) (hr z x len cap hk).out (F := frameOf w) (.cons (.of_flat (D.h1 z)) (.cons (show Rv σ (.slc 0 0 len cap) (.slice (some ⟨b, ρ.base i + 0, none⟩) len cap) from Rv.slc (ρ := σ) hσ) .nil)) hRW (fun id hid => by show (if id = 0 then some b else none) = none; rw [if_neg (by omega)])
      refine Calls.mono this ?_
      rintro e w' ⟨v', q', h', ρ', rfl, hk', hrv, hrw, _⟩
      have := hrv.flat_eq hk'
      subst this
      exact ⟨_, rfl, .of_flat (B.h1 _), hw.below hrw.to_below⟩
  · obtain ⟨d, i, len, cap, z, x, _, _, _, ho⟩ := key hg
    simp at ho
    obtain ⟨_, _, rfl⟩ := ho
    simp
end Go.Rq

/- Functions that read one block by a pointer; functions that lay one block and hand back a pointer to it. -/
namespace Go.Rq
open Go

/-- Several exact arguments. -/
structure MC (δ : Type) where
  enc : δ → List AV
  dec : List AV → Option δ
  val : δ → List Value
  h1 : ∀ x, flatL (enc x) = some (val x)
  h2 : ∀ (ρ : Ren) (as : List AV) (vs : List Value) (x : δ), dec as = some x → Rvs ρ as vs → vs = val x

def mc0 : MC Unit where
  enc _ := []
  dec as := match as with
    | [] => some ()
    | _ => none
  val _ := []
  h1 _ := rfl
  h2 ρ as vs x h r := by
    split at h
    · exact r.unnil
    · cases h

def mc1 {α : Type} (A : Cod α) : MC α where
  enc x := [A.enc x]
  dec as := match as with
    | [a] => A.dec a
    | _ => none
  val x := [A.val x]
  h1 x := by simp [flatL, A.h1]
  h2 ρ as vs x h r := by
    split at h
    · obtain ⟨v, ys, rfl, h1, h2⟩ := r.uncons
      rw [h2.unnil, A.h2 ρ _ _ _ h h1]
    · cases h

def mc2 {α β : Type} (A : Cod α) (B : Cod β) : MC (α × β) where
  enc x := [A.enc x.1, B.enc x.2]
  dec as := match as with
    | [a, b] => match A.dec a, B.dec b with
      | some x, some y => some (x, y)
      | _, _ => none
    | _ => none
  val x := [A.val x.1, B.val x.2]
  h1 x := by simp [flatL, A.h1, B.h1]
  h2 ρ as vs x h r := by
    split at h
    · split at h
      · rename_i p q hp hq
        simp at h; subst h
        obtain ⟨v, ys, rfl, h1, h2⟩ := r.uncons
        obtain ⟨u, zs, rfl, h3, h4⟩ := h2.uncons
        rw [h4.unnil, A.h2 ρ _ _ _ hp h1, B.h2 ρ _ _ _ hq h3]
      · cases h
    · cases h

/-- The first argument's block is read; the others are exact. -/
def rdp {β γ δ : Type} (t : TypeId) (C : CC γ) (D : MC δ) (B : Cod β) (F : γ → δ → β) : List AV → AH → Option (Bool × AV × AH)
  | .ptr i 0 :: rest, h => match blkDec C t h i, D.dec rest with
    | some x, some z => some (true, B.enc (F x z), [])
    | _, _ => none
  | _, _ => none

theorem rdp_ok {β γ δ : Type} {P : Program} {E : Env} {sym : List Tmp} {lf f : Nat} {c : Code} {fn : Func} (hE : EnvOk P E) (hm : P.follows .mixedOrders = true) (hf : P.funcs.toList[f]? = some fn) (hb : fn.body = some c)
    (hok : codeOk E c = true) {D : MC δ} {C : CC γ} {B : Cod β} {F : γ → δ → β} {t : TypeId}
    (hr : ∀ x z, GivesH (afun P E sym (fun _ => none) lf f (.ptr 0 0 :: D.enc z) (oneAH C t x) 1) (B.val (F x z))) : HeapOk P f (rdp t C D B F) := by
  have key : ∀ {as : List AV} {h : AH} {o : Bool × AV × AH}, rdp t C D B F as h = some o → ∃ i rest x z, as = .ptr i 0 :: rest ∧ D.dec rest = some z ∧ blkDec C t h i = some x ∧ o = (true, B.enc (F x z), []) := by
    intro as h o hg
    unfold rdp at hg
    split at hg
    · rename_i i rest
      split at hg
      · rename_i x z hx hz
        simp at hg
        exact ⟨i, rest, x, z, rfl, hz, hx, hg.symm⟩
      · cases hg
    · cases hg
  have again : ∀ {as : List AV} {h h' : AH} {o : Bool × AV × AH}, rdp t C D B F as h = some o → (∀ i, i ∈ idsOf as → ∀ B, h.get i = some B → h'.get i = some B) → rdp t C D B F as h' = some o := by
    intro as h h' o hg hh
    obtain ⟨i, rest, x, z, rfl, hz, hx, rfl⟩ := key hg
    have hi : i ∈ idsOf (.ptr i 0 :: rest) := by simp [idsOf]
    unfold rdp
    simp only [hz, blkDec_congr (hh i hi) hx]
  refine ⟨?_, fun as h h' x hle hg => again hg (fun i _ B hB => hle i B hB), fun ρ as xs z b h x hx hz hg => again hg (fun i hi B hB => by
      rw [AH.get_cons, if_neg (fun e => hx.ids_ne hz i hi e.symm)] at hB; exact hB), fun as h c' r ups hg => ?_, fun as h h' x hh hg => again hg hh⟩
  · intro F' ρ as xs h r ups w hg hx hw
    obtain ⟨i, rest, x, z, rfl, hz, h1, ho⟩ := key hg
    simp at ho
    obtain ⟨rfl, rfl⟩ := ho
    obtain ⟨u, xs', rfl, hu, hx'⟩ := hx.uncons
    have hpv := D.h2 ρ _ _ _ hz hx'
    subst hpv
    obtain ⟨b, cx, fr, p1, p2, p3, p4, p5⟩ := blk_again hw h1
    let σ : Ren := ⟨fun id => if id = 0 then some b else none, fun _ => cx.size, fun _ => ρ.base i⟩
    have hσ : σ 0 = some b := rfl
    have hRW : RW (frameOf w) σ (oneAH C t x) w := by
      refine ⟨fun id B hB => ?_, fun id id' B B' d hB hB' hwr => ?_, fun _ _ h => h, rfl, rfl, rfl, hw.gw⟩
      · unfold oneAH at hB
        rw [AH.get_cons] at hB
        split at hB
        · rename_i e; subst e; simp at hB; subst hB
          exact ⟨b, _, hσ, p2, .inl ⟨cx, fr, rfl, (fun h => by cases h), p4, fun k a v ha hv => p5 σ k a v ha hv⟩, (fun h => by cases h), rfl⟩
        · simp [AH.get] at hB
      · unfold oneAH at hB
        rw [AH.get_cons] at hB
        split at hB
        · simp at hB; subst hB; cases hwr
        · simp [AH.get] at hB
    cases hu with
    | ptr hsb =>
      rw [p1] at hsb; simp at hsb; subst hsb
      have := afun_calls hE hm hf hb hok (tabOk_none c) (K := fun q _ => flat q = some (B.val (F x z))) (hr x z).out (F := frameOf w) (.cons (show Rv σ (.ptr 0 0) (.pointer (some ⟨b, ρ.base i + 0, none⟩)) from Rv.ptr (ρ := σ) hσ) (Rvs.of_flatL (D.h1 z))) hRW (fun id hid => by show (if id = 0 then some b else none) = none; rw [if_neg (by omega)])
      refine Calls.mono this ?_
      rintro e w' ⟨v', q', h', ρ', rfl, hk', hrv, hrw, _⟩
      have := hrv.flat_eq hk'
      subst this
      exact ⟨_, rfl, .of_flat (B.h1 _), hw.below hrw.to_below⟩
  · obtain ⟨i, rest, x, z, _, _, _, ho⟩ := key hg
    simp at ho
    obtain ⟨_, _, rfl⟩ := ho
    simp

/-! A function that lays one block and hands back a pointer to it, and a number. -/
def layP {α γ : Type} (A : Cod α) (t : TypeId) (C : CC γ) (k : Int) (F : α → γ) : List AV → Nat → Option (Bool × AV × Blk)
  | [a], z => match A.dec a with
    | none => none
    | some x => some (true, .tup [.ptr z 0, .v (.int .i64 k)], ⟨true, t, C.enc (F x)⟩)
  | _, _ => none

def outP (t : TypeId) (q : AV × AH) : AV := match q.1 with
  | .tup [.ptr i 0, k] => match q.2.get i with
    | none => .any
    | some B => match B.wr && Nat.beq B.ty t with
      | true => .tup [.agg B.cs, k]
      | false => .any
  | _ => .any

theorem outP_eq {t : TypeId} {q : AV × AH} {k : AV} {cs : List AV} (h : outP t q = .tup [.agg cs, k]) : ∃ i, q.1 = .tup [.ptr i 0, k] ∧ q.2.get i = some ⟨true, t, cs⟩ := by
  unfold outP at h
  split at h
  · rename_i i k' hq
    split at h
    · cases h
    · rename_i B hB
      split at h
      · rename_i hc
        simp only [Bool.and_eq_true] at hc
        simp at h
        obtain ⟨h2, rfl⟩ := h
        refine ⟨i, hq, ?_⟩
        rw [hB]
        obtain ⟨wr, ty, cs'⟩ := B
        simp at hc h2
        obtain ⟨e1, e2⟩ := hc
        subst e1; subst e2; subst h2
        rfl
      · cases h
  · cases h

def afunQ (P : Program) (E : Env) (sym : List Tmp) (tab : BTab) (lf f : Nat) (t : TypeId) (args : List AV) : Tree AV := (afun P E sym tab lf f args [] 0).bind fun q => .leaf (outP t q)

theorem layP_ok {P : Program} {α γ : Type} {t : TypeId} {A : Cod α} {C : CC γ} {k : Int} {F : α → γ} {f : Nat} {E : Env} {sym : List Tmp} {lf : Nat} {tab : α → BTab} (X : ∀ x, Ctx P E sym (tab x) lf f)
    (hr : ∀ x, (afunQ P E sym (tab x) lf f t [A.enc x]).holds (fun a => a = .tup [.agg (C.enc (F x)), .v (.int .i64 k)])) : LayOk P f (layP A t C k F) := by
  have key : ∀ {as : List AV} {z : Nat} {o : Bool × AV × Blk}, layP A t C k F as z = some o → ∃ a x, as = [a] ∧ A.dec a = some x ∧ o = (true, .tup [.ptr z 0, .v (.int .i64 k)], ⟨true, t, C.enc (F x)⟩) := by
    intro as z o hg
    unfold layP at hg
    split at hg
    · rename_i a
      split at hg
      · cases hg
      · rename_i x hx
        simp at hg
        exact ⟨a, x, rfl, hx, hg.symm⟩
    · cases hg
  constructor
  · intro F' ρ as xs h z r Bz w hg hx hw hz
    obtain ⟨a, x, rfl, hd, ho⟩ := key hg
    simp at ho
    obtain ⟨rfl, rfl⟩ := ho
    obtain ⟨fn, c, hf, hb, hok, htab⟩ := (X x).body
    obtain ⟨v, ys, rfl, hv, hx'⟩ := hx.uncons
    rw [hx'.unnil]
    have e0 := A.h2 ρ _ _ _ hd hv
    subst e0
    have hq := Tree.holds_bind (g := fun q => .leaf (outP t q)) (hr x)
    have := afun_calls (X x).env (X x).mixed hf hb hok htab (K := fun q h' => ∃ i, q = .tup [.ptr i 0, .v (.int .i64 k)] ∧ h'.get i = some ⟨true, t, C.enc (F x)⟩)
      (Tree.holds_mono (fun q hq => outP_eq hq) hq) (F := frameOf w) (ρ := Ren.empty) (xs := [A.val x]) (w := w) (.cons (.of_flat (A.h1 x)) .nil) (RW.init w _ hw.gw) (fun _ _ => rfl)
    refine Calls.mono this ?_
    rintro e w' ⟨u, q, h', ρ', rfl, ⟨i, rfl, hget⟩, hrv, hrw, _⟩
    obtain ⟨b, o, p1, p2, ⟨cx, fr, rfl, p3, p4, p5⟩, p6, p7⟩ := hrw.blkF hget (C.h1 _)
    have pz := (p3 rfl).2
    rw [(p3 rfl).1] at p2
    rw [pz] at p4 p5
    simp only [Nat.zero_add] at p4 p5
    have hnew : w.heap[b]? = none := p6 rfl
    have hrel := rvs_prefix (ρ := ρ') (cs := C.enc (F x)) (xs := cx.toList) (by simpa using p4) (fun i a x ha hx => p5 i a x ha (by simpa using hx))
    have hval := hrel.flats_eq (C.h1 (F x))
    have hF : F'.blocks b = none := by
      cases hb : F'.blocks b with
      | none => rfl
      | some o => have := hw.fr b o hb; rw [hnew] at this; cases this
    obtain ⟨us, rfl, hus⟩ := hrv.tup_iff
    obtain ⟨v0, y0, e0, h0, r0⟩ := hus.uncons
    obtain ⟨v1, y1, e1, h1, r1⟩ := r0.uncons
    have e2 := r1.unnil
    subst e2; subst e1
    cases h0 with
    | ptr hsb =>
      rw [p1] at hsb; simp at hsb; subst hsb
      rw [pz] at e0
      have hv1 : v1 = .int .i64 k := h1.scal_eq (y := .int .i64 k) rfl
      have eus : us = #[.pointer (some ⟨b, 0, none⟩), v1] := by apply Array.ext'; simpa using e0
      rw [eus]
      refine ⟨_, ρ.upd z b cx.size, rfl, Ren.le_upd hz, fun j hj => Ren.upd_ne ρ hj, ?_, ?_⟩
      · exact .tup_mk (.cons .ptrU (.cons (by rw [hv1]; exact .v _) .nil))
      refine (hw.below hrw.to_below).adopt hz hF (fun j B hj e => ?_) t (C.enc (F x)) p2 p4 (fun σ j a v ha hv => ?_)
      · obtain ⟨b', o', q1, q2, _⟩ := hw.blk j B hj
        rw [q1] at e; simp at e; subst e
        rw [hnew] at q2; cases q2
      · have h8 := Rvs.of_flats (ρ := σ) (C.h1 (F x))
        refine h8.2 j a v ha ?_
        rw [← hval, List.getElem?_take, if_pos (List.getElem?_eq_some_iff.1 ha).1]
        simpa using hv

/-- One value alone. -/
def kIs {α : Type} (A : Cod α) (y : α) (eqb : α → α → Bool) (h : ∀ x, eqb x y = true → x = y) : Cod Unit where
  enc _ := A.enc y
  dec a := match A.dec a with
    | some x => bif eqb x y then some () else none
    | none => none
  val _ := A.val y
  h1 _ := A.h1 y
  h2 ρ a v x hd r := by
    split at hd
    · rename_i z hz
      cases hb : eqb z y with
      | false => rw [hb] at hd; cases hd
      | true =>
        rw [A.h2 ρ _ _ _ hz r, h z hb]
    · cases hd

/-! The state at a block's head, behind other loops. -/
def hasB (t : Nat) : Code → Bool
  | .seq a b => hasB t a || hasB t b
  | .cond _ a b => hasB t a || hasB t b
  | .block id c => Nat.beq id t || hasB t c
  | .loop c => hasB t c
  | _ => false

def reachB (P : Program) (E : Env) (sym : List Tmp) (tab : BTab) (lf : Nat) (target : Nat) : Code → XS → Tree (Bool × AExit × XS)
  | .seq a b, x => (reachB P E sym tab lf target a x).bind fun r => match r with
    | (true, e, y) => .leaf (true, e, y)
    | (false, .normal, y) => reachB P E sym tab lf target b y
    | (false, e, y) => .leaf (false, e, y)
  | .cond c a b, x => match boolOf (look x.s.tm c) with
    | some true => reachB P E sym tab lf target a x
    | some false => reachB P E sym tab lf target b x
    | none => .fail
  | .block id c, x => bif Nat.beq id target then .leaf (true, .normal, x) else bif hasB target c then
      (reachB P E sym tab lf target c x).bind fun r => match r with
        | (false, .exit i, y) => bif Nat.beq i id then .leaf (false, .normal, y) else .leaf (false, .exit i, y)
        | r => .leaf r
    else (exec P E sym tab lf (.block id c) x).bind fun (e, y) => .leaf (false, e, y)
  | .loop c, x => reachB P E sym tab lf target c x
  | c, x => (exec P E sym tab lf c x).bind fun (e, y) => .leaf (false, e, y)

def entryB (P : Program) (E : Env) (sym : List Tmp) (tab : BTab) (lf : Nat) (f : Nat) (args : List AV) (h : AH) (n : Nat) (target : Nat) (k : Keep) : XS :=
  match firstT (reachB P E sym tab lf target (bodyOf P f) ⟨⟨args ++ undefs (ntmpsOf P f - args.length), h, true⟩, n⟩) with
  | some x => match trim k.tm k.ids k.n x with
    | some y => y
    | none => default
  | none => default
end Go.Rq
