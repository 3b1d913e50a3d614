/- Arguments that are records of words and flags, opened. -/
import Derived.Test.YtdbcjiggimppdaaRq09
import Derived.Test.YtdbcjiggimppdaaRq06
namespace Go.Rq
open Go Go.WideShapes

section
variable {P : Program} {w : World} {r : Reach} {base : Nat} {t u : TypeId} {v : Value}

theorem cell_u64 (hu : P.underlying u = some (.int .u64)) (h : Cell.okWide P w r base u v) : ∃ x : BitVec 64, v = uval x := by
  simp only [Cell.okWide, hu] at h
  cases v with
  | int k n =>
    simp only [Cell.ok, hu] at h
    obtain ⟨rfl, h1, h2⟩ := h
    have h1 : (0 : Int) ≤ n := h1
    have h2 : n ≤ 18446744073709551615 := h2
    refine ⟨BitVec.ofNat 64 n.toNat, ?_⟩
    unfold uval
    congr 1
    rw [BitVec.toNat_ofNat, Nat.mod_eq_of_lt (by omega)]
    show n = ((n.toNat : Nat) : Int)
    omega
  | _ => simp [Cell.ok, hu] at h

theorem cell_bool (hu : P.underlying u = some .bool) (h : Cell.okWide P w r base u v) : ∃ b : Bool, v = .bool b := by
  simp only [Cell.okWide, hu] at h
  cases v with
  | bool b => exact ⟨b, rfl⟩
  | _ => simp [Cell.ok, hu] at h

theorem open_cells {ts : List TypeId} (ha : ∃ cs, v = .agg cs ∧ cs.size = P.cellsOf t ∧ Row.okWide P w r base t cs) (hc : P.cellTypes P.depth t = some ts) (hn : P.cellsOf t = ts.length) :
    ∃ l : List Value, v = .agg l.toArray ∧ l.length = ts.length ∧ ∀ (i : Nat) (u : TypeId) (x : Value), ts[i]? = some u → l[i]? = some x → Cell.okWide P w r base u x := by
  obtain ⟨cs, rfl, h1, ts', h2, -, h4⟩ := ha
  rw [hc] at h2
  simp at h2
  subst h2
  refine ⟨cs.toList, by simp, by simp [h1, hn], fun i u x hu hx => ?_⟩
  obtain ⟨u', h5, h6⟩ := h4 i x (by simpa using hx)
  have hi : i < ts.length := (List.getElem?_eq_some_iff.1 hu).1
  rw [Nat.mod_eq_of_lt hi, hu] at h5
  simp at h5
  rw [h5]
  exact h6

theorem okWide_agg {fs : Array Field} (ht : P.underlying t = some (.struct fs)) (h : Value.okWide P w r base t v) : ∃ cs, v = .agg cs ∧ cs.size = P.cellsOf t ∧ Row.okWide P w r base t cs := by
  simp only [Value.okWide, ht] at h
  exact h
theorem okWide_arr {e : TypeId} {n : Nat} (ht : P.underlying t = some (.array n e)) (h : Value.okWide P w r base t v) : ∃ cs, v = .agg cs ∧ cs.size = P.cellsOf t ∧ Row.okWide P w r base t cs := by
  simp only [Value.okWide, ht] at h
  exact h

/-- Six words. -/
theorem open_six (hu : P.underlying u = some (.int .u64)) {l : List Value} (hl : l.length = 6) (h : ∀ (i : Nat) (x : Value), i < 6 → l[i]? = some x → Cell.okWide P w r base u x) : ∃ x : W6, l = c6.val x := by
  match l, hl with
  | [a0, a1, a2, a3, a4, a5], _ =>
    obtain ⟨x0, rfl⟩ := cell_u64 hu (h 0 a0 (by decide) rfl)
    obtain ⟨x1, rfl⟩ := cell_u64 hu (h 1 a1 (by decide) rfl)
    obtain ⟨x2, rfl⟩ := cell_u64 hu (h 2 a2 (by decide) rfl)
    obtain ⟨x3, rfl⟩ := cell_u64 hu (h 3 a3 (by decide) rfl)
    obtain ⟨x4, rfl⟩ := cell_u64 hu (h 4 a4 (by decide) rfl)
    obtain ⟨x5, rfl⟩ := cell_u64 hu (h 5 a5 (by decide) rfl)
    exact ⟨⟨x0, x1, x2, x3, x4, x5⟩, rfl⟩

/-- A number of six words. -/
theorem open_num (hu : P.underlying u = some (.int .u64)) (ha : ∃ cs, v = .agg cs ∧ cs.size = P.cellsOf t ∧ Row.okWide P w r base t cs) (hc : P.cellTypes P.depth t = some [u, u, u, u, u, u]) (hn : P.cellsOf t = 6) : ∃ x : W6, v = c6.agg.val x := by
  obtain ⟨l, rfl, h1, h2⟩ := open_cells ha hc hn
  obtain ⟨x, rfl⟩ := open_six hu h1 (fun i x hi hx => h2 i u x (by
    match i, hi with
    | 0, _ => rfl
    | 1, _ => rfl
    | 2, _ => rfl
    | 3, _ => rfl
    | 4, _ => rfl
    | 5, _ => rfl) hx)
  exact ⟨x, rfl⟩

/-- Twice six words and a flag. -/
theorem open_p1 {b : TypeId} (hu : P.underlying u = some (.int .u64)) (hb : P.underlying b = some .bool) (ha : ∃ cs, v = .agg cs ∧ cs.size = P.cellsOf t ∧ Row.okWide P w r base t cs)
    (hc : P.cellTypes P.depth t = some [u, u, u, u, u, u, u, u, u, u, u, u, b]) (hn : P.cellsOf t = 13) : ∃ x : Ap W6, v = (cAp c6).agg.val x := by
  obtain ⟨l, rfl, h1, h2⟩ := open_cells ha hc hn
  match l, h1 with
  | [a0, a1, a2, a3, a4, a5, b0, b1, b2, b3, b4, b5, z], _ =>
    have g : ∀ (i : Nat) (x : Value), i < 12 → [a0, a1, a2, a3, a4, a5, b0, b1, b2, b3, b4, b5, z][i]? = some x → Cell.okWide P w r base u x := fun i x hi hx => h2 i u x (by
      match i, hi with
      | 0, _ => rfl
      | 1, _ => rfl
      | 2, _ => rfl
      | 3, _ => rfl
      | 4, _ => rfl
      | 5, _ => rfl
      | 6, _ => rfl
      | 7, _ => rfl
      | 8, _ => rfl
      | 9, _ => rfl
      | 10, _ => rfl
      | 11, _ => rfl) hx
    obtain ⟨x, hx⟩ := open_six (l := [a0, a1, a2, a3, a4, a5]) hu rfl (fun i x hi hx => g i x (by omega) (by
      match i, hi, hx with
      | 0, _, hx => exact hx
      | 1, _, hx => exact hx
      | 2, _, hx => exact hx
      | 3, _, hx => exact hx
      | 4, _, hx => exact hx
      | 5, _, hx => exact hx))
    obtain ⟨y, hy⟩ := open_six (l := [b0, b1, b2, b3, b4, b5]) hu rfl (fun i x hi hx => g (6 + i) x (by omega) (by
      match i, hi, hx with
      | 0, _, hx => exact hx
      | 1, _, hx => exact hx
      | 2, _, hx => exact hx
      | 3, _, hx => exact hx
      | 4, _, hx => exact hx
      | 5, _, hx => exact hx))
    obtain ⟨c, rfl⟩ := cell_bool hb (h2 12 b z rfl rfl)
    refine ⟨⟨x, y, c⟩, ?_⟩
    have e : [a0, a1, a2, a3, a4, a5, b0, b1, b2, b3, b4, b5, Value.bool c] = c6.val x ++ (c6.val y ++ [Value.bool c]) := by
      rw [← hx, ← hy]; rfl
    show Value.agg [a0, a1, a2, a3, a4, a5, b0, b1, b2, b3, b4, b5, Value.bool c].toArray = Value.agg (c6.val x ++ (c6.val y ++ [Value.bool c])).toArray
    rw [e]
/-- Four times six words and a flag. -/
theorem open_p2 {b : TypeId} (hu : P.underlying u = some (.int .u64)) (hb : P.underlying b = some .bool) (ha : ∃ cs, v = .agg cs ∧ cs.size = P.cellsOf t ∧ Row.okWide P w r base t cs)
    (hc : P.cellTypes P.depth t = some [u, u, u, u, u, u, u, u, u, u, u, u, u, u, u, u, u, u, u, u, u, u, u, u, b]) (hn : P.cellsOf t = 25) : ∃ x : Ap D6, v = (cAp c12).agg.val x := by
  obtain ⟨l, rfl, h1, h2⟩ := open_cells ha hc hn
  match l, h1 with
  | [a0, a1, a2, a3, a4, a5, b0, b1, b2, b3, b4, b5, c0, c1, c2, c3, c4, c5, d0, d1, d2, d3, d4, d5, z], _ =>
    have g : ∀ (i : Nat) (x : Value), i < 24 → [a0, a1, a2, a3, a4, a5, b0, b1, b2, b3, b4, b5, c0, c1, c2, c3, c4, c5, d0, d1, d2, d3, d4, d5, z][i]? = some x → Cell.okWide P w r base u x := fun i x hi hx => h2 i u x (by
      show (List.replicate 24 u ++ [b])[i]? = some u
      rw [List.getElem?_append_left (by simpa using hi), List.getElem?_replicate, if_pos hi]) hx
    obtain ⟨x0, hx0⟩ := open_six (l := [a0, a1, a2, a3, a4, a5]) hu rfl (fun i x hi hx => g (0 + i) x (by omega) (by
      match i, hi, hx with
      | 0, _, hx => exact hx
      | 1, _, hx => exact hx
      | 2, _, hx => exact hx
      | 3, _, hx => exact hx
      | 4, _, hx => exact hx
      | 5, _, hx => exact hx))
    obtain ⟨x1, hx1⟩ := open_six (l := [b0, b1, b2, b3, b4, b5]) hu rfl (fun i x hi hx => g (6 + i) x (by omega) (by
      match i, hi, hx with
      | 0, _, hx => exact hx
      | 1, _, hx => exact hx
      | 2, _, hx => exact hx
      | 3, _, hx => exact hx
      | 4, _, hx => exact hx
      | 5, _, hx => exact hx))
    obtain ⟨y0, hy0⟩ := open_six (l := [c0, c1, c2, c3, c4, c5]) hu rfl (fun i x hi hx => g (12 + i) x (by omega) (by
      match i, hi, hx with
      | 0, _, hx => exact hx
      | 1, _, hx => exact hx
      | 2, _, hx => exact hx
      | 3, _, hx => exact hx
      | 4, _, hx => exact hx
      | 5, _, hx => exact hx))
    obtain ⟨y1, hy1⟩ := open_six (l := [d0, d1, d2, d3, d4, d5]) hu rfl (fun i x hi hx => g (18 + i) x (by omega) (by
      match i, hi, hx with
      | 0, _, hx => exact hx
      | 1, _, hx => exact hx
      | 2, _, hx => exact hx
      | 3, _, hx => exact hx
      | 4, _, hx => exact hx
      | 5, _, hx => exact hx))
    obtain ⟨c, rfl⟩ := cell_bool hb (h2 24 b z rfl rfl)
    refine ⟨⟨⟨x0, x1⟩, ⟨y0, y1⟩, c⟩, ?_⟩
    have e : [a0, a1, a2, a3, a4, a5, b0, b1, b2, b3, b4, b5, c0, c1, c2, c3, c4, c5, d0, d1, d2, d3, d4, d5, Value.bool c] = (c6.val x0 ++ c6.val x1) ++ ((c6.val y0 ++ c6.val y1) ++ [Value.bool c]) := by
      rw [← hx0, ← hx1, ← hy0, ← hy1]; rfl
    show Value.agg [a0, a1, a2, a3, a4, a5, b0, b1, b2, b3, b4, b5, c0, c1, c2, c3, c4, c5, d0, d1, d2, d3, d4, d5, Value.bool c].toArray = Value.agg ((c6.val x0 ++ c6.val x1) ++ ((c6.val y0 ++ c6.val y1) ++ [Value.bool c])).toArray
    rw [e]
end
end Go.Rq

/- The second field: pairs of the first's elements. -/
namespace Go.Rq
open Go

theorem DN.ext2 {V : Type} {x y : DN V} (h : x.a = y.a) (k : x.b = y.b) : x = y := by
  obtain ⟨a, b⟩ := x
  obtain ⟨c, d⟩ := y
  simp at h k
  rw [h, k]

section
variable {K : Type} [Rg K]

def mulD (x y : DN K) : DN K := ⟨x.a * y.a - x.b * y.b, x.a * y.b + x.b * y.a⟩
instance ringD : Rg (DN K) where
  add x y := ⟨x.a + y.a, x.b + y.b⟩
  mul := mulD
  neg x := ⟨-x.a, -x.b⟩
  sub x y := ⟨x.a - y.a, x.b - y.b⟩
  zero := ⟨0, 0⟩
  one := ⟨1, 0⟩
  add_zero x := DN.ext2 (Rg.add_zero x.a) (Rg.add_zero x.b)
  add_comm x y := DN.ext2 (Rg.add_comm x.a y.a) (Rg.add_comm x.b y.b)
  add_assoc x y z := DN.ext2 (Rg.add_assoc x.a y.a z.a) (Rg.add_assoc x.b y.b z.b)
  neg_add x := DN.ext2 (Rg.neg_add x.a) (Rg.neg_add x.b)
  sub_eq x y := DN.ext2 (Rg.sub_eq x.a y.a) (Rg.sub_eq x.b y.b)
  mul_assoc x y z := DN.ext2 (by show (x.a * y.a - x.b * y.b) * z.a - (x.a * y.b + x.b * y.a) * z.b = x.a * (y.a * z.a - y.b * z.b) - x.b * (y.a * z.b + y.b * z.a); exact rg [x.a, x.b, y.a, y.b, z.a, z.b])
    (by show (x.a * y.a - x.b * y.b) * z.b + (x.a * y.b + x.b * y.a) * z.a = x.a * (y.a * z.b + y.b * z.a) + x.b * (y.a * z.a - y.b * z.b); exact rg [x.a, x.b, y.a, y.b, z.a, z.b])
  mul_comm x y := DN.ext2 (by show x.a * y.a - x.b * y.b = y.a * x.a - y.b * x.b; exact rg [x.a, x.b, y.a, y.b]) (by show x.a * y.b + x.b * y.a = y.a * x.b + y.b * x.a; exact rg [x.a, x.b, y.a, y.b])
  mul_one x := DN.ext2 (by show x.a * 1 - x.b * 0 = x.a; exact rg [x.a, x.b]) (by show x.a * 0 + x.b * 1 = x.b; exact rg [x.a, x.b])
  mul_add x y z := DN.ext2 (by show x.a * (y.a + z.a) - x.b * (y.b + z.b) = (x.a * y.a - x.b * y.b) + (x.a * z.a - x.b * z.b); exact rg [x.a, x.b, y.a, y.b, z.a, z.b])
    (by show x.a * (y.b + z.b) + x.b * (y.a + z.a) = (x.a * y.b + x.b * y.a) + (x.a * z.b + x.b * z.a); exact rg [x.a, x.b, y.a, y.b, z.a, z.b])

theorem dn_add (x y : DN K) : x + y = ⟨x.a + y.a, x.b + y.b⟩ := rfl
theorem dn_sub (x y : DN K) : x - y = ⟨x.a - y.a, x.b - y.b⟩ := rfl
theorem dn_mul (x y : DN K) : x * y = ⟨x.a * y.a - x.b * y.b, x.a * y.b + x.b * y.a⟩ := rfl
theorem dn_neg (x : DN K) : -x = ⟨-x.a, -x.b⟩ := rfl
theorem dn_zero : (0 : DN K) = ⟨0, 0⟩ := rfl
theorem dn_one : (1 : DN K) = ⟨1, 0⟩ := rfl

variable {iv : K → K} {e : K → K → Bool}

/-- The inverse, by the norm. -/
def ivD (iv : K → K) (x : DN K) : DN K := ⟨x.a * iv (x.a * x.a + x.b * x.b), -(x.b * iv (x.a * x.a + x.b * x.b))⟩

theorem fdD (F : Fd K iv e) (hn : ∀ a b : K, a * a + b * b = 0 → a = 0 ∧ b = 0) : Fd (DN K) (ivD iv) (beqA e) where
  inv {x} hx := by
    have h0 : x.a * x.a + x.b * x.b ≠ 0 := fun h => hx (by
      obtain ⟨h1, h2⟩ := hn _ _ h
      rw [dn_zero]
      exact DN.ext2 h1 h2)
    have hi := F.inv h0
    rw [dn_mul, dn_one]
    unfold ivD
    generalize iv (x.a * x.a + x.b * x.b) = i at hi
    refine DN.ext2 ?_ ?_
    · show x.a * (x.a * i) - x.b * -(x.b * i) = 1
      exact rg1 [x.a, x.b, i] hi 1
    · show x.a * -(x.b * i) + x.b * (x.a * i) = 0
      exact rg [x.a, x.b, i]
  one h := by
    rw [dn_zero, dn_one] at h
    exact F.one (congrArg DN.a h)
  two {y} h := by
    rw [dn_zero, dn_add] at h
    rw [dn_zero]
    exact DN.ext2 (F.two (congrArg DN.a h)) (F.two (congrArg DN.b h))
  eq {x y} := by
    unfold beqA
    cases h1 : e x.a y.a with
    | false =>
      rw [cond_false]
      constructor
      · intro h; cases h
      · intro h
        rw [h, F.refl] at h1
        cases h1
    | true =>
      have h1 := F.eq.1 h1
      rw [cond_true, F.eq]
      constructor
      · intro h; exact DN.ext2 h1 h
      · intro h; rw [h]

/-- The operations go as they went. -/
theorem relPair {R : K → W6 → Prop} {o : FO W6} (h : FRel R (foK iv) o e eqW) :
    (∀ {a c : DN K} {b d : D6}, RD R a b → RD R c d → RD R (a * c) (mul2 o b d)) ∧ (∀ {a : DN K} {b : D6}, RD R a b → RD R (ivD iv a) (inv2 o b)) := by
  refine ⟨fun {a c b d} p q => ?_, fun {a b} p => ?_⟩
  · have := rd_mul h p q
    rw [show mulA (foK iv) a c = a * c from DN.ext2 rfl (by
      show (a.a + a.b) * (c.a + c.b) - a.a * c.a - a.b * c.b = a.a * c.b + a.b * c.a
      exact rg [a.a, a.b, c.a, c.b])] at this
    exact this
  · have := rd_inv h p
    rw [show invA (foK iv) a = ivD iv a from DN.ext2 rfl (by
      show -a.b * iv (a.a * a.a + a.b * a.b) = -(a.b * iv (a.a * a.a + a.b * a.b))
      exact rg_neg_mul _ _)] at this
    exact this

theorem relPairs {R : K → W6 → Prop} (h : FRel R (foK iv) fW e eqW) : FRel (RD R) (foK (K := DN K) (ivD iv)) fD (beqA e) eqD where
  add := fun p q => by rw [fD_add]; exact rd_add h p q
  sub := fun p q => by rw [fD_sub]; exact rd_sub h p q
  mul := fun p q => by rw [foK_mul, fD_mul]; exact (relPair h).1 p q
  neg := fun p => by rw [fD_neg]; exact rd_neg h p
  inv := fun p => by rw [foK_inv, fD_inv]; exact (relPair h).2 p
  zero := by rw [foK_zero, dn_zero]; exact ⟨h.zero, h.zero⟩
  eq := fun p q => rd_eq h p q

theorem pwK_sq (x : K) : ∀ n : Nat, pwK x (2 * n) = pwK (x * x) n
  | 0 => rfl
  | n + 1 => by
    show pwK x (2 * n + 1 + 1) = pwK (x * x) n * (x * x)
    simp only [pwK]
    rw [pwK_sq x n, Rg.mul_assoc]

theorem pwK_neg : ∀ n : Nat, pwK (-1 : K) (2 * n + 1) = -1
  | 0 => rg_one_mul _
  | n + 1 => by
    show pwK (-1 : K) (2 * n + 1 + 1 + 1) = -1
    rw [pwK, pwK, pwK_neg n]
    exact rg ([] : List K)

/-- Minus one is no square, if the number of elements is 3 above a multiple of four. -/
theorem norm_zero (F : Fd K iv e) {m : Nat} (hiv : ∀ x, iv x = pwK x (2 * (2 * m + 1) - 1)) (a b : K) (h : a * a + b * b = 0) : a = 0 ∧ b = 0 := by
  by_cases hb : b = 0
  · subst hb
    refine ⟨?_, rfl⟩
    rcases F.zero_or (show a * a = 0 from rg1 [a] h 1) with h | h <;> exact h
  · exfalso
    have hi := F.inv hb
    have ht : (a * iv b) * (a * iv b) = -1 := rg2 [a, b, iv b] h (iv b * iv b) hi (-(b * iv b + 1))
    generalize a * iv b = t at ht
    have ht0 : t ≠ 0 := by
      rintro rfl
      exact F.one (rg1 ([] : List K) ht 1)
    have h1 := F.inv ht0
    rw [hiv] at h1
    have h2 : pwK t (2 * (2 * m + 1)) = 1 := by
      have : pwK t (2 * (2 * m + 1) - 1 + 1) = 1 := by rw [Rg.mul_comm] at h1; exact h1
      rw [show 2 * (2 * m + 1) - 1 + 1 = 2 * (2 * m + 1) by omega] at this
      exact this
    rw [pwK_sq, ht, pwK_neg] at h2
    exact F.one (F.two (rg1 ([] : List K) h2 (-1)))
end

theorem norm1 (a b : F1) (h : a * a + b * b = 0) : a = 0 ∧ b = 0 :=
  norm_zero fd1 (m := (pN - 3) / 4) (fun x => by rw [iv1_pow, show pN - 2 = 2 * (2 * ((pN - 3) / 4) + 1) - 1 by decide +kernel]) a b h
theorem fd2 : Fd (DN F1) (ivD iv1) (beqA eq1) := fdD fd1 norm1
end Go.Rq

/- The points of a curve are a group: sums by the slope. -/
namespace Go.Rq
set_option synthInstance.maxSize 100000
set_option synthInstance.maxHeartbeats 400000

section
variable {K : Type} [Rg K] {iv : K → K} {e : K → K → Bool}

/-- A slope of the line by two points of a curve: of the chord, or of what touches it. -/
structure Sl (x1 y1 x2 y2 l : K) : Prop where
  a : y1 - y2 = l * (x1 - x2)
  b : x1 * x1 + x1 * x2 + x2 * x2 = l * (y1 + y2)

def On (b x y : K) : Prop := y * y = x * x * x + b

theorem On.neg {b x y : K} (h : On b x y) : On b x (-y) := by unfold On at *; exact rg1 [x, y, b] h 1

theorem Fd.ne_mul (F : Fd K iv e) {x y : K} (hx : x ≠ 0) (hy : y ≠ 0) : x * y ≠ 0 := fun h => by
  rcases F.zero_or h with h | h
  · exact hx h
  · exact hy h

theorem Fd.cancel (F : Fd K iv e) {x y z : K} (hz : z ≠ 0) (h : x * z = y * z) : x = y := by
  have := F.inv hz
  exact rg2 [x, y, z, iv z] h (iv z) this (y - x)

/-- There is one, if they are not opposite. -/
theorem slope_ex (F : Fd K iv e) {b x1 y1 x2 y2 : K} (h1 : On b x1 y1) (h2 : On b x2 y2) (hn : ¬ (x1 = x2 ∧ y1 = -y2)) : ∃ l, Sl x1 y1 x2 y2 l := by
  unfold On at h1 h2
  by_cases hx : x1 = x2
  · subst hx
    have hy : y1 = y2 := by
      have hs : (y1 - y2) * (y1 + y2) = 0 := rg2 [x1, y1, y2, b] h1 1 h2 (-1)
      rcases F.zero_or hs with h | h
      · exact rg1 [y1, y2] h 1
      · exact absurd ⟨rfl, rg1 [y1, y2] h 1⟩ hn
    subst hy
    have hz : y1 + y1 ≠ 0 := fun h => hn ⟨rfl, rg1 [y1] h 1⟩
    have hi := F.inv hz
    exact ⟨(x1 * x1 + x1 * x1 + x1 * x1) * iv (y1 + y1), rg [x1, y1, iv (y1 + y1)], rg1 [x1, y1, iv (y1 + y1)] hi (-(x1 * x1 + x1 * x1 + x1 * x1))⟩
  · have hz : x1 - x2 ≠ 0 := fun h => hx (rg1 [x1, x2] h 1)
    have hi := F.inv hz
    refine ⟨(y1 - y2) * iv (x1 - x2), rg1 [x1, y1, x2, y2, iv (x1 - x2)] hi (-(y1 - y2)), ?_⟩
    apply F.cancel hz
    exact rg3 [x1, y1, x2, y2, b, iv (x1 - x2)] h1 (-1) h2 1 hi (-((y1 - y2) * (y1 + y2)))

/-- There is but one. -/
theorem slope_one (F : Fd K iv e) {x1 y1 x2 y2 l m : K} (hn : ¬ (x1 = x2 ∧ y1 = -y2)) (h : Sl x1 y1 x2 y2 l) (k : Sl x1 y1 x2 y2 m) : l = m := by
  by_cases hx : x1 = x2
  · have hy : y1 + y2 ≠ 0 := fun h => hn ⟨hx, rg1 [y1, y2] h 1⟩
    apply F.cancel hy
    rw [← h.b, ← k.b]
  · have hz : x1 - x2 ≠ 0 := fun h => hx (rg1 [x1, x2] h 1)
    apply F.cancel hz
    rw [← h.a, ← k.a]

def pt (x y : K) : Ap K := ⟨x, y, false⟩

theorem eqA_iff (F : Fd K iv e) {a b : Ap K} : eqA e a b = true ↔ a = b := by
  obtain ⟨x, y, z⟩ := a
  obtain ⟨u, v, w⟩ := b
  simp [eqA, F.eq]

/-- The sum, by any slope. -/
theorem sum_by (F : Fd K iv e) {b x1 y1 x2 y2 l : K} (h1 : On b x1 y1) (h2 : On b x2 y2) (hn : ¬ (x1 = x2 ∧ y1 = -y2)) (h : Sl x1 y1 x2 y2 l) :
    sumA iv e (pt x1 y1) (pt x2 y2) = pt (l * l - x1 - x2) (l * (x1 - (l * l - x1 - x2)) - y1) := by
  have n1 : eqA e (pt x1 y1) (negK (pt x2 y2)) = false := by
    cases hb : eqA e (pt x1 y1) (negK (pt x2 y2)) with
    | false => rfl
    | true =>
      have := (eqA_iff F).1 hb
      unfold pt negK at this
      have := Ap.mk.inj this
      exact absurd ⟨this.1, this.2.1⟩ hn
  unfold sumA
  rw [n1]
  show (bif eqA e (pt x1 y1) (pt x2 y2) then chordK (pt x1 y1) (pt x2 y2) (slope1K iv (pt x1 y1)) else chordK (pt x1 y1) (pt x2 y2) (slope2K iv (pt x1 y1) (pt x2 y2))) = _
  unfold On at h1 h2
  cases hb : eqA e (pt x1 y1) (pt x2 y2) with
  | true =>
    have := Ap.mk.inj ((eqA_iff F).1 hb)
    obtain ⟨rfl, rfl, -⟩ := this
    have hz : y1 + y1 ≠ 0 := fun h => hn ⟨rfl, rg1 [y1] h 1⟩
    have hi := F.inv hz
    have : l = slope1K iv (pt x1 y1) := slope_one F hn h ⟨by simp only [slope1K, pt]; exact rg [x1, y1, iv (y1 + y1)], by simp only [slope1K, pt]; exact rg1 [x1, y1, iv (y1 + y1)] hi (-(x1 * x1 + x1 * x1 + x1 * x1))⟩
    rw [cond_true, ← this]
    rfl
  | false =>
    have hx : x1 ≠ x2 := by
      intro hx
      subst hx
      have hs : (y1 - y2) * (y1 + y2) = 0 := rg2 [x1, y1, y2, b] h1 1 h2 (-1)
      rcases F.zero_or hs with h | h
      · have : y1 = y2 := rg1 [y1, y2] h 1
        subst this
        rw [(eqA_iff F).2 rfl] at hb
        cases hb
      · exact hn ⟨rfl, rg1 [y1, y2] h 1⟩
    have hz : x2 - x1 ≠ 0 := fun h => hx (rg1 [x1, x2] h (-1))
    have hi := F.inv hz
    have : l = slope2K iv (pt x1 y1) (pt x2 y2) := by
      apply F.cancel hz
      have := h.a
      simp only [slope2K, pt]
      exact rg2 [x1, y1, x2, y2, l, iv (x2 - x1)] this 1 hi (-(y2 - y1))
    rw [cond_false, ← this]
    rfl

theorem sum_opp (F : Fd K iv e) {x y : K} : sumA iv e (pt x y) (pt x (-y)) = ⟨0, 0, true⟩ := by
  have : eqA e (pt x y) (negK (pt x (-y))) = true := by
    rw [eqA_iff F]
    unfold negK pt
    congr 1
    exact rg [y]
  unfold sumA
  rw [this]
  rfl

/-- A point of the curve: none, or two numbers. -/
inductive Pt (b : K) : Ap K → Prop
  | zero : Pt b ⟨0, 0, true⟩
  | of {x y : K} : On b x y → Pt b (pt x y)

theorem sum_zero_l {a : Ap K} : sumA iv e ⟨0, 0, true⟩ a = a := rfl
theorem sum_zero_r (a : Ap K) (ha : a.zero = true → a = ⟨0, 0, true⟩) : sumA iv e a ⟨0, 0, true⟩ = a := by
  unfold sumA
  cases hz : a.zero with
  | true => rw [cond_true]; exact (ha hz).symm
  | false => rfl
theorem Pt.z {b : K} {a : Ap K} (h : Pt b a) : a.zero = true → a = ⟨0, 0, true⟩ := by
  cases h with
  | zero => intro _; rfl
  | of => intro h; cases h
theorem Pt.add0 {b : K} {a : Ap K} (h : Pt b a) : sumA iv e a ⟨0, 0, true⟩ = a := sum_zero_r a h.z

/-- The sum's point lies on the curve. -/
theorem on_sum {b x1 y1 x2 y2 l : K} (h1 : On b x1 y1) (h : Sl x1 y1 x2 y2 l) : On b (l * l - x1 - x2) (l * (x1 - (l * l - x1 - x2)) - y1) := by
  have ha := h.a
  have hb := h.b
  unfold On at *
  exact rg3 [x1, y1, x2, y2, l, b] h1 1 ha (l * (l * l - x1 - x2 - x1)) hb (-(l * l - x1 - x2 - x1))

theorem neg_pt {b : K} {a : Ap K} (h : Pt b a) : Pt b (negK a) := by
  cases h with
  | zero =>
    have : negK (⟨0, 0, true⟩ : Ap K) = ⟨0, 0, true⟩ := by unfold negK; congr 1; exact rg_neg_zero
    rw [this]; exact .zero
  | of h =>
    rename_i x y
    exact .of (x := x) (y := -y) (by unfold On at *; exact rg1 [x, y, b] h 1)

theorem sum_pt (F : Fd K iv e) {b : K} {p q : Ap K} (hp : Pt b p) (hq : Pt b q) : Pt b (sumA iv e p q) := by
  cases hp with
  | zero => exact hq
  | of h1 =>
    cases hq with
    | zero => rw [sum_zero_r _ (fun h => by cases h)]; exact .of h1
    | of h2 =>
      rename_i x1 y1 x2 y2
      by_cases hn : x1 = x2 ∧ y1 = -y2
      · obtain ⟨rfl, rfl⟩ := hn
        have := sum_opp F (x := x1) (y := -y2)
        rw [show - -y2 = y2 from rg_neg_neg y2] at this
        rw [this]; exact .zero
      · obtain ⟨l, hl⟩ := slope_ex F h1 h2 hn
        rw [sum_by F h1 h2 hn hl]
        exact .of (on_sum h1 hl)

theorem sum_comm (F : Fd K iv e) {b : K} {p q : Ap K} (hp : Pt b p) (hq : Pt b q) : sumA iv e p q = sumA iv e q p := by
  cases hp with
  | zero => rw [hq.add0]; rfl
  | of h1 =>
    cases hq with
    | zero => rw [sum_zero_r _ (fun h => by cases h)]; rfl
    | of h2 =>
      rename_i x1 y1 x2 y2
      by_cases hn : x1 = x2 ∧ y1 = -y2
      · obtain ⟨rfl, rfl⟩ := hn
        have e1 := sum_opp F (x := x1) (y := -y2)
        rw [show - -y2 = y2 from rg_neg_neg y2] at e1
        rw [e1, sum_opp F]
      · obtain ⟨l, hl⟩ := slope_ex F h1 h2 hn
        have hl' : Sl x2 y2 x1 y1 l := ⟨by have := hl.a; exact rg1 [x1, y1, x2, y2, l] this (-1), by have := hl.b; exact rg1 [x1, y1, x2, y2, l] this 1⟩
        rw [sum_by F h1 h2 hn hl, sum_by F h2 h1 (fun h => hn ⟨h.1.symm, rg1 [y1, y2] h.2 1⟩) hl']
        have ha := hl.a
        unfold pt
        congr 1
        · exact rg [x1, x2, l]
        · exact rg1 [x1, y1, x2, y2, l] ha (-1)

/-- What is asked of a curve: no point is its own negated one. -/
structure Cv (F : Fd K iv e) (b : K) : Prop where
  y : ∀ {x y : K}, On b x y → y ≠ 0

theorem neg_neg_pt (a : Ap K) : negK (negK a) = a := by
  obtain ⟨x, y, z⟩ := a
  unfold negK
  congr 1
  exact rg_neg_neg y
theorem neg_zero_pt : negK (⟨0, 0, true⟩ : Ap K) = ⟨0, 0, true⟩ := by unfold negK; congr 1; exact rg_neg_zero
theorem neg_of (x y : K) : negK (pt x y) = pt x (-y) := rfl

theorem sum_neg (F : Fd K iv e) {b : K} {p : Ap K} (hp : Pt b p) : sumA iv e p (negK p) = ⟨0, 0, true⟩ := by
  cases hp with
  | zero => rw [neg_zero_pt]; rfl
  | of h => rw [neg_of, sum_opp F]

/-- The negated sum is the sum of the negated ones. -/
theorem neg_sum (F : Fd K iv e) {b : K} {p q : Ap K} (hp : Pt b p) (hq : Pt b q) : negK (sumA iv e p q) = sumA iv e (negK p) (negK q) := by
  cases hp with
  | zero => rw [neg_zero_pt]; rfl
  | of h1 =>
    cases hq with
    | zero => rw [neg_zero_pt, sum_zero_r _ (fun h => by cases h), sum_zero_r _ (fun h => by cases h)]
    | of h2 =>
      rename_i x1 y1 x2 y2
      rw [neg_of, neg_of]
      by_cases hn : x1 = x2 ∧ y1 = -y2
      · obtain ⟨rfl, rfl⟩ := hn
        have e1 := sum_opp F (x := x1) (y := -y2)
        rw [show - -y2 = y2 from rg_neg_neg y2] at e1 ⊢
        rw [e1, neg_zero_pt, sum_opp F]
      · obtain ⟨l, hl⟩ := slope_ex F h1 h2 hn
        have hl' : Sl x1 (-y1) x2 (-y2) (-l) := ⟨by have := hl.a; exact rg1 [x1, y1, x2, y2, l] this (-1), by have := hl.b; exact rg1 [x1, y1, x2, y2, l] this 1⟩
        have g1 := h1.neg
        have g2 := h2.neg
        rw [sum_by F h1 h2 hn hl, sum_by F g1 g2 (fun h => hn ⟨h.1, rg1 [y1, y2] h.2 (-1)⟩) hl', neg_of]
        congr 1
        · exact rg [x1, x2, l]
        · exact rg [x1, y1, x2, l]

/-- What was added is taken away again. -/
theorem sum_cancel (F : Fd K iv e) {b : K} (C : Cv F b) {p q : Ap K} (hp : Pt b p) (hq : Pt b q) : sumA iv e (sumA iv e p q) (negK q) = p := by
  cases hp with
  | zero => rw [sum_zero_l, sum_neg F hq]
  | of h1 =>
    cases hq with
    | zero => rw [neg_zero_pt, sum_zero_r _ (fun h => by cases h), sum_zero_r _ (fun h => by cases h)]
    | of h2 =>
      rename_i x1 y1 x2 y2
      rw [neg_of]
      by_cases hn : x1 = x2 ∧ y1 = -y2
      · obtain ⟨rfl, rfl⟩ := hn
        have e1 := sum_opp F (x := x1) (y := -y2)
        rw [show - -y2 = y2 from rg_neg_neg y2] at e1
        rw [e1, sum_zero_l]
      · obtain ⟨l, hl⟩ := slope_ex F h1 h2 hn
        have h4 := on_sum h1 hl
        have g2 := h2.neg
        rw [sum_by F h1 h2 hn hl]
        have ha := hl.a
        have hb := hl.b
        have hs : Sl (l * l - x1 - x2) (l * (x1 - (l * l - x1 - x2)) - y1) x2 (-y2) (-l) := ⟨rg1 [x1, y1, x2, y2, l] ha (-1), rg1 [x1, y1, x2, y2, l] hb 1⟩
        have hm : ¬ (l * l - x1 - x2 = x2 ∧ l * (x1 - (l * l - x1 - x2)) - y1 = - -y2) := by
          rintro ⟨k1, k2⟩
          have hy := C.y h2
          have : y2 + y2 = 0 := rg3 [x1, y1, x2, y2, l] k1 (-l) k2 (-1) ha (-1)
          exact hy (F.two this)
        rw [sum_by F h4 g2 hm hs]
        unfold pt
        congr 1
        · exact rg [x1, x2, l]
        · exact rg [x1, y1, x2, l]

/-! Brackets. The lines by the first two and by the last two points, l and m their slopes. -/
theorem br_a {x1 x2 x3 y2 l m : K} (h1 : x1 * x1 + x1 * x2 + x2 * x2 = l * (y2 + l * (x1 - x2) + y2)) (h2 : x2 * x2 + x2 * x3 + x3 * x3 = m * (y2 + (y2 + m * (x3 - x2)))) {x4 x5 y4 s : K}
    (e4 : x4 = l * l - x1 - x2) (e5 : x5 = m * m - x2 - x3) (f4 : y4 = l * (x2 - x4) - y2) (es : s = x1 + x5 - x3 - x4) :
    (l - m + (l - m)) * (y4 - (y2 + m * (x3 - x2))) = (s - (l - m) * (l - m)) * (x4 - x3) := by
  subst e4 e5 f4 es
  exact rg2 [x1, x2, x3, y2, l, m] h1 (1 + 1) h2 (-(1 + 1))

theorem br_b {x1 x2 x3 y2 l m : K} (h1 : x1 * x1 + x1 * x2 + x2 * x2 = l * (y2 + l * (x1 - x2) + y2)) (h2 : x2 * x2 + x2 * x3 + x3 * x3 = m * (y2 + (y2 + m * (x3 - x2)))) {x4 x5 y4 s : K}
    (e4 : x4 = l * l - x1 - x2) (e5 : x5 = m * m - x2 - x3) (f4 : y4 = l * (x2 - x4) - y2) (es : s = x1 + x5 - x3 - x4) :
    (l - m + (l - m)) * (x4 * x4 + x4 * x3 + x3 * x3) = (s - (l - m) * (l - m)) * (y4 + (y2 + m * (x3 - x2))) := by
  subst e4 e5 f4 es
  exact rg2 [x1, x2, x3, y2, l, m] h1 (-(m + m)) h2 (l + l)

theorem div_by {D i u N v : K} (hi : D * i = 1) (A : D * u = N * v) : u = N * i * v := rg2 [D, u, N, v, i] A i hi (-u)
theorem mv_a {y1 y2 l x1 x2 : K} (h : y1 - y2 = l * (x1 - x2)) : y1 = y2 + l * (x1 - x2) := rg1 [x1, x2, y1, y2, l] h 1
theorem mv_b {y2 y3 m x2 x3 : K} (h : y2 - y3 = m * (x2 - x3)) : y3 = y2 + m * (x3 - x2) := rg1 [x2, x3, y2, y3, m] h (-1)
theorem mv_c {y1 y2 y4 l x1 x2 x4 : K} (h : y4 = l * (x1 - x4) - y1) (f : y1 = y2 + l * (x1 - x2)) : y4 = l * (x2 - x4) - y2 := rg2 [x1, x2, x4, y1, y2, y4, l] h 1 f (-1)
theorem mv_d {a b c : K} (h : a * a + a * b + b * b = c) : b * b + b * a + a * a = c := rg1 [a, b, c] h 1
theorem mv_e {a b c d : K} (h : a = b - c - d) : a = b - d - c := rg1 [a, b, c, d] h 1
theorem mv_f {r n l m : K} (h : n + l = r + m) : r = n + l - m := rg1 [r, n, l, m] h (-1)
theorem mv_g {x2 x3 m y2 : K} (h : x2 * x2 + x2 * x3 + x3 * x3 = m * (y2 + (y2 + m * (x3 - x2)))) : x3 * x3 + x3 * x2 + x2 * x2 = m * (y2 + m * (x3 - x2) + y2) := rg1 [x2, x3, m, y2] h 1
theorem mv_h {x1 x2 l y2 : K} (h : x1 * x1 + x1 * x2 + x2 * x2 = l * (y2 + l * (x1 - x2) + y2)) : x2 * x2 + x2 * x1 + x1 * x1 = l * (y2 + (y2 + l * (x1 - x2))) := rg1 [x1, x2, l, y2] h 1
theorem mv_i {l m y1 y5 x1 x3 x4 x5 : K} (h : (m - l + (m - l)) * (y5 - y1) = (x3 + x4 - x1 - x5 - (m - l) * (m - l)) * (x5 - x1)) : (l - m + (l - m)) * (y1 - y5) = (x1 + x5 - x3 - x4 + (l - m) * (l - m)) * (x1 - x5) := rg1 [l, m, y1, y5, x1, x3, x4, x5] h 1
theorem mv_j {l m y1 y5 x1 x3 x4 x5 : K} (h : (m - l + (m - l)) * (x5 * x5 + x5 * x1 + x1 * x1) = (x3 + x4 - x1 - x5 - (m - l) * (m - l)) * (y5 + y1)) : (l - m + (l - m)) * (x1 * x1 + x1 * x5 + x5 * x5) = (x1 + x5 - x3 - x4 + (l - m) * (l - m)) * (y1 + y5) := rg1 [l, m, y1, y5, x1, x3, x4, x5] h (-1)
theorem br_y {x1 x2 x3 x4 y1 y2 y3 y4 n r l m X : K} (hX : X = n * n - x4 - x3) (e4 : x4 = l * l - x1 - x2) (g : y4 = y3 + n * (x4 - x3)) (e : r = n + l - m)
    (f1 : y1 = y2 + l * (x1 - x2)) (f3 : y3 = y2 + m * (x3 - x2)) (k : (l - m) * (n + l) = x1 - x3) : n * (x4 - X) - y4 = r * (x1 - X) - y1 := by
  subst e g f1 f3 hX e4
  exact rg1 [x1, x2, x3, y2, n, l, m] k (n - l)
theorem br_n {s d n D i : K} (hi : D * i = 1) (en : n = (s - d) * i) : D * n = s - d := rg2 [s, d, n, D, i] en D hi (s - d)
theorem br_r {s d n D i : K} (hi : D * i = 1) (en : n = (s + d) * i) : D * n = s + d := rg2 [s, d, n, D, i] en D hi (s + d)
theorem br_s {s x1 x2 x3 x4 x5 l m : K} (es : s = x1 + x5 - x3 - x4) (e4 : x4 = l * l - x1 - x2) (e5 : x5 = m * m - x2 - x3) : s = x1 - x3 + (x1 - x3) + m * m - l * l := rg3 [s, x1, x2, x3, x4, x5, l, m] es 1 e4 (-1) e5 1
theorem br_k {s n l m x1 x3 D : K} (q0 : D * n = s - (l - m) * (l - m)) (q1 : s = x1 - x3 + (x1 - x3) + m * m - l * l) (eD : D = l - m + (l - m)) :
    ((l - m) * (n + l) - (x1 - x3)) + ((l - m) * (n + l) - (x1 - x3)) = 0 := rg3 [s, n, l, m, x1, x3, D] q0 1 q1 1 eD (-n)
theorem br_d {s n r l m D : K} (q0 : D * n = s - (l - m) * (l - m)) (q1 : D * r = s + (l - m) * (l - m)) (eD : D = l - m + (l - m)) : (n + l) * D = (r + m) * D := rg3 [s, n, r, l, m, D] q0 1 q1 (-1) eD (l - m)
theorem br_e {s n r l m D : K} (q0 : D * n = s - (l - m) * (l - m)) (q1 : D * r = s + (l - m) * (l - m)) (eD : D = l - m + (l - m)) : ((n + r) * (l - m) - s) + ((n + r) * (l - m) - s) = 0 := rg3 [s, n, r, l, m, D] q0 1 q1 1 eD (-(n + r))
theorem br_x {s n r l m x1 x3 x4 x5 : K} (h : n + l = r + m) (k : (n + r) * (l - m) = s) (es : s = x1 + x5 - x3 - x4) : n * n - x4 - x3 = r * r - x1 - x5 := rg3 [s, n, r, l, m, x1, x3, x4, x5] h (n + r) k (-1) es (-1)
theorem sub_zero_eq {x y : K} (h : x - y = 0) : x = y := rg_sub_eq h

theorem assoc_gen (F : Fd K iv e) {b x1 y1 x2 y2 x3 y3 l m x4 y4 x5 y5 : K} (g1 : On b x1 y1) (g3 : On b x3 y3) (g4 : On b x4 y4) (g5 : On b x5 y5) (hl : Sl x1 y1 x2 y2 l) (hm : Sl x2 y2 x3 y3 m) (hd : l - m ≠ 0)
    (e4 : x4 = l * l - x1 - x2) (f4 : y4 = l * (x1 - x4) - y1) (e5 : x5 = m * m - x2 - x3) (f5 : y5 = m * (x2 - x5) - y2) (n4 : ¬ (x4 = x3 ∧ y4 = -y3)) (n5 : ¬ (x1 = x5 ∧ y1 = -y5)) :
    sumA iv e (pt x4 y4) (pt x3 y3) = sumA iv e (pt x1 y1) (pt x5 y5) := by
  obtain ⟨la, lb⟩ := hl
  obtain ⟨ma, mb⟩ := hm
  have f1 := mv_a la
  have f3 := mv_b ma
  have f4' := mv_c f4 f1
  have h1 : x1 * x1 + x1 * x2 + x2 * x2 = l * (y2 + l * (x1 - x2) + y2) := by rw [lb, ← f1]
  have h2 : x2 * x2 + x2 * x3 + x3 * x3 = m * (y2 + (y2 + m * (x3 - x2))) := by rw [mb, ← f3]
  have hD : l - m + (l - m) ≠ 0 := fun h => hd (F.two h)
  have hi := F.inv hD
  have A := br_a h1 h2 e4 e5 f4' (s := x1 + x5 - x3 - x4) rfl
  have B := br_b h1 h2 e4 e5 f4' (s := x1 + x5 - x3 - x4) rfl
  have A' := br_a (mv_g h2) (mv_h h1) (mv_e e5) (mv_e e4) f5 (s := x3 + x4 - x1 - x5) rfl
  have B' := br_b (mv_g h2) (mv_h h1) (mv_e e5) (mv_e e4) f5 (s := x3 + x4 - x1 - x5) rfl
  rw [← f3] at A B
  rw [← f1] at A' B'
  have A2 := mv_i A'
  have B2 := mv_j B'
  obtain ⟨D, eD⟩ : ∃ D, D = l - m + (l - m) := ⟨_, rfl⟩
  obtain ⟨i, ei⟩ : ∃ i, i = iv D := ⟨_, rfl⟩
  obtain ⟨s, es⟩ : ∃ s, s = x1 + x5 - x3 - x4 := ⟨_, rfl⟩
  rw [← eD, ← ei] at hi
  rw [← eD, ← es] at A B A2 B2
  have sn : Sl x4 y4 x3 y3 ((s - (l - m) * (l - m)) * i) := ⟨div_by hi A, div_by hi B⟩
  have sr : Sl x1 y1 x5 y5 ((s + (l - m) * (l - m)) * i) := ⟨div_by hi A2, div_by hi B2⟩
  rw [sum_by F g4 g3 n4 sn, sum_by F g1 g5 n5 sr]
  obtain ⟨n, en⟩ : ∃ n, n = (s - (l - m) * (l - m)) * i := ⟨_, rfl⟩
  obtain ⟨r, er⟩ : ∃ r, r = (s + (l - m) * (l - m)) * i := ⟨_, rfl⟩
  rw [← en] at sn ⊢
  rw [← er] at sr ⊢
  have q0 := br_n hi en
  have q1 := br_r hi er
  rw [← eD] at hD
  have hnr := F.cancel hD (br_d q0 q1 eD)
  have hX := br_x hnr (sub_zero_eq (F.two (br_e q0 q1 eD))) es
  have k := sub_zero_eq (F.two (br_k q0 (br_s es e4 e5) eD))
  have hY := br_y (X := n * n - x4 - x3) rfl e4 (mv_a sn.a) (mv_f hnr) f1 f3 k
  rw [← hX]
  unfold pt
  congr 1

theorem col_a {x1 x2 x3 x4 y2 l : K} (h1 : x1 * x1 + x1 * x2 + x2 * x2 = l * (y2 + l * (x1 - x2) + y2)) (h2 : x2 * x2 + x2 * x3 + x3 * x3 = l * (y2 + (y2 + l * (x3 - x2)))) (e4 : x4 = l * l - x1 - x2) : (x3 - x1) * (x3 - x4) = 0 := by
  subst e4
  exact rg2 [x1, x2, x3, y2, l] h1 (-1) h2 1
theorem col_b {x3 x4 y2 y3 y4 l x2 : K} (f4 : y4 = l * (x2 - x4) - y2) (f3 : y3 = y2 + l * (x3 - x2)) (h : x3 - x4 = 0) : y4 = -y3 := rg3 [x2, x3, x4, y2, y3, y4, l] f4 1 f3 1 h l
theorem col_c {x1 x2 x3 y1 y2 y3 l : K} (f1 : y1 = y2 + l * (x1 - x2)) (f3 : y3 = y2 + l * (x3 - x2)) (h : x3 - x1 = 0) : y3 = y1 := rg3 [x1, x2, x3, y1, y2, y3, l] f1 (-1) f3 1 h l

/-- Brackets may be put otherwise. -/
theorem sum_assoc (F : Fd K iv e) {b : K} (C : Cv F b) {p q r : Ap K} (hp : Pt b p) (hq : Pt b q) (hr : Pt b r) : sumA iv e (sumA iv e p q) r = sumA iv e p (sumA iv e q r) := by
  -- p + (-p + r) = r
  have back : ∀ {p r : Ap K}, Pt b p → Pt b r → sumA iv e p (sumA iv e (negK p) r) = r := fun {p r} hp hr => by
    rw [sum_comm F (neg_pt hp) hr, sum_comm F hp (sum_pt F hr (neg_pt hp))]
    have := sum_cancel F C hr (neg_pt hp)
    rw [neg_neg_pt] at this
    exact this
  by_cases pq : q = negK p
  · subst pq
    rw [sum_neg F hp, sum_zero_l, back hp hr]
  by_cases qr : r = negK q
  · subst qr
    rw [sum_neg F hq, hp.add0, sum_cancel F C hp hq]
  by_cases pqr : r = negK (sumA iv e p q)
  · have hpq := sum_pt F hp hq
    subst pqr
    rw [sum_neg F hpq]
    have h1 := sum_cancel F C hp hq
    have h2 := neg_sum F hpq (neg_pt hq)
    rw [h1, neg_neg_pt] at h2
    rw [sum_comm F hq (neg_pt hpq), ← h2, sum_neg F hp]
  by_cases qrp : sumA iv e q r = negK p
  · rw [qrp, sum_neg F hp]
    -- r = -(p + q)
    exfalso
    apply pqr
    rw [neg_sum F hp hq, ← qrp, sum_comm F hq hr, sum_cancel F C hr hq]
  cases hp with
  | zero => rw [sum_zero_l, sum_zero_l]
  | of g1 =>
    cases hq with
    | zero => rw [sum_zero_r _ (fun h => by cases h), sum_zero_l]
    | of g2 =>
      cases hr with
      | zero => rw [(sum_pt F (.of g1) (.of g2)).add0, sum_zero_r _ (fun h => by cases h)]
      | of g3 =>
        rename_i x1 y1 x2 y2 x3 y3
        have n1 : ¬ (x1 = x2 ∧ y1 = -y2) := fun h => pq (by
          rw [neg_of]; unfold pt; rw [h.1, h.2]; congr 1; exact (rg_neg_neg _).symm)
        have n2 : ¬ (x2 = x3 ∧ y2 = -y3) := fun h => qr (by
          rw [neg_of]; unfold pt; rw [h.1, h.2]; congr 1; exact (rg_neg_neg _).symm)
        obtain ⟨l, hl⟩ := slope_ex F g1 g2 n1
        obtain ⟨m, hm⟩ := slope_ex F g2 g3 n2
        have s1 := sum_by F g1 g2 n1 hl
        have s2 := sum_by F g2 g3 n2 hm
        have g4 := on_sum g1 hl
        have g5 := on_sum g2 hm
        rw [s1] at pqr ⊢
        rw [s2] at qrp ⊢
        obtain ⟨x4, e4⟩ : ∃ x4, x4 = l * l - x1 - x2 := ⟨_, rfl⟩
        rw [← e4] at g4 pqr ⊢
        obtain ⟨y4, f4⟩ : ∃ y4, y4 = l * (x1 - x4) - y1 := ⟨_, rfl⟩
        rw [← f4] at g4 pqr ⊢
        obtain ⟨x5, e5⟩ : ∃ x5, x5 = m * m - x2 - x3 := ⟨_, rfl⟩
        rw [← e5] at g5 qrp ⊢
        obtain ⟨y5, f5⟩ : ∃ y5, y5 = m * (x2 - x5) - y2 := ⟨_, rfl⟩
        rw [← f5] at g5 qrp ⊢
        have n4 : ¬ (x4 = x3 ∧ y4 = -y3) := fun h => pqr (by
          rw [neg_of]; unfold pt; rw [h.1, h.2]; congr 1; exact (rg_neg_neg _).symm)
        have n5 : ¬ (x1 = x5 ∧ y1 = -y5) := fun h => qrp (by
          rw [neg_of]; unfold pt; rw [h.1, h.2]; congr 1; exact (rg_neg_neg _).symm)
        by_cases hd : l - m = 0
        · have : l = m := sub_zero_eq hd
          subst this
          have f1 := mv_a hl.a
          have f3 := mv_b hm.a
          have f4' := mv_c f4 f1
          have h1 : x1 * x1 + x1 * x2 + x2 * x2 = l * (y2 + l * (x1 - x2) + y2) := by rw [hl.b, ← f1]
          have h2 : x2 * x2 + x2 * x3 + x3 * x3 = l * (y2 + (y2 + l * (x3 - x2))) := by rw [hm.b, ← f3]
          rcases F.zero_or (col_a h1 h2 e4) with h | h
          · have hy := col_c f1 f3 h
            have hx := sub_zero_eq h
            subst hx hy
            have : x5 = x4 := by rw [e4, e5]; exact mv_e rfl
            subst this
            have : y5 = y4 := by rw [f4', f5]
            subst this
            exact sum_comm F (.of g4) (.of g3)
          · exact absurd ⟨(sub_zero_eq h).symm, col_b f4' f3 h⟩ n4
        · exact assoc_gen F g1 g3 g4 g5 hl hm hd e4 f4 e5 f5 n4 n5
end
end Go.Rq

/- Neither curve has a point that is its own negated one. -/
namespace Go.Rq
open Go
set_option synthInstance.maxSize 100000
set_option synthInstance.maxHeartbeats 400000

section
variable {K : Type} [Rg K] {iv : K → K} {e : K → K → Bool}
theorem pwK_cube (x : K) : ∀ n : Nat, pwK x (3 * n) = pwK (x * x * x) n
  | 0 => rfl
  | n + 1 => by
    show pwK x (3 * n + 1 + 1 + 1) = pwK (x * x * x) n * (x * x * x)
    simp only [pwK]
    rw [pwK_cube x n]
    exact rg [x, pwK (x * x * x) n]

theorem no_cube (F : Fd K iv e) {m : Nat} (hiv : ∀ x, iv x = pwK x (3 * m - 1)) (hm : 1 ≤ m) {c t : K} (hc : pwK c m ≠ 1) (h0 : c ≠ 0) (h : t * t * t = c) : False := by
  have ht : t ≠ 0 := by
    rintro rfl
    exact h0 (rg1 [c] h (-1))
  have h1 := F.inv ht
  rw [hiv] at h1
  have h2 : pwK t (3 * m) = 1 := by
    have : pwK t (3 * m - 1 + 1) = 1 := by rw [Rg.mul_comm] at h1; exact h1
    rw [show 3 * m - 1 + 1 = 3 * m by omega] at this
    exact this
  rw [pwK_cube, h] at h2
  exact hc h2

theorem zero_y {b x y : K} (h : On b x y) (hy : y = 0) : x * x * x = -b := by
  unfold On at h
  subst hy
  exact rg1 [x, b] h (-1)
end

theorem cube_exp (x : F1) : iv1 x = pwK x (3 * ((pN - 1) / 3) - 1) := by rw [iv1_pow, show pN - 2 = 3 * ((pN - 1) / 3) - 1 by decide +kernel]

theorem pw1_val {c : F1} {n : Nat} (h : RV (p := pN) c n) (m : Nat) (hm : m < 2 ^ 384) : RV (p := pN) (pwK c m) (pm pN 384 n m 1) := by
  have h1 := pwF_val (p := pN) c m
  rw [← h.eq, pm_pow hm] at h1
  exact ⟨h1.symm⟩
theorem one1_val : RV (p := pN) (1 : F1) 1 := ⟨by decide +kernel⟩
theorem zero1_val : RV (p := pN) (0 : F1) 0 := ⟨(Nat.zero_mod pN).symm⟩
theorem ne1 {c d : F1} {n m : Nat} (h : RV (p := pN) c n) (k : RV (p := pN) d m) (hn : n ≠ m) : c ≠ d := by
  rintro rfl
  exact hn (h.eq.trans k.eq.symm)

theorem cube_a : pm pN 384 ((pN - 4) % pN) ((pN - 1) / 3) 1 ≠ 1 := by decide +kernel
theorem cube_b : pm pN 384 32 ((pN - 1) / 3) 1 ≠ 1 := by decide +kernel
theorem exp_small : (pN - 1) / 3 < 2 ^ 384 := by decide +kernel

theorem cv1 {b : F1} (hb : RV (p := pN) b 4) : Cv fd1 b where
  y := fun {x y} h hy => by
    have hc : RV (p := pN) (-b) ((pN - 4) % pN) := rv_neg (p := pN) hb
    exact no_cube fd1 cube_exp (by decide +kernel) (ne1 (pw1_val hc _ exp_small) one1_val cube_a) (ne1 hc zero1_val (by decide +kernel)) (zero_y h hy)

theorem norm_cube {K : Type} [Rg K] {a b c : K} (ha : a * a * a - a * b * b - (a * b + b * a) * b = -c) (hb : (a * a - b * b) * b + (a * b + b * a) * a = -c) : (a * a + b * b) * (a * a + b * b) * (a * a + b * b) = c * c + c * c := rg2 [a, b, c] ha (a * a * a - a * b * b - (a * b + b * a) * b - c) hb ((a * a - b * b) * b + (a * b + b * a) * a - c)

theorem cv2 {b : F1} (hb : RV (p := pN) b 4) : Cv fd2 (⟨b, b⟩ : DN F1) where
  y := fun {x y} h hy => by
    have h1 := zero_y h hy
    rw [dn_mul, dn_mul, dn_neg] at h1
    have ha := congrArg DN.a h1
    have hbb := congrArg DN.b h1
    simp only at ha hbb
    have h2 := norm_cube (a := x.a) (b := x.b) (c := b) (by rw [← ha]; exact rg [x.a, x.b]) hbb
    have hc : RV (p := pN) (b * b + b * b) 32 := by
      have := rv_add (p := pN) (rv_mul (p := pN) hb hb) (rv_mul (p := pN) hb hb)
      exact ⟨by rw [show (32 : Nat) = (4 * 4 % pN + 4 * 4 % pN) % pN by decide +kernel]; exact this.eq⟩
    exact no_cube fd1 cube_exp (by decide +kernel) (ne1 (pw1_val hc _ exp_small) one1_val cube_b) (ne1 hc zero1_val (by decide +kernel)) h2
end Go.Rq

/- Multiples: the program's points of three elements stand for the sums by the slope. -/
namespace Go.Rq
set_option synthInstance.maxSize 100000
set_option synthInstance.maxHeartbeats 400000

section
variable {K : Type} [Rg K] {iv : K → K} {e : K → K → Bool}

/-- A point of three elements that stands for a point. -/
inductive Jr : Jp K → Ap K → Prop
  | none {u : Jp K} (h : u.z = 0) : Jr u ⟨0, 0, true⟩
  | of {u : Jp K} {x y : K} (hz : u.z ≠ 0) (hx : u.x = x * (u.z * u.z)) (hy : u.y = y * (u.z * u.z * u.z)) : Jr u (pt x y)

theorem jl_x {x z i ux : K} (hi : z * i = 1) (h : ux = x * (z * z)) : ux * (i * i) = x := rg2 [x, z, i, ux] h (i * i) hi (x * (z * i + 1))
theorem jl_y {y z i uy : K} (hi : z * i = 1) (h : uy = y * (z * z * z)) : uy * (i * i * i) = y := rg2 [y, z, i, uy] h (i * i * i) hi (y * (z * i * (z * i) + z * i + 1))
theorem jl_z {y i uy : K} : uy * (i * i * i) = y → uy * ((i * i) * i) = y := fun h => h

theorem jr_low (F : Fd K iv e) {u : Jp K} {A : Ap K} (h : Jr u A) : lowerE (foK iv) e u = A := by
  unfold lowerE
  rw [show (foK iv).zero = (0 : K) from rfl]
  cases h with
  | none h => rw [F.eq.2 h]; rfl
  | of hz hx hy =>
    have hi := F.inv hz
    rw [F.ne hz, cond_false]
    exact Ap.ext3 (jl_x hi hx) (jl_y hi hy) rfl

theorem jt_x {x y z l : K} (hb : x * x + x * x + x * x = l * (y + y)) {ux uy : K} (hx : ux = x * (z * z)) (hy : uy = y * (z * z * z)) :
    (ux * ux + ux * ux + ux * ux) * (ux * ux + ux * ux + ux * ux) - (ux * (uy * uy) + ux * (uy * uy) + (ux * (uy * uy) + ux * (uy * uy)) + (ux * (uy * uy) + ux * (uy * uy) + (ux * (uy * uy) + ux * (uy * uy)))) = (l * l - x - x) * ((uy * z + uy * z) * (uy * z + uy * z)) := by
  subst hx hy
  have h1 : x * (z * z) * (x * (z * z)) + x * (z * z) * (x * (z * z)) + x * (z * z) * (x * (z * z)) = l * (y + y) * (z * z * z * z) := by rw [← hb]; exact rg [x, y, z]
  rw [h1]
  exact rg [x, y, z, l]

theorem jt_y {x y z l : K} (hb : x * x + x * x + x * x = l * (y + y)) {ux uy X : K} (hx : ux = x * (z * z)) (hy : uy = y * (z * z * z)) (hX : X = (l * l - x - x) * ((uy * z + uy * z) * (uy * z + uy * z))) :
    (ux * ux + ux * ux + ux * ux) * (ux * (uy * uy) + ux * (uy * uy) + (ux * (uy * uy) + ux * (uy * uy)) - X) - (uy * uy * (uy * uy) + uy * uy * (uy * uy) + (uy * uy * (uy * uy) + uy * uy * (uy * uy)) + (uy * uy * (uy * uy) + uy * uy * (uy * uy) + (uy * uy * (uy * uy) + uy * uy * (uy * uy)))) =
      (l * (x - (l * l - x - x)) - y) * ((uy * z + uy * z) * (uy * z + uy * z) * (uy * z + uy * z)) := by
  subst hx hy hX
  have h1 : x * (z * z) * (x * (z * z)) + x * (z * z) * (x * (z * z)) + x * (z * z) * (x * (z * z)) = l * (y + y) * (z * z * z * z) := by rw [← hb]; exact rg [x, y, z]
  rw [h1]
  exact rg [x, y, z, l]

theorem jr_twice (F : Fd K iv e) {b : K} (C : Cv F b) {u : Jp K} {A : Ap K} (h : Jr u A) (hA : Pt b A) : Jr (twiceJ (foK iv) u) (sumA iv e A A) := by
  cases h with
  | none h => exact .none (by rw [twice_z, h]; exact rg [u.y])
  | of hz hx hy =>
    rename_i x y
    have hon : On b x y := by
      generalize hg : pt x y = A at hA
      cases hA with
      | zero => cases hg
      | of h =>
        have := Ap.mk.inj hg
        obtain ⟨rfl, rfl, -⟩ := this
        exact h
    have hy0 := C.y hon
    have hn : ¬ (x = x ∧ y = -y) := fun h => hy0 (F.two (by have := h.2; exact rg1 [y] this 1))
    obtain ⟨l, hl⟩ := slope_ex F hon hon hn
    rw [sum_by F hon hon hn hl]
    have hx' := jt_x hl.b hx hy
    have hy' := jt_y hl.b hx hy hx'
    refine .of ?_ hx' hy'
    rw [twice_z, hy]
    intro h0
    have h1 := F.two h0
    exact F.ne_mul (F.ne_mul hy0 (F.ne_mul (F.ne_mul hz hz) hz)) hz h1

theorem js_h {x1 x2 z1 z2 : K} {u v : K} (hu : u = x1 * (z1 * z1)) (hv : v = x2 * (z2 * z2)) : v * (z1 * z1) - u * (z2 * z2) = (x2 - x1) * ((z1 * z1) * (z2 * z2)) := by subst hu hv; exact rg [x1, x2, z1, z2]
theorem js_r {y1 y2 z1 z2 : K} {u v : K} (hu : u = y1 * (z1 * z1 * z1)) (hv : v = y2 * (z2 * z2 * z2)) : v * ((z1 * z1) * z1) - u * ((z2 * z2) * z2) = (y2 - y1) * ((z1 * z1 * z1) * (z2 * z2 * z2)) := by subst hu hv; exact rg [y1, y2, z1, z2]

theorem js_x {x1 x2 y1 y2 z1 z2 l h r w3 u : K} (hh : h = (x2 - x1) * ((z1 * z1) * (z2 * z2))) (hr : r = (y2 - y1) * ((z1 * z1 * z1) * (z2 * z2 * z2))) (ha : y1 - y2 = l * (x1 - x2)) (hu : u = x1 * (z1 * z1) * (z2 * z2)) (hw : w3 = h * (z1 * z2)) :
    (r * r - h * h * h) - (u * (h * h) + u * (h * h)) = (l * l - x1 - x2) * (w3 * w3) := by
  have h1 : r = l * w3 := by
    subst hr hw hh
    have : y2 - y1 = l * (x2 - x1) := rg1 [x1, x2, y1, y2, l] ha (-1)
    rw [this]
    exact rg [x1, x2, z1, z2, l]
  subst h1 hu
  have h2 : h * h * h = (x2 - x1) * (w3 * w3) := by subst hw hh; exact rg [x1, x2, z1, z2]
  have h3 : x1 * (z1 * z1) * (z2 * z2) * (h * h) = x1 * (w3 * w3) := by subst hw; exact rg [x1, z1, z2, h]
  rw [h2, h3]
  exact rg [x1, x2, l, w3]
theorem js_y {x1 x2 y1 y2 z1 z2 l h r w3 u s X : K} (hh : h = (x2 - x1) * ((z1 * z1) * (z2 * z2))) (hr : r = (y2 - y1) * ((z1 * z1 * z1) * (z2 * z2 * z2))) (ha : y1 - y2 = l * (x1 - x2)) (hu : u = x1 * (z1 * z1) * (z2 * z2)) (hs : s = y1 * (z1 * z1 * z1) * (z2 * z2 * z2)) (hw : w3 = h * (z1 * z2))
    (hX : X = (l * l - x1 - x2) * (w3 * w3)) : r * (u * (h * h) - X) - s * (h * h * h) = (l * (x1 - (l * l - x1 - x2)) - y1) * (w3 * w3 * w3) := by
  have h1 : r = l * w3 := by
    subst hr hw hh
    have : y2 - y1 = l * (x2 - x1) := rg1 [x1, x2, y1, y2, l] ha (-1)
    rw [this]
    exact rg [x1, x2, z1, z2, l]
  have h3 : u * (h * h) = x1 * (w3 * w3) := by subst hw hu; exact rg [x1, z1, z2, h]
  have h4 : s * (h * h * h) = y1 * (w3 * w3 * w3) := by subst hw hs; exact rg [y1, z1, z2, h]
  rw [h1, h3, h4, hX]
  exact rg [x1, x2, y1, l, w3]

theorem jr_sum (F : Fd K iv e) {b : K} (C : Cv F b) (f : Fl K) {u v : Jp K} {A B : Ap K} (h : Jr u A) (k : Jr v B) (hA : Pt b A) (hB : Pt b B) : Jr (sumE (foK iv) e f u v) (sumA iv e A B) := by
  have z0 : (foK iv).zero = (0 : K) := rfl
  cases h with
  | none h =>
    unfold sumE
    rw [z0, F.eq.2 h, cond_true]
    exact k
  | of hz hx hy =>
    rename_i x1 y1
    have pt_of : ∀ {x y : K}, Pt b (pt x y) → On b x y := fun {x y} hA => by
      generalize hg : pt x y = A at hA
      cases hA with
      | zero => cases hg
      | of h =>
        have := Ap.mk.inj hg
        obtain ⟨rfl, rfl, -⟩ := this
        exact h
    cases k with
    | none k =>
      unfold sumE
      rw [z0, F.ne hz, F.eq.2 k, cond_false, cond_true, sum_zero_r _ (fun h => by cases h)]
      exact .of hz hx hy
    | of kz kx ky =>
      rename_i x2 y2
      have hj : hJ (foK iv) u v = (x2 - x1) * ((u.z * u.z) * (v.z * v.z)) := js_h hx kx
      have rj : rJ (foK iv) u v = (y2 - y1) * ((u.z * u.z * u.z) * (v.z * v.z * v.z)) := js_r hy ky
      have hzz := F.ne_mul (F.ne_mul hz hz) (F.ne_mul kz kz)
      have hzzz := F.ne_mul (F.ne_mul (F.ne_mul hz hz) hz) (F.ne_mul (F.ne_mul kz kz) kz)
      have g1 := pt_of hA
      have g2 := pt_of hB
      have se : sumE (foK iv) e f u v = bif e (hJ (foK iv) u v) 0 then (bif e (rJ (foK iv) u v) 0 then twiceJ (foK iv) u else ⟨f.one, f.one, 0⟩) else sumJ (foK iv) u v := by
        unfold sumE
        rw [z0, F.ne hz, F.ne kz]
        rfl
      rw [se]
      by_cases hx12 : x1 = x2
      · subst hx12
        rw [F.eq.2 (show hJ (foK iv) u v = 0 by rw [hj]; exact rg [x1, u.z, v.z]), cond_true]
        by_cases hy12 : y1 = y2
        · subst hy12
          rw [F.eq.2 (show rJ (foK iv) u v = 0 by rw [rj]; exact rg [y1, u.z, v.z]), cond_true]
          exact jr_twice F C (.of hz hx hy) hA
        · rw [F.ne (show rJ (foK iv) u v ≠ 0 by rw [rj]; exact F.ne_mul (fun h => hy12 (sub_zero_eq h).symm) hzzz), cond_false]
          have : y1 = -y2 := by
            unfold On at g1 g2
            have hs : (y1 - y2) * (y1 + y2) = 0 := rg2 [x1, y1, y2, b] g1 1 g2 (-1)
            rcases F.zero_or hs with h | h
            · exact absurd (sub_zero_eq h) hy12
            · exact rg1 [y1, y2] h 1
          subst this
          have e1 := sum_opp F (x := x1) (y := -y2)
          rw [show - -y2 = y2 from rg_neg_neg y2] at e1
          rw [e1]
          exact .none rfl
      · have hh : hJ (foK iv) u v ≠ 0 := by
          rw [hj]
          exact F.ne_mul (fun h => hx12 (sub_zero_eq h).symm) hzz
        rw [F.ne hh, cond_false]
        have hn : ¬ (x1 = x2 ∧ y1 = -y2) := fun h => hx12 h.1
        obtain ⟨l, hl⟩ := slope_ex F g1 g2 hn
        rw [sum_by F g1 g2 hn hl]
        have hu : u.x * (v.z * v.z) = x1 * (u.z * u.z) * (v.z * v.z) := by rw [hx]
        have hs : u.y * (v.z * v.z * v.z) = y1 * (u.z * u.z * u.z) * (v.z * v.z * v.z) := by rw [hy]
        have X := js_x hj rj hl.a hu (w3 := hJ (foK iv) u v * (u.z * v.z)) rfl
        have Y := js_y hj rj hl.a hu hs (w3 := hJ (foK iv) u v * (u.z * v.z)) rfl X
        exact .of (F.ne_mul hh (F.ne_mul hz kz)) X Y

/-! Multiples. -/
def nsm (iv : K → K) (e : K → K → Bool) (A : Ap K) : Nat → Ap K
  | 0 => ⟨0, 0, true⟩
  | n + 1 => sumA iv e (nsm iv e A n) A

theorem nsm_pt (F : Fd K iv e) {b : K} {A : Ap K} (hA : Pt b A) : ∀ n : Nat, Pt b (nsm iv e A n)
  | 0 => .zero
  | n + 1 => sum_pt F (nsm_pt F hA n) hA

theorem nsm_add (F : Fd K iv e) {b : K} (C : Cv F b) {A : Ap K} (hA : Pt b A) (m : Nat) : ∀ n : Nat, nsm iv e A (m + n) = sumA iv e (nsm iv e A m) (nsm iv e A n)
  | 0 => (nsm_pt F hA m).add0.symm
  | n + 1 => by
    show sumA iv e (nsm iv e A (m + n)) A = sumA iv e (nsm iv e A m) (sumA iv e (nsm iv e A n) A)
    rw [nsm_add F C hA m n, sum_assoc F C (nsm_pt F hA m) (nsm_pt F hA n) hA]

theorem nsm_mul (F : Fd K iv e) {b : K} (C : Cv F b) {A : Ap K} (hA : Pt b A) (m : Nat) : ∀ n : Nat, nsm iv e A (m * n) = nsm iv e (nsm iv e A m) n
  | 0 => rfl
  | n + 1 => by
    show nsm iv e A (m * n + m) = sumA iv e (nsm iv e (nsm iv e A m) n) (nsm iv e A m)
    rw [nsm_add F C hA, nsm_mul F C hA m n]

theorem nsm_zero (n : Nat) : nsm iv e (⟨0, 0, true⟩ : Ap K) n = ⟨0, 0, true⟩ := by
  induction n with
  | zero => rfl
  | succ n ih =>
    show sumA iv e (nsm iv e (⟨0, 0, true⟩ : Ap K) n) ⟨0, 0, true⟩ = _
    rw [ih]; rfl
end
end Go.Rq

/- A number's bits; a multiple by them. -/
namespace Go.Rq
open Go

theorem bitsV_mod (x : Nat) : ∀ k : Nat, bitsV (fun i => Nat.testBit x i) k = x % 2 ^ k
  | 0 => by simp [bitsV, Nat.mod_one]
  | k + 1 => by
    simp only [bitsV]
    rw [bitsV_mod x k, Nat.mod_pow_succ]
    have e : Nat.testBit x k = decide (x / 2 ^ k % 2 = 1) := Nat.testBit_eq_decide_div_mod_eq
    rw [e]
    rcases Nat.mod_two_eq_zero_or_one (x / 2 ^ k) with h | h
    · rw [h]; simp
    · rw [h]; simp

theorem bitsV_congr {b c : Nat → Bool} (h : ∀ i, b i = c i) : ∀ k : Nat, bitsV b k = bitsV c k
  | 0 => rfl
  | k + 1 => by simp only [bitsV, h, bitsV_congr h k]

theorem word_test (w : BitVec 64) (j : Nat) : (((w >>> j) &&& 1#64) == 1#64) = Nat.testBit w.toNat j := by
  have hb : ((w >>> j) &&& 1#64).toNat = (w.toNat >>> j) % 2 := by
    rw [BitVec.toNat_and, BitVec.toNat_ushiftRight, show (1#64).toNat = 1 from rfl, Nat.and_one_is_mod]
  rw [Bool.eq_iff_iff, beq_iff_eq]
  unfold Nat.testBit
  rw [Nat.and_comm, Nat.and_one_is_mod]
  constructor
  · intro h
    rw [h] at hb
    rw [← hb]; rfl
  · intro h
    apply BitVec.eq_of_toNat_eq
    rw [hb]
    have : (w.toNat >>> j) % 2 ≠ 0 := by simpa using h
    show _ = 1
    omega

theorem val_word (n : W6) {j : Nat} (hj : j < 6) : n.val / 2 ^ (64 * j) % 2 ^ 64 = (n.get j).toNat := by
  obtain ⟨a0, a1, a2, a3, a4, a5⟩ := n
  have g0 := a0.isLt; have g1 := a1.isLt; have g2 := a2.isLt; have g3 := a3.isLt; have g4 := a4.isLt; have g5 := a5.isLt
  have p0 : (2 : Nat) ^ (64 * 0) = 1 := by decide +kernel
  have p1 : (2 : Nat) ^ (64 * 1) = 18446744073709551616 := by decide +kernel
  have p2 : (2 : Nat) ^ (64 * 2) = 340282366920938463463374607431768211456 := by decide +kernel
  have p3 : (2 : Nat) ^ (64 * 3) = 6277101735386680763835789423207666416102355444464034512896 := by decide +kernel
  have p4 : (2 : Nat) ^ (64 * 4) = 115792089237316195423570985008687907853269984665640564039457584007913129639936 := by decide +kernel
  have p5 : (2 : Nat) ^ (64 * 5) = 2135987035920910082395021706169552114602704522356652769947041607822219725780640550022962086936576 := by decide +kernel
  have p : (2 : Nat) ^ 64 = 18446744073709551616 := by decide +kernel
  rw [p] at g0 g1 g2 g3 g4 g5 ⊢
  have q0 : W6.val ⟨a0, a1, a2, a3, a4, a5⟩ / 1 % 18446744073709551616 = a0.toNat := by simp only [W6.val]; omega
  have q1 : W6.val ⟨a0, a1, a2, a3, a4, a5⟩ / 18446744073709551616 % 18446744073709551616 = a1.toNat := by simp only [W6.val]; omega
  have q2 : W6.val ⟨a0, a1, a2, a3, a4, a5⟩ / 340282366920938463463374607431768211456 % 18446744073709551616 = a2.toNat := by simp only [W6.val]; omega
  have q3 : W6.val ⟨a0, a1, a2, a3, a4, a5⟩ / 6277101735386680763835789423207666416102355444464034512896 % 18446744073709551616 = a3.toNat := by simp only [W6.val]; omega
  have q4 : W6.val ⟨a0, a1, a2, a3, a4, a5⟩ / 115792089237316195423570985008687907853269984665640564039457584007913129639936 % 18446744073709551616 = a4.toNat := by simp only [W6.val]; omega
  have q5 : W6.val ⟨a0, a1, a2, a3, a4, a5⟩ / 2135987035920910082395021706169552114602704522356652769947041607822219725780640550022962086936576 % 18446744073709551616 = a5.toNat := by simp only [W6.val]; omega
  have hc : j = 0 ∨ j = 1 ∨ j = 2 ∨ j = 3 ∨ j = 4 ∨ j = 5 := by omega
  rcases hc with h | h | h | h | h | h
  · rw [h, p0]; exact q0
  · rw [h, p1]; exact q1
  · rw [h, p2]; exact q2
  · rw [h, p3]; exact q3
  · rw [h, p4]; exact q4
  · rw [h, p5]; exact q5

theorem lt_pow {x d k i : Nat} (h : x < d) (e : d = 2 ^ k) (hk : k ≤ i) : x < 2 ^ i := by
  subst e
  exact Nat.lt_of_lt_of_le h (Nat.pow_le_pow_right (by decide) hk)
theorem bit_test (n : W6) (i : Nat) : n.bit i = Nat.testBit n.val i := by
  unfold W6.bit
  rw [word_test]
  by_cases hi : i / 64 < 6
  · rw [← val_word n hi, Nat.testBit_mod_two_pow, Nat.testBit_div_two_pow]
    rw [show decide (i % 64 < 64) = true from decide_eq_true (Nat.mod_lt _ (by decide)), Bool.true_and, show i % 64 + 64 * (i / 64) = i by omega]
  · have h1 : n.get (i / 64) = 0#64 := by
      unfold W6.get
      rw [List.getD_eq_getElem?_getD, List.getElem?_eq_none (by simp; omega)]
      rfl
    rw [h1]
    have h2 := n.val_lt
    have h4 : (39402006196394479212279040100143613805079739270465446667948293404245721771497210611414266254884915640806627990306816 : Nat) = 2 ^ 384 := by decide +kernel
    have h3 : n.val < 2 ^ i := lt_pow h2 h4 (by omega)
    rw [Nat.testBit_lt_two_pow h3]
    show Nat.testBit 0 _ = false
    rw [Nat.zero_testBit]

/-- The bits that a multiple goes through tell the number. -/
theorem bitsV_val (n : W6) {l : Nat} (h : ∀ i, l ≤ i → n.bit i = false) : bitsV n.bit l = n.val := by
  rw [bitsV_congr (bit_test n), bitsV_mod]
  apply Nat.mod_eq_of_lt
  exact Nat.lt_pow_two_of_testBit n.val fun i hi => by rw [← bit_test]; exact h i hi

section
variable {K : Type} [Rg K] {iv : K → K} {e : K → K → Bool}

theorem jr_run (F : Fd K iv e) {b : K} (C : Cv F b) (f : Fl K) (w : Nat → Bool) {p : Jp K} {A : Ap K} (hp : Jr p A) (hA : Pt b A) : ∀ (k m : Nat) {u : Jp K}, Jr u (nsm iv e A m) → Jr (runK iv e f w p k u) (nsm iv e A (m * 2 ^ k + bitsV w k))
  | 0, m, u, hu => by
    rw [show m * 2 ^ 0 + bitsV w 0 = m by simp [bitsV]]
    exact hu
  | k + 1, m, u, hu => by
    simp only [runK]
    have ht := jr_twice F C hu (nsm_pt F hA m)
    rw [← nsm_add F C hA, ← Nat.two_mul] at ht
    have e1 : m * 2 ^ (k + 1) = 2 * m * 2 ^ k := by rw [Nat.pow_succ, Nat.mul_comm 2 m, Nat.mul_assoc, Nat.mul_comm 2 (2 ^ k)]
    cases hw : w k with
    | false =>
      have := jr_run F C f w hp hA k (2 * m) ht
      rw [show m * 2 ^ (k + 1) + bitsV w (k + 1) = 2 * m * 2 ^ k + bitsV w k by simp only [bitsV, hw, cond_false]; rw [e1]; omega]
      exact this
    | true =>
      have hs := jr_sum F C f ht hp (nsm_pt F hA (2 * m)) hA
      have := jr_run F C f w hp hA k (2 * m + 1) (u := sumE (foK iv) e f (twiceJ (foK iv) u) p) hs
      rw [show m * 2 ^ (k + 1) + bitsV w (k + 1) = (2 * m + 1) * 2 ^ k + bitsV w k by simp only [bitsV, hw, cond_true]; rw [e1, Nat.add_mul]; omega]
      exact this

theorem jr_raise (F : Fd K iv e) {f : Fl K} (hf : f.one = 1) {b : K} {A : Ap K} (hA : Pt b A) : Jr (raiseJ (foK iv) f A) A := by
  cases hA with
  | zero => exact .none rfl
  | of h =>
    rename_i x y
    have hr : raiseJ (foK iv) f (pt x y) = ⟨x, y, 1⟩ := by
      show (⟨x, y, f.one⟩ : Jp K) = _
      rw [hf]
    rw [hr]
    exact .of F.one (by show x = x * (1 * 1); exact rg [x]) (by show y = y * (1 * 1 * 1); exact rg [y])
end
end Go.Rq
