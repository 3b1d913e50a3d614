/- Arguments that are records of words and flags, opened. -/
import Derived.Test.YtdbcjiggimppdaaRq09
import Derived.Test.YtdbcjiggimppdaaRq06
namespace Go.Rq
open Go Go.WideShapes

section
variable {P : Program} {w : World} {r : Reach} {base : Nat} {t u : TypeId} {v : Value}

theorem cell_u64 (hu : P.underlying u = some (.int .u64)) (h : Cell.okWide P w r base u v) : ∃ x : BitVec 64, v = uval x := by
  simp only [Cell.okWide, hu] at h
  cases v with
  | int k n =>
    simp only [Cell.ok, hu] at h
    obtain ⟨rfl, h1, h2⟩ := h
    have h1 : (0 : Int) ≤ n := h1
    have h2 : n ≤ 18446744073709551615 := h2
    refine ⟨BitVec.ofNat 64 n.toNat, ?_⟩
    unfold uval
    congr 1
    rw [BitVec.toNat_ofNat, Nat.mod_eq_of_lt (by omega)]
    show n = ((n.toNat : Nat) : Int)
    omega
  | _ => simp [Cell.ok, hu] at h

theorem cell_bool (hu : P.underlying u = some .bool) (h : Cell.okWide P w r base u v) : ∃ b : Bool, v = .bool b := by
  simp only [Cell.okWide, hu] at h
  cases v with
  | bool b => exact ⟨b, rfl⟩
  | _ => simp [Cell.ok, hu] at h

theorem open_cells {ts : List TypeId} (ha : ∃ cs, v = .agg cs ∧ cs.size = P.cellsOf t ∧ Row.okWide P w r base t cs) (hc : P.cellTypes P.depth t = some ts) (hn : P.cellsOf t = ts.length) :
    ∃ l : List Value, v = .agg l.toArray ∧ l.length = ts.length ∧ ∀ (i : Nat) (u : TypeId) (x : Value), ts[i]? = some u → l[i]? = some x → Cell.okWide P w r base u x := by
  obtain ⟨cs, rfl, h1, ts', h2, -, h4⟩ := ha
  rw [hc] at h2
  simp at h2
  subst h2
  refine ⟨cs.toList, by simp, by simp [h1, hn], fun i u x hu hx => ?_⟩
  obtain ⟨u', h5, h6⟩ := h4 i x (by simpa using hx)
  have hi : i < ts.length := (List.getElem?_eq_some_iff.1 hu).1
  rw [Nat.mod_eq_of_lt hi, hu] at h5
  simp at h5
  rw [h5]
  exact h6

theorem okWide_agg {fs : Array Field} (ht : P.underlying t = some (.struct fs)) (h : Value.okWide P w r base t v) : ∃ cs, v = .agg cs ∧ cs.size = P.cellsOf t ∧ Row.okWide P w r base t cs := by
  simp only [Value.okWide, ht] at h
  exact h
theorem okWide_arr {e : TypeId} {n : Nat} (ht : P.underlying t = some (.array n e)) (h : Value.okWide P w r base t v) : ∃ cs, v = .agg cs ∧ cs.size = P.cellsOf t ∧ Row.okWide P w r base t cs := by
  simp only [Value.okWide, ht] at h
  exact h

/-- Six words. -/
theorem open_six (hu : P.underlying u = some (.int .u64)) {l : List Value} (hl : l.length = 6) (h : ∀ (i : Nat) (x : Value), i < 6 → l[i]? = some x → Cell.okWide P w r base u x) : ∃ x : W6, l = c6.val x := by
  match l, hl with
  | [a0, a1, a2, a3, a4, a5], _ =>
    obtain ⟨x0, rfl⟩ := cell_u64 hu (h 0 a0 (by decide) rfl)
    obtain ⟨x1, rfl⟩ := cell_u64 hu (h 1 a1 (by decide) rfl)
    obtain ⟨x2, rfl⟩ := cell_u64 hu (h 2 a2 (by decide) rfl)
    obtain ⟨x3, rfl⟩ := cell_u64 hu (h 3 a3 (by decide) rfl)
    obtain ⟨x4, rfl⟩ := cell_u64 hu (h 4 a4 (by decide) rfl)
    obtain ⟨x5, rfl⟩ := cell_u64 hu (h 5 a5 (by decide) rfl)
    exact ⟨⟨x0, x1, x2, x3, x4, x5⟩, rfl⟩

/-- A number of six words. -/
theorem open_num (hu : P.underlying u = some (.int .u64)) (ha : ∃ cs, v = .agg cs ∧ cs.size = P.cellsOf t ∧ Row.okWide P w r base t cs) (hc : P.cellTypes P.depth t = some [u, u, u, u, u, u]) (hn : P.cellsOf t = 6) : ∃ x : W6, v = c6.agg.val x := by
  obtain ⟨l, rfl, h1, h2⟩ := open_cells ha hc hn
  obtain ⟨x, rfl⟩ := open_six hu h1 (fun i x hi hx => h2 i u x (by
    match i, hi with
    | 0, _ => rfl
    | 1, _ => rfl
    | 2, _ => rfl
    | 3, _ => rfl
    | 4, _ => rfl
    | 5, _ => rfl) hx)
  exact ⟨x, rfl⟩

/-- Twice six words and a flag. -/
theorem open_p1 {b : TypeId} (hu : P.underlying u = some (.int .u64)) (hb : P.underlying b = some .bool) (ha : ∃ cs, v = .agg cs ∧ cs.size = P.cellsOf t ∧ Row.okWide P w r base t cs)
    (hc : P.cellTypes P.depth t = some [u, u, u, u, u, u, u, u, u, u, u, u, b]) (hn : P.cellsOf t = 13) : ∃ x : Ap W6, v = (cAp c6).agg.val x := by
  obtain ⟨l, rfl, h1, h2⟩ := open_cells ha hc hn
  match l, h1 with
  | [a0, a1, a2, a3, a4, a5, b0, b1, b2, b3, b4, b5, z], _ =>
    have g : ∀ (i : Nat) (x : Value), i < 12 → [a0, a1, a2, a3, a4, a5, b0, b1, b2, b3, b4, b5, z][i]? = some x → Cell.okWide P w r base u x := fun i x hi hx => h2 i u x (by
      match i, hi with
      | 0, _ => rfl
      | 1, _ => rfl
      | 2, _ => rfl
      | 3, _ => rfl
      | 4, _ => rfl
      | 5, _ => rfl
      | 6, _ => rfl
      | 7, _ => rfl
      | 8, _ => rfl
      | 9, _ => rfl
      | 10, _ => rfl
      | 11, _ => rfl) hx
    obtain ⟨x, hx⟩ := open_six (l := [a0, a1, a2, a3, a4, a5]) hu rfl (fun i x hi hx => g i x (by omega) (by
      match i, hi, hx with
      | 0, _, hx => exact hx
      | 1, _, hx => exact hx
      | 2, _, hx => exact hx
      | 3, _, hx => exact hx
      | 4, _, hx => exact hx
      | 5, _, hx => exact hx))
    obtain ⟨y, hy⟩ := open_six (l := [b0, b1, b2, b3, b4, b5]) hu rfl (fun i x hi hx => g (6 + i) x (by omega) (by
      match i, hi, hx with
      | 0, _, hx => exact hx
      | 1, _, hx => exact hx
      | 2, _, hx => exact hx
      | 3, _, hx => exact hx
      | 4, _, hx => exact hx
      | 5, _, hx => exact hx))
    obtain ⟨c, rfl⟩ := cell_bool hb (h2 12 b z rfl rfl)
    refine ⟨⟨x, y, c⟩, ?_⟩
    have e : [a0, a1, a2, a3, a4, a5, b0, b1, b2, b3, b4, b5, Value.bool c] = c6.val x ++ (c6.val y ++ [Value.bool c]) := by
      rw [← hx, ← hy]; rfl
    show Value.agg [a0, a1, a2, a3, a4, a5, b0, b1, b2, b3, b4, b5, Value.bool c].toArray = Value.agg (c6.val x ++ (c6.val y ++ [Value.bool c])).toArray
    rw [e]
/-- Four times six words and a flag. -/
theorem open_p2 {b : TypeId} (hu : P.underlying u = some (.int .u64)) (hb : P.underlying b = some .bool) (ha : ∃ cs, v = .agg cs ∧ cs.size = P.cellsOf t ∧ Row.okWide P w r base t cs)
    (hc : P.cellTypes P.depth t = some [u, u, u, u, u, u, u, u, u, u, u, u, u, u, u, u, u, u, u, u, u, u, u, u, b]) (hn : P.cellsOf t = 25) : ∃ x : Ap D6, v = (cAp c12).agg.val x := by
  obtain ⟨l, rfl, h1, h2⟩ := open_cells ha hc hn
  match l, h1 with
  | [a0, a1, a2, a3, a4, a5, b0, b1, b2, b3, b4, b5, c0, c1, c2, c3, c4, c5, d0, d1, d2, d3, d4, d5, z], _ =>
    have g : ∀ (i : Nat) (x : Value), i < 24 → [a0, a1, a2, a3, a4, a5, b0, b1, b2, b3, b4, b5, c0, c1, c2, c3, c4, c5, d0, d1, d2, d3, d4, d5, z][i]? = some x → Cell.okWide P w r base u x := fun i x hi hx => h2 i u x (by
      show (List.replicate 24 u ++ [b])[i]? = some u
      rw [List.getElem?_append_left (by simpa using hi), List.getElem?_replicate, if_pos hi]) hx
    obtain ⟨x0, hx0⟩ := open_six (l := [a0, a1, a2, a3, a4, a5]) hu rfl (fun i x hi hx => g (0 + i) x (by omega) (by
      match i, hi, hx with
      | 0, _, hx => exact hx
      | 1, _, hx => exact hx
      | 2, _, hx => exact hx
      | 3, _, hx => exact hx
      | 4, _, hx => exact hx
      | 5, _, hx => exact hx))
    obtain ⟨x1, hx1⟩ := open_six (l := [b0, b1, b2, b3, b4, b5]) hu rfl (fun i x hi hx => g (6 + i) x (by omega) (by
      match i, hi, hx with
      | 0, _, hx => exact hx
      | 1, _, hx => exact hx
      | 2, _, hx => exact hx
      | 3, _, hx => exact hx
      | 4, _, hx => exact hx
      | 5, _, hx => exact hx))
    obtain ⟨y0, hy0⟩ := open_six (l := [c0, c1, c2, c3, c4, c5]) hu rfl (fun i x hi hx => g (12 + i) x (by omega) (by
      match i, hi, hx with
      | 0, _, hx => exact hx
      | 1, _, hx => exact hx
      | 2, _, hx => exact hx
      | 3, _, hx => exact hx
      | 4, _, hx => exact hx
      | 5, _, hx => exact hx))
    obtain ⟨y1, hy1⟩ := open_six (l := [d0, d1, d2, d3, d4, d5]) hu rfl (fun i x hi hx => g (18 + i) x (by omega) (by
      match i, hi, hx with
      | 0, _, hx => exact hx
      | 1, _, hx => exact hx
      | 2, _, hx => exact hx
      | 3, _, hx => exact hx
      | 4, _, hx => exact hx
      | 5, _, hx => exact hx))
    obtain ⟨c, rfl⟩ := cell_bool hb (h2 24 b z rfl rfl)
    refine ⟨⟨⟨x0, x1⟩, ⟨y0, y1⟩, c⟩, ?_⟩
    have e : [a0, a1, a2, a3, a4, a5, b0, b1, b2, b3, b4, b5, c0, c1, c2, c3, c4, c5, d0, d1, d2, d3, d4, d5, Value.bool c] = (c6.val x0 ++ c6.val x1) ++ ((c6.val y0 ++ c6.val y1) ++ [Value.bool c]) := by
      rw [← hx0, ← hx1, ← hy0, ← hy1]; rfl
    show Value.agg [a0, a1, a2, a3, a4, a5, b0, b1, b2, b3, b4, b5, c0, c1, c2, c3, c4, c5, d0, d1, d2, d3, d4, d5, Value.bool c].toArray = Value.agg ((c6.val x0 ++ c6.val x1) ++ ((c6.val y0 ++ c6.val y1) ++ [Value.bool c])).toArray
    rw [e]
end
end Go.Rq
