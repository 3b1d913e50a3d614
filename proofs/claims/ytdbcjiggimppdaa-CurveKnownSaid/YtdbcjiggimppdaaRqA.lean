/- An abstract machine beside the model: abstract values, heaps, and how they stand to the model's worlds. -/
import Derived.Orders
import Derived.Below
import Derived.KernelRfl
namespace Go.Rq
open Go

inductive AV where
  | any
  | v (x : Value)
  | lit (b : Bool)
  | u (x : BitVec 64)
  | bit (b : Bool)
  | ptr (id off : Nat)
  | slc (id off len cap : Nat)
  | own (id es k len : Nat)
  | agg (cs : List AV)
  | tup (cs : List AV)
  | fn (f : Fn) (first cap : List AV)
  | ifc (t : TypeId) (x : AV)
  deriving Inhabited

/-- Which block a name stands for, and how many cells that block has. -/
structure Ren where
  f : Nat → Option Nat
  cells : Nat → Nat

instance : CoeFun Ren (fun _ => Nat → Option Nat) := ⟨Ren.f⟩

def Ren.cut (ρ : Ren) (n : Nat) : Ren := ⟨fun id => if id < n then ρ.f id else none, ρ.cells⟩

def Ren.empty : Ren := ⟨fun _ => none, fun _ => 0⟩

theorem Ren.cut_lt {ρ : Ren} {n id : Nat} (h : id < n) : ρ.cut n id = ρ id := if_pos h
theorem Ren.cut_ge {ρ : Ren} {n id : Nat} (h : n ≤ id) : ρ.cut n id = none := if_neg (by omega)
theorem Ren.cut_some {ρ : Ren} {n id b : Nat} (h : ρ.cut n id = some b) : id < n ∧ ρ id = some b := by
  by_cases hn : id < n
  · rw [Ren.cut_lt hn] at h; exact ⟨hn, h⟩
  · rw [Ren.cut_ge (by omega)] at h; cases h

/-- The value of a word. -/
def uval (x : BitVec 64) : Value := .int .u64 (Int.ofNat x.toNat)

def bitW (b : Bool) : BitVec 64 := bif b then 1#64 else 0#64

inductive Rv (ρ : Ren) : AV → Value → Prop
  | any (x : Value) : Rv ρ .any x
  | v (x : Value) : Rv ρ (.v x) x
  | lit (b : Bool) : Rv ρ (.lit b) (.bool b)
  | u (x : BitVec 64) : Rv ρ (.u x) (uval x)
  | bit (b : Bool) : Rv ρ (.bit b) (uval (bitW b))
  | ptr {id off b : Nat} (h : ρ id = some b) : Rv ρ (.ptr id off) (.pointer (some ⟨b, off, none⟩))
  | slc {id off len cap b : Nat} (h : ρ id = some b) : Rv ρ (.slc id off len cap) (.slice (some ⟨b, off, none⟩) len cap)
  | own {id es k len b cap : Nat} (h : ρ id = some b) (hc : cap * es = ρ.cells id) (hl : k + len ≤ cap) (hm : cap ≤ maxLen) : Rv ρ (.own id es k len) (.slice (some ⟨b, k * es, none⟩) len (cap - k))
  | agg {cs : List AV} {xs : Array Value} (hl : cs.length = xs.size)
      (h : ∀ (i : Nat) (a : AV) (x : Value), cs[i]? = some a → xs[i]? = some x → Rv ρ a x) : Rv ρ (.agg cs) (.agg xs)
  | tup {cs : List AV} {xs : Array Value} (hl : cs.length = xs.size)
      (h : ∀ (i : Nat) (a : AV) (x : Value), cs[i]? = some a → xs[i]? = some x → Rv ρ a x) : Rv ρ (.tup cs) (.tuple xs)
  | fn {f : Fn} {as bs : List AV} {xs ys : Array Value} (hl : as.length = xs.size)
      (h : ∀ (i : Nat) (a : AV) (x : Value), as[i]? = some a → xs[i]? = some x → Rv ρ a x) (kl : bs.length = ys.size)
      (k : ∀ (i : Nat) (a : AV) (x : Value), bs[i]? = some a → ys[i]? = some x → Rv ρ a x) : Rv ρ (.fn f as bs) (.func f xs ys)
  | ifc {t : TypeId} {a : AV} {x : Value} (h : Rv ρ a x) : Rv ρ (.ifc t a) (.iface t x)

/-- The later naming knows all that the earlier one knew. -/
def Ren.le (ρ ρ' : Ren) : Prop := ∀ id b, ρ id = some b → ρ' id = some b ∧ ρ'.cells id = ρ.cells id

theorem Ren.le_refl (ρ : Ren) : ρ.le ρ := fun _ _ h => ⟨h, rfl⟩
theorem Ren.le_trans {ρ σ τ : Ren} (h : ρ.le σ) (k : σ.le τ) : ρ.le τ := fun _ _ e => ⟨(k _ _ (h _ _ e).1).1, (k _ _ (h _ _ e).1).2.trans (h _ _ e).2⟩
theorem Ren.cut_le (ρ : Ren) (n : Nat) : (ρ.cut n).le ρ := fun _ _ h => ⟨(Ren.cut_some h).2, rfl⟩

theorem Rv.mono {ρ ρ' : Ren} (hle : ρ.le ρ') {a : AV} {x : Value} (h : Rv ρ a x) : Rv ρ' a x := by
  induction h with
  | any x => exact .any x
  | v x => exact .v x
  | lit b => exact .lit b
  | u x => exact .u x
  | bit b => exact .bit b
  | ptr h => exact .ptr (hle _ _ h).1
  | slc h => exact .slc (hle _ _ h).1
  | own h hc hl hm => exact .own (hle _ _ h).1 (hc.trans (hle _ _ h).2.symm) hl hm
  | agg hl _ ih => exact .agg hl ih
  | tup hl _ ih => exact .tup hl ih
  | fn hl _ kl _ ih ik => exact .fn hl ih kl ik
  | ifc _ ih => exact .ifc ih

/-- Lists of abstract values and lists of values. -/
def Rvs (ρ : Ren) (as : List AV) (xs : List Value) : Prop :=
  as.length = xs.length ∧ ∀ (i : Nat) (a : AV) (x : Value), as[i]? = some a → xs[i]? = some x → Rv ρ a x

theorem Rvs.mono {ρ ρ' : Ren} (hle : ρ.le ρ') {a : List AV} {x : List Value} (h : Rvs ρ a x) : Rvs ρ' a x :=
  ⟨h.1, fun i a x ha hx => (h.2 i a x ha hx).mono hle⟩

theorem Rvs.nil {ρ : Ren} : Rvs ρ [] [] := ⟨rfl, fun i a x h => by simp at h⟩

theorem Rvs.cons {ρ : Ren} {a : AV} {x : Value} {as : List AV} {xs : List Value} (h : Rv ρ a x) (t : Rvs ρ as xs) : Rvs ρ (a :: as) (x :: xs) := by
  refine ⟨by simp [t.1], fun i b y hb hy => ?_⟩
  cases i with
  | zero => simp at hb hy; subst hb; subst hy; exact h
  | succ i => simp at hb hy; exact t.2 i b y hb hy

theorem Rvs.uncons {ρ : Ren} {a : AV} {as : List AV} {xs : List Value} (h : Rvs ρ (a :: as) xs) :
    ∃ x ys, xs = x :: ys ∧ Rv ρ a x ∧ Rvs ρ as ys := by
  cases xs with
  | nil => have := h.1; simp at this
  | cons x ys =>
    refine ⟨x, ys, rfl, h.2 0 a x rfl rfl, by simpa using h.1, fun i b y hb hy => h.2 (i + 1) b y (by simpa using hb) (by simpa using hy)⟩

theorem Rvs.unnil {ρ : Ren} {xs : List Value} (h : Rvs ρ [] xs) : xs = [] := by
  cases xs with
  | nil => rfl
  | cons x ys => have := h.1; simp at this

theorem Rvs.getD {ρ : Ren} {as : List AV} {xs : List Value} (h : Rvs ρ as xs) {i : Nat} {a : AV} (ha : as[i]? = some a) :
    ∃ x, xs[i]? = some x ∧ Rv ρ a x := by
  have hi : i < as.length := (List.getElem?_eq_some_iff.1 ha).1
  have hj : i < xs.length := by rw [← h.1]; exact hi
  exact ⟨xs[i], List.getElem?_eq_getElem hj, h.2 i a _ ha (List.getElem?_eq_getElem hj)⟩

theorem Rvs.drop {ρ : Ren} {as : List AV} {xs : List Value} (h : Rvs ρ as xs) (n : Nat) : Rvs ρ (as.drop n) (xs.drop n) :=
  ⟨by simp [h.1], fun i a x ha hx => h.2 (n + i) a x (by simpa using ha) (by simpa using hx)⟩

theorem Rvs.take {ρ : Ren} {as : List AV} {xs : List Value} (h : Rvs ρ as xs) (n : Nat) : Rvs ρ (as.take n) (xs.take n) := by
  refine ⟨by simp [h.1], fun i a x ha hx => ?_⟩
  rw [List.getElem?_take] at ha hx
  split at ha
  · rename_i hlt; rw [if_pos hlt] at hx; exact h.2 i a x ha hx
  · cases ha

theorem Rvs.append {ρ : Ren} {as bs : List AV} {xs ys : List Value} (h : Rvs ρ as xs) (k : Rvs ρ bs ys) : Rvs ρ (as ++ bs) (xs ++ ys) := by
  refine ⟨by simp [h.1, k.1], fun i a x ha hx => ?_⟩
  rcases Nat.lt_or_ge i as.length with hi | hi
  · rw [List.getElem?_append_left hi] at ha
    rw [List.getElem?_append_left (by rw [← h.1]; exact hi)] at hx
    exact h.2 i a x ha hx
  · rw [List.getElem?_append_right hi] at ha
    rw [List.getElem?_append_right (by rw [← h.1]; exact hi)] at hx
    exact k.2 _ a x ha (by rw [h.1]; exact hx)

theorem Rvs.set {ρ : Ren} {as : List AV} {xs : List Value} (h : Rvs ρ as xs) {a : AV} {x : Value} (k : Rv ρ a x) (n : Nat) :
    Rvs ρ (as.set n a) (xs.set n x) := by
  refine ⟨by simp [h.1], fun i b y hb hy => ?_⟩
  rw [List.getElem?_set] at hb hy
  by_cases hi : n = i
  · subst hi
    rw [if_pos rfl] at hb hy
    split at hb
    · rename_i hlt
      rw [if_pos (by rw [← h.1]; exact hlt)] at hy
      simp at hb hy; subst hb; subst hy; exact k
    · cases hb
  · rw [if_neg hi] at hb hy; exact h.2 i b y hb hy

theorem Rv.agg_iff {ρ : Ren} {cs : List AV} {y : Value} (h : Rv ρ (.agg cs) y) : ∃ xs : Array Value, y = .agg xs ∧ Rvs ρ cs xs.toList := by
  cases h with
  | agg hl h => exact ⟨_, rfl, by simpa using hl, fun i a x ha hx => h i a x ha (by simpa using hx)⟩

theorem Rv.agg_mk {ρ : Ren} {cs : List AV} {xs : List Value} (h : Rvs ρ cs xs) : Rv ρ (.agg cs) (.agg xs.toArray) :=
  .agg (by simpa using h.1) fun i a x ha hx => h.2 i a x ha (by simpa using hx)

theorem Rv.tup_iff {ρ : Ren} {cs : List AV} {y : Value} (h : Rv ρ (.tup cs) y) : ∃ xs : Array Value, y = .tuple xs ∧ Rvs ρ cs xs.toList := by
  cases h with
  | tup hl h => exact ⟨_, rfl, by simpa using hl, fun i a x ha hx => h i a x ha (by simpa using hx)⟩

theorem Rv.tup_mk {ρ : Ren} {cs : List AV} {xs : List Value} (h : Rvs ρ cs xs) : Rv ρ (.tup cs) (.tuple xs.toArray) :=
  .tup (by simpa using h.1) fun i a x ha hx => h.2 i a x ha (by simpa using hx)

theorem Rv.fn_iff {ρ : Ren} {f : Fn} {as bs : List AV} {y : Value} (h : Rv ρ (.fn f as bs) y) :
    ∃ xs ys : Array Value, y = .func f xs ys ∧ Rvs ρ as xs.toList ∧ Rvs ρ bs ys.toList := by
  cases h with
  | fn hl h kl k =>
    exact ⟨_, _, rfl, ⟨by simpa using hl, fun i a x ha hx => h i a x ha (by simpa using hx)⟩, by simpa using kl, fun i a x ha hx => k i a x ha (by simpa using hx)⟩

theorem Rv.fn_mk {ρ : Ren} {f : Fn} {as bs : List AV} {xs ys : List Value} (h : Rvs ρ as xs) (k : Rvs ρ bs ys) :
    Rv ρ (.fn f as bs) (.func f xs.toArray ys.toArray) :=
  .fn (by simpa using h.1) (fun i a x ha hx => h.2 i a x ha (by simpa using hx)) (by simpa using k.1) (fun i a x ha hx => k.2 i a x ha (by simpa using hx))

/-! Exact values. -/

/-- The value of an exact scalar. -/
def scal : AV → Option Value
  | .v x => some x
  | .lit b => some (.bool b)
  | .u x => some (uval x)
  | .bit b => some (uval (bitW b))
  | .fn f [] [] => some (.func f #[] #[])
  | _ => none

theorem Rv.scal_eq {ρ : Ren} {a : AV} {x y : Value} (h : Rv ρ a x) (e : scal a = some y) : x = y := by
  unfold scal at e
  split at e
  · cases h; simpa using e
  · cases h; simpa using e
  · cases h; simpa using e
  · cases h; simpa using e
  · obtain ⟨xs, ys, rfl, hx, hy⟩ := h.fn_iff
    have h1 := hx.unnil
    have h2 := hy.unnil
    simp at h1 h2; subst h1; subst h2; simpa using e
  · cases e

theorem Rv.of_scal {ρ : Ren} {a : AV} {y : Value} (e : scal a = some y) : Rv ρ a y := by
  unfold scal at e
  split at e
  · simp at e; subst e; exact .v _
  · simp at e; subst e; exact .lit _
  · simp at e; subst e; exact .u _
  · simp at e; subst e; exact .bit _
  · simp at e; subst e; exact .fn_mk .nil .nil
  · cases e

/-- All of a list are exact: their values. -/
def flats : List AV → Option (List Value)
  | [] => some []
  | a :: t => match scal a with
    | none => none
    | some x => match flats t with
      | some l => some (x :: l)
      | none => none

/-- A part of a tuple, if exact. -/
def flatA : AV → Option Value
  | .agg cs => match flats cs with
    | some l => some (.agg l.toArray)
    | none => none
  | .ifc t (.v x) => some (.iface t x)
  | a => scal a

def flatsA : List AV → Option (List Value)
  | [] => some []
  | a :: t => match flatA a with
    | none => none
    | some x => match flatsA t with
      | some l => some (x :: l)
      | none => none

def flat : AV → Option Value
  | .agg cs => match flats cs with
    | some l => some (.agg l.toArray)
    | none => none
  | .tup cs => match flatsA cs with
    | some l => some (.tuple l.toArray)
    | none => none
  | .ifc t (.v x) => some (.iface t x)
  | .fn f [] [] => some (.func f #[] #[])
  | a => scal a

theorem Rvs.flats_eq {ρ : Ren} : ∀ {as : List AV} {xs l : List Value}, Rvs ρ as xs → flats as = some l → xs = l
  | [], xs, l, h, e => by simp [flats] at e; subst e; exact h.unnil
  | a :: t, xs, l, h, e => by
    obtain ⟨x, ys, rfl, hx, ht⟩ := h.uncons
    simp only [flats] at e
    split at e
    · cases e
    · rename_i y hy
      split at e
      · rename_i m hm; simp at e; subst e; rw [hx.scal_eq hy, Rvs.flats_eq ht hm]
      · cases e

theorem Rvs.of_flats {ρ : Ren} : ∀ {as : List AV} {l : List Value}, flats as = some l → Rvs ρ as l
  | [], l, e => by simp [flats] at e; subst e; exact .nil
  | a :: t, l, e => by
    simp only [flats] at e
    split at e
    · cases e
    · rename_i y hy
      split at e
      · rename_i m hm; simp at e; subst e; exact .cons (.of_scal hy) (Rvs.of_flats hm)
      · cases e

theorem Rv.flatA_eq {ρ : Ren} {a : AV} {x y : Value} (h : Rv ρ a x) (e : flatA a = some y) : x = y := by
  unfold flatA at e
  split at e
  · split at e
    · rename_i l hl
      obtain ⟨xs, rfl, hx⟩ := h.agg_iff
      have := hx.flats_eq hl
      simp at e; subst e; subst this; simp
    · cases e
  · cases h with | ifc h => cases h; simpa using e
  · exact h.scal_eq e

theorem Rv.of_flatA {ρ : Ren} {a : AV} {y : Value} (e : flatA a = some y) : Rv ρ a y := by
  unfold flatA at e
  split at e
  · split at e
    · rename_i l hl; simp at e; subst e; exact .agg_mk (.of_flats hl)
    · cases e
  · simp at e; subst e; exact .ifc (.v _)
  · exact .of_scal e

theorem Rvs.flatsA_eq {ρ : Ren} : ∀ {as : List AV} {xs l : List Value}, Rvs ρ as xs → flatsA as = some l → xs = l
  | [], xs, l, h, e => by simp [flatsA] at e; subst e; exact h.unnil
  | a :: t, xs, l, h, e => by
    obtain ⟨x, ys, rfl, hx, ht⟩ := h.uncons
    simp only [flatsA] at e
    split at e
    · cases e
    · rename_i y hy
      split at e
      · rename_i m hm; simp at e; subst e; rw [hx.flatA_eq hy, Rvs.flatsA_eq ht hm]
      · cases e

theorem Rvs.of_flatsA {ρ : Ren} : ∀ {as : List AV} {l : List Value}, flatsA as = some l → Rvs ρ as l
  | [], l, e => by simp [flatsA] at e; subst e; exact .nil
  | a :: t, l, e => by
    simp only [flatsA] at e
    split at e
    · cases e
    · rename_i y hy
      split at e
      · rename_i m hm; simp at e; subst e; exact .cons (.of_flatA hy) (Rvs.of_flatsA hm)
      · cases e

theorem Rv.flat_eq {ρ : Ren} {a : AV} {x y : Value} (h : Rv ρ a x) (e : flat a = some y) : x = y := by
  unfold flat at e
  split at e
  · split at e
    · rename_i l hl
      obtain ⟨xs, rfl, hx⟩ := h.agg_iff
      have := hx.flats_eq hl
      simp at e; subst e; subst this; simp
    · cases e
  · split at e
    · rename_i l hl
      obtain ⟨xs, rfl, hx⟩ := h.tup_iff
      have := hx.flatsA_eq hl
      simp at e; subst e; subst this; simp
    · cases e
  · cases h with | ifc h => cases h; simpa using e
  · obtain ⟨xs, ys, rfl, hx, hy⟩ := h.fn_iff
    have h1 := hx.unnil
    have h2 := hy.unnil
    simp at h1 h2; subst h1; subst h2; simpa using e
  · exact h.scal_eq e

theorem Rv.of_flat {ρ : Ren} {a : AV} {y : Value} (e : flat a = some y) : Rv ρ a y := by
  unfold flat at e
  split at e
  · split at e
    · rename_i l hl; simp at e; subst e; exact .agg_mk (.of_flats hl)
    · cases e
  · split at e
    · rename_i l hl; simp at e; subst e; exact .tup_mk (.of_flatsA hl)
    · cases e
  · simp at e; subst e; exact .ifc (.v _)
  · simp at e; subst e; exact .fn_mk .nil .nil
  · exact .of_scal e

/-- The cells of a value. -/
def cellsOf : AV → Option (List AV)
  | .agg cs => some cs
  | .v (.agg xs) => some (xs.toList.map .v)
  | .any => none
  | x => some [x]

theorem Rvs.map_v {ρ : Ren} (xs : List Value) : Rvs ρ (xs.map .v) xs := by
  induction xs with
  | nil => exact .nil
  | cons x t ih => exact .cons (.v x) ih

theorem Rv.cells {ρ : Ren} {a : AV} {x : Value} {cs : List AV} (h : Rv ρ a x) (e : cellsOf a = some cs) : Rvs ρ cs x.cells.toList := by
  unfold cellsOf at e
  split at e
  · obtain ⟨xs, rfl, hx⟩ := h.agg_iff
    simp at e; subst e; simpa [Value.cells] using hx
  · rename_i xs; cases h; simp at e; subst e; simpa [Value.cells] using Rvs.map_v _
  · cases e
  · rename_i h1 h2 h3
    simp at e; subst e
    have : x.cells = #[x] := by
      cases h with
      | any => exact absurd rfl h3
      | v x => cases x <;> first | rfl | exact absurd rfl (h2 _)
      | lit b => rfl
      | u x => rfl
      | bit b => rfl
      | ptr _ => rfl
      | slc _ => rfl
      | own _ _ _ _ => rfl
      | agg _ _ => exact absurd rfl (h1 _)
      | tup _ _ => rfl
      | fn _ _ _ _ => rfl
      | ifc _ => rfl
    rw [this]
    exact .cons h .nil

end Go.Rq
