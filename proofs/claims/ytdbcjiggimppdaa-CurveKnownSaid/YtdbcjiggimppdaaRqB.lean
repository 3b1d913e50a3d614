/- The abstract machine's heap and how it stands to a world; small facts on the model's words. -/
import Derived.Test.YtdbcjiggimppdaaRqA
namespace Go.Rq
open Go

structure Blk where
  wr : Bool
  ty : TypeId
  cs : List AV

abbrev AH := List (Nat × Option Blk)

def AH.get : AH → Nat → Option Blk
  | [], _ => none
  | (i, b) :: t, id => bif Nat.beq i id then b else AH.get t id

theorem AH.get_cons (i : Nat) (b : Option Blk) (t : AH) (id : Nat) : AH.get ((i, b) :: t) id = if i = id then b else AH.get t id := by
  simp only [AH.get]
  by_cases h : i = id
  · subst h; simp
  · have : Nat.beq i id = false := by
      cases hb : Nat.beq i id with
      | false => rfl
      | true => exact absurd (Nat.eq_of_beq_eq_true hb) h
    simp [this, h]

def RB (ρ : Ren) (B : Blk) (o : Obj) : Prop :=
  ∃ xs fr, o = .cells xs B.ty fr ∧ (B.wr = true → fr = (0, 0)) ∧ B.cs.length ≤ xs.size ∧
    ∀ (i : Nat) (a : AV) (x : Value), B.cs[i]? = some a → xs[i]? = some x → Rv ρ a x

theorem RB.mono {ρ ρ' : Ren} (hle : ρ.le ρ') {B : Blk} {o : Obj} (h : RB ρ B o) : RB ρ' B o := by
  obtain ⟨xs, fr, ho, hfr, hl, hc⟩ := h
  exact ⟨xs, fr, ho, hfr, hl, fun i a x ha hx => (hc i a x ha hx).mono hle⟩

/-- What stays: blocks that are as they were, and the streams. -/
structure Fr where
  blocks : Nat → Option Obj
  os : Os
  tape : Nat → Question → Nat
  out : Array (Nat × ByteArray)

def count : Obj → Nat
  | .cells xs _ _ => xs.size
  | _ => 0

structure RW (F : Fr) (ρ : Ren) (h : AH) (w : World) : Prop where
  blk : ∀ id B, h.get id = some B → ∃ b o, ρ id = some b ∧ w.heap[b]? = some o ∧ RB ρ B o ∧ (B.wr = true → F.blocks b = none) ∧ count o = ρ.cells id
  inj : ∀ id id' B B' b, h.get id = some B → h.get id' = some B' → B.wr = true → ρ id = some b → ρ id' = some b → id = id'
  fr : ∀ b o, F.blocks b = some o → w.heap[b]? = some o
  os : w.os = F.os
  tape : w.tape = F.tape
  out : w.output = F.out

def AH.eqv (h h' : AH) : Prop := ∀ id, h.get id = h'.get id

theorem RW.congr {F : Fr} {ρ : Ren} {h h' : AH} {w : World} (e : ∀ id, h'.get id = h.get id) (r : RW F ρ h w) : RW F ρ h' w :=
  ⟨fun id B hb => r.blk id B (by rw [← e]; exact hb), fun id id' B B' b hb hb' => r.inj id id' B B' b (by rw [← e]; exact hb) (by rw [← e]; exact hb'),
   r.fr, r.os, r.tape, r.out⟩

/-- Fewer blocks are named. -/
theorem RW.sub {F : Fr} {ρ : Ren} {h h' : AH} {w : World} (e : ∀ id B, h'.get id = some B → h.get id = some B) (r : RW F ρ h w) : RW F ρ h' w :=
  ⟨fun id B hb => r.blk id B (e _ _ hb), fun id id' B B' b hb hb' => r.inj id id' B B' b (e _ _ hb) (e _ _ hb'), r.fr, r.os, r.tape, r.out⟩

/-- A draw. -/
theorem RW.drawn {F : Fr} {ρ : Ren} {h : AH} {w : World} (r : RW F ρ h w) (n : Nat) : RW F ρ h { w with drawn := n } :=
  ⟨r.blk, r.inj, r.fr, r.os, r.tape, r.out⟩

def Ren.upd (ρ : Ren) (id b n : Nat) : Ren := ⟨fun j => if j = id then some b else ρ j, fun j => if j = id then n else ρ.cells j⟩

theorem Ren.le_upd {ρ : Ren} {id b n : Nat} (h : ρ id = none) : ρ.le (ρ.upd id b n) := fun j c e => by
  have hj : j ≠ id := by rintro rfl; rw [h] at e; cases e
  exact ⟨by simp [Ren.upd, hj]; exact e, by simp [Ren.upd, hj]⟩

theorem Ren.upd_same (ρ : Ren) (id b n : Nat) : ρ.upd id b n id = some b := by simp [Ren.upd]
theorem Ren.upd_cells (ρ : Ren) (id b n : Nat) : (ρ.upd id b n).cells id = n := by simp [Ren.upd]
theorem Ren.upd_ne (ρ : Ren) {id b n j : Nat} (h : j ≠ id) : ρ.upd id b n j = ρ j := by simp [Ren.upd, h]

theorem RW.lt {F : Fr} {ρ : Ren} {h : AH} {w : World} (r : RW F ρ h w) {id : Nat} {B : Blk} (hb : h.get id = some B) : ∃ b, ρ id = some b ∧ b < w.heap.size := by
  obtain ⟨b, o, hr, ho, _⟩ := r.blk id B hb
  exact ⟨b, hr, (Array.getElem?_eq_some_iff.1 ho).1⟩

/-- A new block. -/
theorem RW.allocP {F : Fr} {ρ : Ren} {h : AH} {w : World} (r : RW F ρ h w) {id : Nat} (hid : ρ id = none) (wr : Bool) (ty : TypeId) (cs : List AV) (xs : List Value)
    (hl : cs.length ≤ xs.length) (hx : ∀ (i : Nat) (a : AV) (x : Value), cs[i]? = some a → xs[i]? = some x → Rv ρ a x) :
    RW F (ρ.upd id w.heap.size xs.length) ((id, some ⟨wr, ty, cs⟩) :: h) { w with heap := w.heap.push (.cells xs.toArray ty) } := by
  have hle := Ren.le_upd (b := w.heap.size) (n := xs.length) hid
  refine ⟨fun j B hj => ?_, fun j j' B B' b hj hj' hw hb hb' => ?_, fun b o ho => ?_, r.os, r.tape, r.out⟩
  · rw [AH.get_cons] at hj
    split at hj
    · rename_i e; subst e; simp at hj; subst hj
      refine ⟨w.heap.size, .cells xs.toArray ty (0, 0), Ren.upd_same _ _ _ _, by simp, ⟨xs.toArray, (0, 0), rfl, fun _ => rfl, by simpa using hl, ?_⟩, fun _ => ?_, by simp [count, Ren.upd_cells]⟩
      · intro i a x ha hx'
        exact (hx i a x ha (by simpa using hx')).mono hle
      · cases hF : F.blocks w.heap.size with
        | none => rfl
        | some o => have := r.fr _ _ hF; simp at this
    · rename_i e
      obtain ⟨b, o, hb, ho, hB, hk⟩ := r.blk j B hj
      have hlt := (Array.getElem?_eq_some_iff.1 ho).1
      refine ⟨b, o, (hle _ _ hb).1, ?_, hB.mono hle, hk.1, hk.2.trans (hle _ _ hb).2.symm⟩
      show (w.heap.push _)[b]? = _
      rw [Array.getElem?_push, if_neg (by omega)]; exact ho
  · have key : ∀ k C, AH.get ((id, some ⟨wr, ty, cs⟩) :: h) k = some C → ρ.upd id w.heap.size xs.length k = some w.heap.size → k = id := by
      intro k C hk hk'
      rw [AH.get_cons] at hk
      split at hk
      · rename_i e; exact e.symm
      · rename_i e
        obtain ⟨c, hc, hlt⟩ := r.lt hk
        have := (hle _ _ hc).1
        rw [hk'] at this; simp at this; omega
    by_cases hs : b = w.heap.size
    · subst hs; rw [key j B hj hb, key j' B' hj' hb']
    · have n1 : j ≠ id := fun e => by subst e; rw [Ren.upd_same] at hb; simp at hb; exact hs hb.symm
      have n2 : j' ≠ id := fun e => by subst e; rw [Ren.upd_same] at hb'; simp at hb'; exact hs hb'.symm
      rw [AH.get_cons, if_neg (fun e => n1 e.symm)] at hj
      rw [AH.get_cons, if_neg (fun e => n2 e.symm)] at hj'
      rw [Ren.upd_ne _ n1] at hb
      rw [Ren.upd_ne _ n2] at hb'
      exact r.inj j j' B B' b hj hj' hw hb hb'
  · have := r.fr b o ho
    have hlt := (Array.getElem?_eq_some_iff.1 this).1
    show (w.heap.push _)[b]? = _
    rw [Array.getElem?_push, if_neg (by omega)]; exact this

theorem RW.alloc {F : Fr} {ρ : Ren} {h : AH} {w : World} (r : RW F ρ h w) {id : Nat} (hid : ρ id = none) (wr : Bool) (ty : TypeId) (cs : List AV) (xs : List Value)
    (hx : Rvs ρ cs xs) :
    RW F (ρ.upd id w.heap.size xs.length) ((id, some ⟨wr, ty, cs⟩) :: h) { w with heap := w.heap.push (.cells xs.toArray ty) } :=
  r.allocP hid wr ty cs xs (by rw [hx.1]; exact Nat.le_refl _) hx.2

/-- The cells from a place on are written over. -/
def setAt {α : Type} (cs : List α) (off : Nat) : List α → List α
  | [] => cs
  | x :: t => setAt (cs.set off x) (off + 1) t

theorem setAt_length {α : Type} (l : List α) : ∀ (cs : List α) (off : Nat), (setAt cs off l).length = cs.length := by
  induction l with
  | nil => intros; rfl
  | cons x t ih => intro cs off; simp [setAt, ih]

theorem Rvs.setAt {ρ : Ren} : ∀ {as : List AV} {xs : List Value}, Rvs ρ as xs → ∀ {cs : List AV} {ys : List Value} (off : Nat), Rvs ρ cs ys →
    Rvs ρ (Rq.setAt cs off as) (Rq.setAt ys off xs) := by
  intro as
  induction as with
  | nil => intro xs h cs ys off k; rw [h.unnil]; exact k
  | cons a t ih =>
    intro xs h cs ys off k
    obtain ⟨x, zs, rfl, hx, ht⟩ := h.uncons
    exact ih ht (off + 1) (k.set hx off)

/-- A store into a block. -/
theorem RW.store {F : Fr} {ρ : Ren} {h : AH} {w w' : World} (r : RW F ρ h w) {id b : Nat} {B : Blk} (hb : h.get id = some B) (hρ : ρ id = some b) (hwr : B.wr = true)
    {xs : Array Value} (hx : w.heap[b]? = some (.cells xs B.ty (0, 0))) (cs' : List AV) (ys : Array Value)
    (hsz : ys.size = xs.size) (hys : cs'.length ≤ ys.size) (hrel : ∀ (i : Nat) (a : AV) (x : Value), cs'[i]? = some a → ys[i]? = some x → Rv ρ a x)
    (h1 : w'.heap[b]? = some (.cells ys B.ty (0, 0))) (h2 : ∀ k, k ≠ b → w'.heap[k]? = w.heap[k]?) (h3 : w'.os = w.os) (h4 : w'.tape = w.tape) (h5 : w'.output = w.output) :
    RW F ρ ((id, some ⟨B.wr, B.ty, cs'⟩) :: h) w' := by
  obtain ⟨b0, o0, hb0, ho0, hB0, hF0, hcn⟩ := r.blk id B hb
  rw [hρ] at hb0; simp at hb0; subst hb0
  rw [hx] at ho0; simp at ho0; subst ho0
  refine ⟨fun j C hj => ?_, fun j j' C C' c hj hj' hw hc hc' => ?_, fun k o hk => ?_, h3.trans r.os, h4.trans r.tape, h5.trans r.out⟩
  · rw [AH.get_cons] at hj
    split at hj
    · rename_i e; subst e; simp at hj; subst hj
      exact ⟨b, _, hρ, h1, ⟨ys, (0, 0), rfl, fun _ => rfl, hys, hrel⟩, fun _ => hF0 hwr, by simp only [count] at hcn ⊢; rw [hsz]; exact hcn⟩
    · rename_i e
      obtain ⟨c, o, hc, ho, hC, hk⟩ := r.blk j C hj
      have hne : c ≠ b := fun ec => by subst ec; exact e (r.inj id j B C c hb hj hwr hρ hc)
      exact ⟨c, o, hc, by rw [h2 c hne]; exact ho, hC, hk⟩
  · have get' : ∀ k C, AH.get ((id, some ⟨B.wr, B.ty, cs'⟩) :: h) k = some C → ∃ C0, h.get k = some C0 ∧ C0.wr = C.wr := by
      intro k C hk
      rw [AH.get_cons] at hk
      split at hk
      · rename_i e; subst e; simp at hk; subst hk; exact ⟨B, hb, rfl⟩
      · exact ⟨C, hk, rfl⟩
    obtain ⟨C0, hC0, hw0⟩ := get' j C hj
    obtain ⟨C1, hC1, hw1⟩ := get' j' C' hj'
    exact r.inj j j' C0 C1 c hC0 hC1 (by rw [hw0]; exact hw) hc hc'
  · have := r.fr k o hk
    have hne : k ≠ b := fun e => by subst e; rw [hF0 hwr] at hk; cases hk
    rw [h2 k hne]; exact this

/-! The model's words. -/

theorem Addr.add_none (b off n : Nat) : (⟨b, off, none⟩ : Addr).add n = ⟨b, off + n, none⟩ := by
  unfold Addr.add; split
  · rename_i h; subst h; rfl
  · rfl

/-- A reckoning that asks nothing of the memory. -/
def pureRun {α : Type} (P : Program) : Sem α → Option α
  | .pure a => some a
  | .program k => pureRun P (k P)
  | _ => none

theorem pureRun_run {α : Type} {P : Program} {s : Sem α} {a : α} (h : pureRun P s = some a) (w : World) : s.run P w = .ok a w := by
  induction s with
  | pure b => simp only [pureRun, Option.some.injEq] at h; subst h; rfl
  | program k ih => simp only [pureRun] at h; simp only [Sem.run]; exact ih _ h
  | _ => simp only [pureRun] at h; cases h

theorem run_sizeOf' (P : Program) (t : TypeId) (i : TypeInfo) (h : P.info? t = some i) (w : World) : (sizeOf t).run P w = .ok i.size w := by
  simp [sizeOf, typeInfo, h]

theorem cellsOf_info {P : Program} {t : TypeId} {n : Nat} (h : (P.info? t).map (·.size) = some n) : ∃ i, P.info? t = some i ∧ i.size = n := by
  cases hi : P.info? t with
  | none => simp [hi] at h
  | some i => simp [hi] at h; exact ⟨i, rfl, h⟩

/-- How many cells a type has. -/
def sz (P : Program) (t : TypeId) : Option Nat := match P.info? t with
  | some i => some i.size
  | none => none

theorem run_sizeOf {P : Program} {t : TypeId} {n : Nat} (h : sz P t = some n) (w : World) : (sizeOf t).run P w = .ok n w := by
  unfold sz at h
  split at h
  · rename_i i hi; simp at h; subst h; exact run_sizeOf' P t i hi w
  · cases h

def isRow : TypeDesc → Bool
  | .struct _ => true
  | .array _ _ => true
  | _ => false

theorem run_isAgg {P : Program} {t : TypeId} {d : TypeDesc} (h : P.underlying t = some d) (w : World) : (isAgg t).run P w = .ok (isRow d) w := by
  cases d <;> simp [isAgg, underlying, h, isRow]

/-- Several cells of a list from a place on; none where they are not all there. -/
def cut (cs : List AV) (off n : Nat) : Option (List AV) :=
  bif Nat.ble (off + n) cs.length then some ((cs.drop off).take n) else none

theorem cut_some {cs l : List AV} {off n : Nat} (h : cut cs off n = some l) : off + n ≤ cs.length ∧ l = (cs.drop off).take n := by
  unfold cut at h
  cases hb : Nat.ble (off + n) cs.length with
  | true => rw [hb] at h; simp at h; exact ⟨Nat.le_of_ble_eq_true hb, h.symm⟩
  | false => rw [hb] at h; simp at h

/-- A part of cells, of a type. -/
def partA (P : Program) (t : TypeId) (cs : List AV) (off : Nat) : Option AV :=
  match P.underlying t with
  | none => none
  | some d => match isRow d with
    | true => match sz P t with
      | none => none
      | some n => match cut cs off n with
        | none => none
        | some l => some (.agg l)
    | false => cs[off]?

theorem partA_run {P : Program} {t : TypeId} {cs : List AV} {off : Nat} {r : AV} {ρ : Ren} {xs : Array Value} (h : partA P t cs off = some r) (hx : Rvs ρ cs xs.toList) (w : World) :
    ∃ v, (part t xs off).run P w = .ok v w ∧ Rv ρ r v := by
  unfold partA at h
  split at h
  · cases h
  · rename_i d hd
    split at h
    · rename_i hr
      split at h
      · cases h
      · rename_i n hn
        split at h
        · cases h
        · rename_i l hl
          simp at h; subst h
          obtain ⟨hle, rfl⟩ := cut_some hl
          refine ⟨.agg (xs.extract off (off + n)), by simp [part, run_isAgg hd, hr, run_sizeOf hn], ?_⟩
          have e : xs.extract off (off + n) = (List.take n (List.drop off xs.toList)).toArray := by
            apply Array.ext'
            simp [Array.toList_extract, List.extract_eq_take_drop]
          rw [e]
          exact Rv.agg_mk ((hx.drop off).take n)
    · rename_i hr
      obtain ⟨x, hx1, hx2⟩ := hx.getD h
      exact ⟨x, by simp [part, run_isAgg hd, hr, show xs[off]? = some x by simpa using hx1], hx2⟩

end Go.Rq
