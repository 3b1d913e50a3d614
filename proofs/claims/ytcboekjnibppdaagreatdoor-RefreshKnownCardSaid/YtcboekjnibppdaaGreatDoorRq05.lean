/- Rows of the library with two arguments; strings and bytes. -/
import Derived.Test.YtcboekjnibppdaaGreatDoorRq04
namespace Go.Rq
open Go

theorem ext2 {P : Program} {f : FuncId} {fn : Func} (hf : P.funcs.toList[f]? = some fn) (h1 : (fn.name == "runtime.NumGoroutine") = false) (h2 : fn.body.isNone = true) (h3 : (Extern.findNext fn).isNone = true)
    {r : Array Value → Sem Value} (h4 : Extern.find fn = some r) {α β γ : Type} {A : Cod α} {B : Cod β} {C : Cod γ} {F : α → γ → β}
    (h : ∀ x y w, (r #[A.val x, C.val y]).run P w = .ok (B.val (F x y)) w) : ExtOk P f (fn2 A C B F) := by
  intro ρ as xs q hg hx w
  unfold fn2 at hg
  split at hg
  · rename_i a c
    split at hg
    · rename_i x y hx' hy
      simp at hg; subst hg
      obtain ⟨v, ys, rfl, h1', h2'⟩ := hx.uncons
      obtain ⟨u, zs, rfl, h3', h4'⟩ := h2'.uncons
      rw [h4'.unnil, A.h2 ρ _ _ _ hx' h1', C.h2 ρ _ _ _ hy h3']
      refine ⟨B.val (F x y), ?_, .of_flat (B.h1 _)⟩
      have hf' : P.funcs[f]? = some fn := by simpa using hf
      have hnext : Extern.findNext fn = none := by simpa using h3
      have hr := h x y w
      simp only [callFunc, Sem.run_bind, run_program, Result.andThen_ok, hf', h1, h2, hnext, h4, Sem.run_ite]
      simp only [hr, Bool.false_eq_true, if_false, if_true, run_mark, Result.andThen_ok, Sem.run_pure]
    · cases hg
  · cases hg

def strOf : AV → Option ByteArray
  | .v (.string s) => some s
  | _ => none

def kStr : Cod ByteArray where
  enc s := .v (.string s)
  dec a := strOf a
  val s := .string s
  h1 _ := rfl
  h2 ρ a v x h r := by
    unfold strOf at h
    split at h
    · simp at h; subst h; cases r; rfl
    · cases h

/-- Where a byte stands first. -/
def idxByte (s : ByteArray) (b : Int) : Int := match (List.range s.size).find? (fun i => s[i]! == b.toNat.toUInt8) with
  | some i => (i : Int)
  | none => -1

theorem idxByte_run {P : Program} (s : ByteArray) (b : Int) (w : World) : (Extern.BytealgIndexByte.indexByte #[kStr.val s, (kInt .u8).val b]).run P w = .ok ((kInt .i64).val (idxByte s b)) w := by
  have e : Extern.BytealgIndexByte.indexByte #[kStr.val s, (kInt .u8).val b] = (do
    let x ← Extern.Bytes.bytesOf (.string s)
    let c ← Extern.Bytes.asByte (.int .u8 b)
    match (List.range x.size).find? fun i => x[i]! == c with
    | some i => pure (goInt i)
    | none => pure (goInt (-1)) : Sem Value) := rfl
  rw [e]
  simp only [kInt, Extern.Bytes.bytesOf, Extern.Bytes.asByte, Sem.run_bind, Sem.run_pure, Result.andThen_ok, idxByte]
  cases (List.range s.size).find? (fun i => s[i]! == b.toNat.toUInt8) with
  | none => simp [Sem.run_pure, goInt]
  | some i => simp [Sem.run_pure, goInt]

/-- A tree of answers, all of them exact. -/
theorem treeVal {β : Type} {B : Cod β} {y : β} {t u : Tree AV} (h : t.strict = u) (hu : u.holds (fun q => q = B.enc y)) : Gives t (B.val y) :=
  ⟨Tree.holds_strict (by rw [h]; exact Tree.holds_mono (fun a ha => by rw [ha]; exact B.h1 y) hu)⟩

/-- Which of two numbers is the less, from the top. -/
def cmpW (a b : W6) : Int :=
  bif BitVec.ult a.w5 b.w5 then -1 else bif BitVec.ult b.w5 a.w5 then 1 else
  bif BitVec.ult a.w4 b.w4 then -1 else bif BitVec.ult b.w4 a.w4 then 1 else
  bif BitVec.ult a.w3 b.w3 then -1 else bif BitVec.ult b.w3 a.w3 then 1 else
  bif BitVec.ult a.w2 b.w2 then -1 else bif BitVec.ult b.w2 a.w2 then 1 else
  bif BitVec.ult a.w1 b.w1 then -1 else bif BitVec.ult b.w1 a.w1 then 1 else
  bif BitVec.ult a.w0 b.w0 then -1 else bif BitVec.ult b.w0 a.w0 then 1 else 0

/-- A chain of questions, each with its answer. -/
def chain {β : Type} (B : Cod β) : List (Bool × β) → β → Tree AV
  | [], y => .leaf (B.enc y)
  | (c, x) :: t, y => .br c (.leaf (B.enc x)) (chain B t y)

def chainV {β : Type} : List (Bool × β) → β → β
  | [], y => y
  | (c, x) :: t, y => bif c then x else chainV t y

theorem chain_holds {β : Type} (B : Cod β) : ∀ (l : List (Bool × β)) (y : β), (chain B l y).holds (fun q => q = B.enc (chainV l y))
  | [], _ => rfl
  | (c, x) :: t, y => ⟨fun h => by simp only [chainV, h, cond_true]; rfl, fun h => by simp only [chainV, h, cond_false]; exact chain_holds B t y⟩

theorem chainVal {β : Type} {B : Cod β} {l : List (Bool × β)} {y : β} {t : Tree AV} (h : t.strict = chain B l y) : Gives t (B.val (chainV l y)) := treeVal h (chain_holds B l y)

end Go.Rq

/- Contracts at listed values; contracts of functions that read slices. -/
namespace Go.Rq
open Go

theorem CallOk.weaken {P : Program} {f : FuncId} {g g' : List AV → Option (Bool × AV)} (h : ∀ as r, g' as = some (true, r) → g as = some (true, r)) (k : CallOk P f g) : CallOk P f g' := by
  rcases k with ⟨h1, h2⟩ | h2
  · exact .inl ⟨h1, fun ρ as xs r hg hx w => h2 ρ as xs r (h _ _ hg) hx w⟩
  · exact .inr fun ρ as xs r hg hx w => h2 ρ as xs r (h _ _ hg) hx w

/-- What is listed of an argument. -/
def lookT {α β : Type} (e : α → α → Bool) : List (α × β) → α → Option β
  | [], _ => none
  | p :: t, x => match e p.1 x with
    | true => some p.2
    | false => lookT e t x

theorem lookT_mem {α β : Type} {e : α → α → Bool} (he : ∀ x y, e x y = true → x = y) : ∀ {tab : List (α × β)} {x : α} {y : β}, lookT e tab x = some y → (x, y) ∈ tab
  | [], x, y, h => by simp [lookT] at h
  | p :: t, x, y, h => by
    simp only [lookT] at h
    split at h
    · rename_i hp; simp at h; subst h; rw [← he _ _ hp]; simp
    · exact List.mem_cons_of_mem _ (lookT_mem he h)

def fnT1 {α β : Type} (A : Cod α) (B : Cod β) (e : α → α → Bool) (tab : List (α × β)) : List AV → Option (Bool × AV)
  | [a] => match A.dec a with
    | none => none
    | some x => match lookT e tab x with
      | none => none
      | some y => some (true, B.enc y)
  | _ => none

def pairB {α γ : Type} (e : α → α → Bool) (e' : γ → γ → Bool) (p q : α × γ) : Bool := bif e p.1 q.1 then e' p.2 q.2 else false

theorem pairB_eq {α γ : Type} {e : α → α → Bool} (he : ∀ x y, e x y = true → x = y) {e' : γ → γ → Bool} (he' : ∀ x y, e' x y = true → x = y) (p q : α × γ) (h : pairB e e' p q = true) : p = q := by
  unfold pairB at h
  cases h1 : e p.1 q.1 with
  | false => rw [h1] at h; cases h
  | true => rw [h1] at h; exact Prod.ext (he _ _ h1) (he' _ _ h)

def fnT2 {α β γ : Type} (A : Cod α) (C : Cod γ) (B : Cod β) (e : α → α → Bool) (e' : γ → γ → Bool) (tab : List ((α × γ) × β)) : List AV → Option (Bool × AV)
  | [a, c] => match A.dec a, C.dec c with
    | some x, some z => match lookT (pairB e e') tab (x, z) with
      | none => none
      | some y => some (true, B.enc y)
    | _, _ => none
  | _ => none

theorem callT1 {P : Program} {f : FuncId} {α β : Type} {A : Cod α} {B : Cod β} {F : α → β} {e : α → α → Bool} (he : ∀ x y, e x y = true → x = y) {tab : List (α × β)} (ht : ∀ p ∈ tab, F p.1 = p.2)
    (h : CallOk P f (fn1 A B F)) : CallOk P f (fnT1 A B e tab) := by
  refine h.weaken fun as r hg => ?_
  unfold fnT1 at hg
  split at hg
  · split at hg
    · cases hg
    · rename_i x hx
      split at hg
      · cases hg
      · rename_i y hy
        simp at hg; subst hg
        simp [fn1, hx, ht _ (lookT_mem he hy)]
  · cases hg

theorem callT2 {P : Program} {f : FuncId} {α β γ : Type} {A : Cod α} {B : Cod β} {C : Cod γ} {F : α → γ → β} {e : α → α → Bool} (he : ∀ x y, e x y = true → x = y) {e' : γ → γ → Bool} (he' : ∀ x y, e' x y = true → x = y)
    {tab : List ((α × γ) × β)} (ht : ∀ p ∈ tab, F p.1.1 p.1.2 = p.2) (h : CallOk P f (fn2 A C B F)) : CallOk P f (fnT2 A C B e e' tab) := by
  refine h.weaken fun as r hg => ?_
  unfold fnT2 at hg
  split at hg
  · split at hg
    · rename_i x z hx hz
      split at hg
      · cases hg
      · rename_i y hy
        simp at hg; subst hg
        have hm := lookT_mem (pairB_eq he he') hy
        simp [fn2, hx, hz, ht _ hm]
    · cases hg
  · cases hg

/-- A function of one argument, gone through at the listed values. -/
theorem tabT1 {P : Program} {E : Env} {sym : List Tmp} {tab : BTab} {lf f : Nat} (X : Ctx P E sym tab lf f) {α β : Type} {A : Cod α} {B : Cod β} {e : α → α → Bool} (he : ∀ x y, e x y = true → x = y) {l : List (α × β)}
    (h : ∀ p ∈ l, Gives (afunR P E sym tab lf f [A.enc p.1]) (B.val p.2)) : PureOk P f (fnT1 A B e l) := by
  refine pure_core X fun as r hg => ?_
  unfold fnT1 at hg
  split at hg
  · rename_i a
    split at hg
    · cases hg
    · rename_i x hx
      split at hg
      · cases hg
      · rename_i y hy
        simp at hg; subst hg
        refine ⟨[A.enc x], [A.val x], fun ρ xs hxs => ?_, by simp [flatL, A.h1], _, B.h1 _, (h _ (lookT_mem he hy)).out⟩
        obtain ⟨v, ys, rfl, h1, h2⟩ := hxs.uncons
        rw [h2.unnil, A.h2 ρ _ _ _ hx h1]
  · cases hg

/-! Functions that read slices of known length. -/

/-- A slice as it is handed: all of a block, or a row that is owned. -/
inductive SlA where
  | slc (n : Nat)
  | own (es n : Nat)

def SlA.at (s : SlA) (id : Nat) : AV := match s with
  | .slc n => .slc id 0 n n
  | .own es n => .own id es 0 n

def SlA.name (s : SlA) : AV → Option Nat
  | .slc i 0 n m => match s with
    | .slc k => bif Nat.beq n k && Nat.beq m k then some i else none
    | _ => none
  | .own i es 0 n => match s with
    | .own es' k => bif Nat.beq es es' && Nat.beq n k then some i else none
    | _ => none
  | _ => none

theorem bcond {α : Type} {b : Bool} {x : Option α} {y : α} (h : (bif b then x else none) = some y) : b = true ∧ x = some y := by
  cases b with
  | true => exact ⟨rfl, h⟩
  | false => cases h

theorem SlA.name_eq {s : SlA} {a : AV} {i : Nat} (h : s.name a = some i) : a = s.at i := by
  unfold SlA.name at h
  split at h
  · split at h
    · obtain ⟨h1, h2⟩ := bcond h
      simp only [Bool.and_eq_true, Option.some.injEq] at h1 h2
      obtain ⟨e1, e2⟩ := h1
      have e1 := Nat.eq_of_beq_eq_true e1
      have e2 := Nat.eq_of_beq_eq_true e2
      subst e1; subst e2; subst h2; rfl
    · cases h
  · split at h
    · obtain ⟨h1, h2⟩ := bcond h
      simp only [Bool.and_eq_true, Option.some.injEq] at h1 h2
      obtain ⟨e1, e2⟩ := h1
      have e1 := Nat.eq_of_beq_eq_true e1
      have e2 := Nat.eq_of_beq_eq_true e2
      subst e1; subst e2; subst h2; rfl
    · cases h
  · cases h

/-- The same slice under another name of the same block. -/
theorem SlA.moved {ρ σ : Ren} {s : SlA} {i j : Nat} {x : Value} (h : Rv ρ (s.at i) x) : ∃ b, ρ i = some b ∧ (σ j = some b → σ.cells j = ρ.cells i → σ.base j = ρ.base i → Rv σ (s.at j) x) := by
  cases s with
  | slc n =>
    simp only [SlA.at] at h
    cases h with
    | slc hb => exact ⟨_, hb, fun h _ k0 => by rw [← k0]; exact .slc h⟩
  | own es n =>
    simp only [SlA.at] at h
    cases h with
    | own hb h0 hc hl hm => exact ⟨_, hb, fun h k k0 => .own h (k0.trans h0) (by rw [k]; exact hc) hl hm⟩
    | ownE _ hk => exact absurd hk (Nat.lt_irrefl 0)

/-- The datum in a block. -/
def blkDec {α : Type} (C : CC α) (t : TypeId) (h : AH) (i : Nat) : Option α :=
  match h.getC i with
  | none => none
  | some B => match Nat.beq B.ty t with
    | false => none
    | true => C.dec B.cs

def twoAH {α γ : Type} (A : CC α) (C : CC γ) (t1 t2 : TypeId) (x : α) (y : γ) : AH := [(0, some ⟨false, t1, A.enc x⟩), (1, some ⟨false, t2, C.enc y⟩)]

theorem rvs_prefix {ρ : Ren} : ∀ {cs : List AV} {xs : List Value}, cs.length ≤ xs.length → (∀ (i : Nat) (a : AV) (x : Value), cs[i]? = some a → xs[i]? = some x → Rv ρ a x) → Rvs ρ cs (xs.take cs.length) :=
  fun hl h => ⟨by simp [hl], fun i a x ha hx => by
    rw [List.getElem?_take] at hx
    split at hx
    · exact h i a x ha hx
    · cases hx⟩

/-- What is known of a block, said anew: by the datum that it tells. -/
theorem blk_again {α : Type} {F : Fr} {ρ : Ren} {h : AH} {w : World} (hw : RW F ρ h w) {C : CC α} {t : TypeId} {i : Nat} {x : α} (hd : blkDec C t h i = some x) :
    ∃ b xs fr, ρ i = some b ∧ w.heap[b]? = some (.cells xs t fr) ∧ xs.size = ρ.cells i ∧ ρ.base i + (C.enc x).length ≤ xs.size ∧ ∀ (σ : Ren) (j : Nat) (a : AV) (v : Value), (C.enc x)[j]? = some a → xs[ρ.base i + j]? = some v → Rv σ a v := by
  unfold blkDec at hd
  split at hd
  · cases hd
  · rename_i B hB
    split at hd
    · cases hd
    · rename_i ht
      have ht := Nat.eq_of_beq_eq_true ht
      obtain ⟨b, o, h1, h2, ⟨xs, fr, rfl, h3, h4, h5⟩, h6, h7⟩ := hw.blkC hB
      have hr := rvs_prefix (ρ := ρ) (cs := B.cs) (xs := xs.toList.drop (ρ.base i)) (by simp; omega) (fun i a x ha hx => h5 i a x ha (by simpa using hx))
      have hv := C.h2 ρ _ _ _ hd hr
      have hlen : (C.enc x).length = B.cs.length := by
        have := (Rvs.of_flats (ρ := ρ) (C.h1 x)).1
        rw [this, ← hv]; exact hr.1.symm
      refine ⟨b, xs, fr, h1, by rw [← ht]; exact h2, by simpa [count] using h7, by omega, fun σ j a v ha hv' => ?_⟩
      have h8 := Rvs.of_flats (ρ := σ) (C.h1 x)
      refine h8.2 j a v ha ?_
      rw [← hv, List.getElem?_take, if_pos (by rw [← hlen]; exact (List.getElem?_eq_some_iff.1 ha).1)]
      simpa using hv'

/-- What a function that reads two slices comes to. -/
structure GivesH (t : Tree (AV × AH)) (v : Value) : Prop where
  out : t.holds (fun q => flat q.1 = some v)

/-- A walk from a heap, of which the answer alone is kept. -/
def afunH (P : Program) (E : Env) (sym : List Tmp) (lf f : Nat) (as : List AV) (h : AH) (n : Nat) : Tree AV := (afun P E sym (fun _ => none) lf f as h n).bind fun q => .leaf q.1

theorem givesH {P : Program} {E : Env} {sym : List Tmp} {lf f : Nat} {as : List AV} {h : AH} {n : Nat} {u : Tree AV} {v : Value} (e : (afunH P E sym lf f as h n).strict = u) (hu : u.holds (fun q => flat q = some v)) :
    GivesH (afun P E sym (fun _ => none) lf f as h n) v := ⟨Tree.holds_bind (Tree.holds_strict (by rw [show ((afun P E sym (fun _ => none) lf f as h n).bind fun q => Tree.leaf q.1).strict = u from e]; exact hu))⟩

def sl2 {α β γ : Type} (s1 s2 : SlA) (t1 t2 : TypeId) (A : CC α) (C : CC γ) (B : Cod β) (F : α → γ → β) : List AV → AH → Option (Bool × AV × AH)
  | [a, c], h => match s1.name a, s2.name c with
    | some i, some j => match blkDec A t1 h i, blkDec C t2 h j with
      | some x, some y => some (true, B.enc (F x y), [])
      | _, _ => none
    | _, _ => none
  | _, _ => none

/-- Likewise with an exact argument ahead. -/
def sl3 {α β γ δ : Type} (s1 s2 : SlA) (t1 t2 : TypeId) (D : Cod δ) (A : CC α) (C : CC γ) (B : Cod β) (F : δ → α → γ → β) : List AV → AH → Option (Bool × AV × AH)
  | [d, a, c], h => match D.dec d, s1.name a, s2.name c with
    | some z, some i, some j => match blkDec A t1 h i, blkDec C t2 h j with
      | some x, some y => some (true, B.enc (F z x y), [])
      | _, _ => none
    | _, _, _ => none
  | _, _ => none

theorem two_world {α γ : Type} {F : Fr} {ρ : Ren} {h : AH} {w : World} (hw : RW F ρ h w) {A : CC α} {C : CC γ} {t1 t2 : TypeId} {i j : Nat} {x : α} {y : γ} (h1 : blkDec A t1 h i = some x) (h2 : blkDec C t2 h j = some y)
    {s1 s2 : SlA} {u v : Value} (hu : Rv ρ (s1.at i) u) (hv : Rv ρ (s2.at j) v) :
    ∃ σ : Ren, RW (frameOf w) σ (twoAH A C t1 t2 x y) w ∧ Rv σ (s1.at 0) u ∧ Rv σ (s2.at 1) v ∧ ∀ id, 2 ≤ id → σ id = none := by
  obtain ⟨b, xs, fr, p1, p2, p3, p4, p5⟩ := blk_again hw h1
  obtain ⟨c, ys, gr, q1, q2, q3, q4, q5⟩ := blk_again hw h2
  let σ : Ren := ⟨fun id => if id = 0 then some b else if id = 1 then some c else none, fun id => if id = 0 then xs.size else ys.size, fun id => if id = 0 then ρ.base i else ρ.base j⟩
  have s0 : σ 0 = some b := rfl
  have s1' : σ 1 = some c := rfl
  obtain ⟨b', e1, k1⟩ := SlA.moved (σ := σ) (j := 0) hu
  obtain ⟨c', e2, k2⟩ := SlA.moved (σ := σ) (j := 1) hv
  rw [p1] at e1; simp at e1; subst e1
  rw [q1] at e2; simp at e2; subst e2
  refine ⟨σ, ⟨fun id B hB => ?_, fun id id' B B' d hB hB' hwr => ?_, fun _ _ h => h, rfl, rfl, rfl, hw.gw⟩, k1 s0 p3 rfl, k2 s1' q3 rfl, fun id hid => by show (if id = 0 then some b else if id = 1 then some c else none) = none; rw [if_neg (by omega), if_neg (by omega)]⟩
  · unfold twoAH at hB
    rw [AH.get_cons] at hB
    split at hB
    · rename_i e; subst e; simp at hB; subst hB
      exact ⟨b, _, s0, p2, .inl ⟨xs, fr, rfl, (fun h => by cases h), p4, fun k a v ha hv => p5 σ k a v ha hv⟩, (fun h => by cases h), rfl⟩
    · rw [AH.get_cons] at hB
      split at hB
      · rename_i e; subst e; simp at hB; subst hB
        exact ⟨c, _, s1', q2, .inl ⟨ys, gr, rfl, (fun h => by cases h), q4, fun k a v ha hv => q5 σ k a v ha hv⟩, (fun h => by cases h), rfl⟩
      · simp [AH.get] at hB
  · unfold twoAH at hB
    rw [AH.get_cons] at hB
    split at hB
    · simp at hB; subst hB; cases hwr
    · rw [AH.get_cons] at hB
      split at hB
      · simp at hB; subst hB; cases hwr
      · simp [AH.get] at hB

theorem blkDec_congr {α : Type} {C : CC α} {t : TypeId} {h h' : AH} {i : Nat} {x : α} (hh : ∀ B, h.get i = some B → h'.get i = some B) (hd : blkDec C t h i = some x) : blkDec C t h' i = some x := by
  unfold blkDec at hd ⊢
  split at hd
  · cases hd
  · rename_i B hB
    simp only [getC_mono hh hB]; exact hd

theorem SlA.known {ρ : Ren} {s : SlA} {i : Nat} {x : Value} (h : Rv ρ (s.at i) x) : ∃ b, ρ i = some b := by
  obtain ⟨b, h, _⟩ := SlA.moved (σ := ρ) (j := i) h
  exact ⟨b, h⟩

theorem sl2_ok {P : Program} {E : Env} {sym : List Tmp} {lf f : Nat} {tab : BTab} {c : Code} {fn : Func} (hE : EnvOk P E) (hm : P.follows .mixedOrders = true) (hf : P.funcs.toList[f]? = some fn) (hb : fn.body = some c)
    (hok : codeOk E c = true) (htab : TabOk P 2 tab c) {α β γ : Type} {A : CC α} {C : CC γ} {B : Cod β} {F : α → γ → β} {s1 s2 : SlA} {t1 t2 : TypeId}
    (hr : ∀ x y, GivesH (afun P E sym tab lf f [s1.at 0, s2.at 1] (twoAH A C t1 t2 x y) 2) (B.val (F x y))) : HeapOk P f (sl2 s1 s2 t1 t2 A C B F) := by
  have key : ∀ {as : List AV} {h : AH} {o : Bool × AV × AH}, sl2 s1 s2 t1 t2 A C B F as h = some o → ∃ i j x y, as = [s1.at i, s2.at j] ∧ blkDec A t1 h i = some x ∧ blkDec C t2 h j = some y ∧ o = (true, B.enc (F x y), []) := by
    intro as h o hg
    unfold sl2 at hg
    split at hg
    · rename_i a c' 
      split at hg
      · rename_i i j hi hj
        split at hg
        · rename_i x y hx hy
          simp at hg
          exact ⟨i, j, x, y, by rw [SlA.name_eq hi, SlA.name_eq hj], hx, hy, hg.symm⟩
        · cases hg
      · cases hg
    · cases hg
  have again : ∀ {as : List AV} {h h' : AH} {o : Bool × AV × AH}, sl2 s1 s2 t1 t2 A C B F as h = some o → (∀ i, i ∈ idsOf as → ∀ B, h.get i = some B → h'.get i = some B) → sl2 s1 s2 t1 t2 A C B F as h' = some o := by
    intro as h h' o hg hh
    unfold sl2 at hg ⊢
    split at hg
    · rename_i a c'
      split at hg
      · rename_i i j hi hj
        have ea := SlA.name_eq hi
        have ec := SlA.name_eq hj
        have hi' : i ∈ idsOf [a, c'] := by subst ea; cases s1 <;> simp [SlA.at, idsOf]
        have hj' : j ∈ idsOf [a, c'] := by
          subst ea; subst ec
          cases s1 <;> cases s2 <;> simp [SlA.at, idsOf]
        split at hg
        · rename_i x y hx hy
          simp only [blkDec_congr (hh i hi') hx, blkDec_congr (hh j hj') hy]; exact hg
        · cases hg
      · cases hg
    · cases hg
  refine ⟨?_, fun as h h' x hle hg => again hg (fun i _ B hB => hle i B hB), fun ρ as xs z b h x hx hz hg => again hg (fun i hi B hB => by
      rw [AH.get_cons, if_neg (fun e => hx.ids_ne hz i hi e.symm)] at hB; exact hB), fun as h c' r ups hg => ?_, fun as h h' x hh hg => again hg hh⟩
  · intro F' ρ as xs h r ups w hg hx hw
    obtain ⟨i, j, x, y, rfl, h1, h2, ho⟩ := key hg
    simp at ho
    obtain ⟨rfl, rfl⟩ := ho
    obtain ⟨u, xs', rfl, hu, hx'⟩ := hx.uncons
    obtain ⟨v, xs'', rfl, hv, hx''⟩ := hx'.uncons
    rw [hx''.unnil]
    obtain ⟨σ, g1, g2, g3, g4⟩ := two_world hw h1 h2 hu hv
    have := afun_calls hE hm hf hb hok htab (K := fun q _ => flat q = some (B.val (F x y))) (hr x y).out (F := frameOf w) (.cons g2 (.cons g3 .nil)) g1 g4
    refine Calls.mono this ?_
    rintro e w' ⟨v', q', h', ρ', rfl, hk, hrv, hrw, _⟩
    have := hrv.flat_eq hk
    subst this
    exact ⟨_, rfl, .of_flat (B.h1 _), hw.below hrw.to_below⟩
  · obtain ⟨i, j, x, y, _, _, _, ho⟩ := key hg
    simp at ho
    obtain ⟨_, _, rfl⟩ := ho
    simp

theorem sl3_ok {P : Program} {E : Env} {sym : List Tmp} {lf f : Nat} {tab : BTab} {c : Code} {fn : Func} (hE : EnvOk P E) (hm : P.follows .mixedOrders = true) (hf : P.funcs.toList[f]? = some fn) (hb : fn.body = some c)
    (hok : codeOk E c = true) (htab : TabOk P 2 tab c) {α β γ δ : Type} {D : Cod δ} {A : CC α} {C : CC γ} {B : Cod β} {F : δ → α → γ → β} {s1 s2 : SlA} {t1 t2 : TypeId}
    (hr : ∀ z x y, GivesH (afun P E sym tab lf f [D.enc z, s1.at 0, s2.at 1] (twoAH A C t1 t2 x y) 2) (B.val (F z x y))) : HeapOk P f (sl3 s1 s2 t1 t2 D A C B F) := by
  have key : ∀ {as : List AV} {h : AH} {o : Bool × AV × AH}, sl3 s1 s2 t1 t2 D A C B F as h = some o → ∃ d z i j x y, as = [d, s1.at i, s2.at j] ∧ D.dec d = some z ∧ blkDec A t1 h i = some x ∧ blkDec C t2 h j = some y ∧ o = (true, B.enc (F z x y), []) := by
    intro as h o hg
    unfold sl3 at hg
    split at hg
    · rename_i d a c'
      split at hg
      · rename_i z i j hz hi hj
        split at hg
        · rename_i x y hx hy
          simp at hg
          exact ⟨d, z, i, j, x, y, by rw [SlA.name_eq hi, SlA.name_eq hj], hz, hx, hy, hg.symm⟩
        · cases hg
      · cases hg
    · cases hg
  have more : ∀ (d : AV) (l : List AV) (i : Nat), i ∈ idsOf l → i ∈ idsOf (d :: l) := by
    intro d l i hi
    simp only [idsOf]
    split <;> simp [hi]
  have again : ∀ {as : List AV} {h h' : AH} {o : Bool × AV × AH}, sl3 s1 s2 t1 t2 D A C B F as h = some o → (∀ i, i ∈ idsOf as → ∀ B, h.get i = some B → h'.get i = some B) → sl3 s1 s2 t1 t2 D A C B F as h' = some o := by
    intro as h h' o hg hh
    unfold sl3 at hg ⊢
    split at hg
    · rename_i d a c'
      split at hg
      · rename_i z i j hz hi hj
        have ea := SlA.name_eq hi
        have ec := SlA.name_eq hj
        have hi' : i ∈ idsOf [d, a, c'] := more d _ i (by subst ea; cases s1 <;> simp [SlA.at, idsOf])
        have hj' : j ∈ idsOf [d, a, c'] := more d _ j (by
          subst ea; subst ec
          cases s1 <;> cases s2 <;> simp [SlA.at, idsOf])
        split at hg
        · rename_i x y hx hy
          simp only [blkDec_congr (hh i hi') hx, blkDec_congr (hh j hj') hy]; exact hg
        · cases hg
      · cases hg
    · cases hg
  refine ⟨?_, fun as h h' x hle hg => again hg (fun i _ B hB => hle i B hB), fun ρ as xs z b h x hx hz hg => again hg (fun i hi B hB => by
      rw [AH.get_cons, if_neg (fun e => hx.ids_ne hz i hi e.symm)] at hB; exact hB), fun as h c' r ups hg => ?_, fun as h h' x hh hg => again hg hh⟩
  · intro F' ρ as xs h r ups w hg hx hw
    obtain ⟨d, z, i, j, x, y, rfl, hz, h1, h2, ho⟩ := key hg
    simp at ho
    obtain ⟨rfl, rfl⟩ := ho
    obtain ⟨p, xs0, rfl, hp, hx0⟩ := hx.uncons
    obtain ⟨u, xs', rfl, hu, hx'⟩ := hx0.uncons
    obtain ⟨v, xs'', rfl, hv, hx''⟩ := hx'.uncons
    rw [hx''.unnil]
    obtain ⟨σ, g1, g2, g3, g4⟩ := two_world hw h1 h2 hu hv
    have hpv := D.h2 ρ _ _ _ hz hp
    subst hpv
    have := afun_calls hE hm hf hb hok htab (K := fun q _ => flat q = some (B.val (F z x y))) (hr z x y).out (F := frameOf w) (.cons (.of_flat (D.h1 z)) (.cons g2 (.cons g3 .nil))) g1 g4
    refine Calls.mono this ?_
    rintro e w' ⟨v', q', h', ρ', rfl, hk, hrv, hrw, _⟩
    have := hrv.flat_eq hk
    subst this
    exact ⟨_, rfl, .of_flat (B.h1 _), hw.below hrw.to_below⟩
  · obtain ⟨d, z, i, j, x, y, _, _, _, _, ho⟩ := key hg
    simp at ho
    obtain ⟨_, _, rfl⟩ := ho
    simp


/-! Functions that write one block that they are handed. -/

/-- A store into a block, other blocks may have come. -/
theorem RW.wrote {F : Fr} {ρ : Ren} {h : AH} {w w' : World} (r : RW F ρ h w) {id b : Nat} {B : Blk} (hb : h.get id = some B) (hρ : ρ id = some b) (hwr : B.wr = true)
    {xs : Array Value} (hx : w.heap[b]? = some (.cells xs B.ty (0, 0))) (cs' : List AV) (ys : Array Value)
    (hbz : ρ.base id = 0) (hsz : ys.size = xs.size) (hys : cs'.length ≤ ys.size) (hrel : ∀ (i : Nat) (a : AV) (x : Value), cs'[i]? = some a → ys[i]? = some x → Rv ρ a x)
    (h1 : w'.heap[b]? = some (.cells ys B.ty (0, 0))) (h2 : ∀ k o, k ≠ b → w.heap[k]? = some o → w'.heap[k]? = some o) (h3 : w'.os = w.os) (h4 : w'.tape = w.tape) (h5 : w'.output = w.output) :
    RW F ρ ((id, some ⟨B.wr, B.ty, cs'⟩) :: h) w' := by
  obtain ⟨b0, o0, hb0, ho0, hB0, hF0, hcn⟩ := r.blk id B hb
  rw [hρ] at hb0; simp at hb0; subst hb0
  rw [hx] at ho0; simp at ho0; subst ho0
  refine ⟨fun j C hj => ?_, fun j j' C C' c hj hj' hw hc hc' => ?_, fun k o hk => ?_, h3.trans r.os, h4.trans r.tape, h5.trans r.out, r.gc⟩
  · rw [AH.get_cons] at hj
    split at hj
    · rename_i e; subst e; simp at hj; subst hj
      exact ⟨b, _, hρ, h1, .inl ⟨ys, (0, 0), rfl, fun _ => ⟨rfl, hbz⟩, by rw [hbz]; simpa using hys, by rw [hbz]; simpa using hrel⟩, fun _ => hF0 hwr, by simp only [count] at hcn ⊢; rw [hsz]; exact hcn⟩
    · rename_i e
      obtain ⟨c, o, hc, ho, hC, hk⟩ := r.blk j C hj
      have hne : c ≠ b := fun ec => by subst ec; exact e (r.inj id j B C c hb hj hwr hρ hc)
      exact ⟨c, o, hc, h2 c o hne ho, hC, hk⟩
  · have get' : ∀ k C, AH.get ((id, some ⟨B.wr, B.ty, cs'⟩) :: h) k = some C → ∃ C0, h.get k = some C0 ∧ C0.wr = C.wr := by
      intro k C hk
      rw [AH.get_cons] at hk
      split at hk
      · rename_i e; subst e; simp at hk; subst hk; exact ⟨B, hb, rfl⟩
      · exact ⟨C, hk, rfl⟩
    obtain ⟨C0, hC0, hw0⟩ := get' j C hj
    obtain ⟨C1, hC1, hw1⟩ := get' j' C' hj'
    exact r.inj j j' C0 C1 c hC0 hC1 (by rw [hw0]; exact hw) hc hc'
  · have hne : k ≠ b := fun e => by subst e; rw [hF0 hwr] at hk; cases hk
    exact h2 k o hne (r.fr k o hk)

/-- The datum in a block that may be written. -/
def blkDecW {α : Type} (C : CC α) (t : TypeId) (h : AH) (i : Nat) : Option α :=
  match h.getC i with
  | none => none
  | some B => match B.wr && Nat.beq B.ty t with
    | false => none
    | true => C.dec B.cs

theorem blkDecW_congr {α : Type} {C : CC α} {t : TypeId} {h h' : AH} {i : Nat} {x : α} (hh : ∀ B, h.get i = some B → h'.get i = some B) (hd : blkDecW C t h i = some x) : blkDecW C t h' i = some x := by
  unfold blkDecW at hd ⊢
  split at hd
  · cases hd
  · rename_i B hB
    simp only [getC_mono hh hB]; exact hd

/-- The second argument's block is written, by the other arguments; nothing is handed back. -/
def wr4 {α β γ δ : Type} (t : TypeId) (D : Cod δ) (C : CC γ) (A : Cod α) (B : Cod β) (F : δ → γ → α → β → γ) : List AV → AH → Option (Bool × AV × AH)
  | [d, .ptr i 0, a, b], h => match D.dec d, blkDecW C t h i, A.dec a, B.dec b with
    | some z, some w, some x, some y => some (true, .tup [], [(i, some ⟨true, t, C.enc (F z w x y)⟩)])
    | _, _, _, _ => none
  | _, _ => none

/-- What is left in the first block. -/
def outW (t : TypeId) (q : AV × AH) : AV := match q.2.get 0 with
  | none => .any
  | some B => match B.wr && Nat.beq B.ty t with
    | true => .tup [q.1, .agg B.cs]
    | false => .any

theorem outW_eq {t : TypeId} {q : AV × AH} {a : AV} {cs : List AV} (h : outW t q = .tup [a, .agg cs]) : q.1 = a ∧ q.2.get 0 = some ⟨true, t, cs⟩ := by
  unfold outW at h
  split at h
  · cases h
  · rename_i B hB
    split at h
    · rename_i hc
      simp only [Bool.and_eq_true] at hc
      simp at h
      obtain ⟨h1, h2⟩ := h
      refine ⟨h1, ?_⟩
      rw [hB]
      obtain ⟨wr, ty, cs'⟩ := B
      simp at hc h2
      obtain ⟨e1, e2⟩ := hc
      subst e1; subst e2; subst h2
      rfl
    · cases h

/-- A walk that starts with a block to be written. -/
def afunW (P : Program) (E : Env) (sym : List Tmp) (lf f : Nat) (t : TypeId) (as : List AV) (cs : List AV) : Tree AV := (afun P E sym (fun _ => none) lf f as [(0, some ⟨true, t, cs⟩)] 1).bind fun q => .leaf (outW t q)

theorem wr4_ok {P : Program} {E : Env} {sym : List Tmp} {lf f : Nat} {c : Code} {fn : Func} (hE : EnvOk P E) (hm : P.follows .mixedOrders = true) (hf : P.funcs.toList[f]? = some fn) (hb : fn.body = some c)
    (hok : codeOk E c = true) {α β γ δ : Type} {t : TypeId} {D : Cod δ} {C : CC γ} {A : Cod α} {B : Cod β} {F : δ → γ → α → β → γ}
    (hr : ∀ z w x y, (afunW P E sym lf f t [D.enc z, .ptr 0 0, A.enc x, B.enc y] (C.enc w)).strict = .leaf (.tup [.tup [], .agg (C.enc (F z w x y))])) : HeapOk P f (wr4 t D C A B F) := by
  have key : ∀ {as : List AV} {h : AH} {o : Bool × AV × AH}, wr4 t D C A B F as h = some o → ∃ d i a b z w x y, as = [d, .ptr i 0, a, b] ∧ D.dec d = some z ∧ blkDecW C t h i = some w ∧ A.dec a = some x ∧ B.dec b = some y ∧ o = (true, .tup [], [(i, some ⟨true, t, C.enc (F z w x y)⟩)]) := by
    intro as h o hg
    unfold wr4 at hg
    split at hg
    · rename_i d i a b
      split at hg
      · rename_i z w x y h0 h1 h2 h3
        simp at hg
        exact ⟨d, i, a, b, z, w, x, y, rfl, h0, h1, h2, h3, hg.symm⟩
      · cases hg
    · cases hg
  have again : ∀ {as : List AV} {h h' : AH} {o : Bool × AV × AH}, wr4 t D C A B F as h = some o → (∀ i, i ∈ idsOf as → ∀ B, h.get i = some B → h'.get i = some B) → wr4 t D C A B F as h' = some o := by
    intro as h h' o hg hh
    obtain ⟨d, i, a, b, z, w, x, y, rfl, h0, h1, h2, h3, rfl⟩ := key hg
    have hi : i ∈ idsOf [d, .ptr i 0, a, b] := by
      simp only [idsOf]
      split <;> simp
    unfold wr4
    simp only [h0, blkDecW_congr (hh i hi) h1, h2, h3]
  refine ⟨?_, fun as h h' x hle hg => again hg (fun i _ B hB => hle i B hB), fun ρ as xs z b h x hx hz hg => again hg (fun i hi B hB => by
      rw [AH.get_cons, if_neg (fun e => hx.ids_ne hz i hi e.symm)] at hB; exact hB), fun as h c' r ups hg => ?_, fun as h h' x hh hg => again hg hh⟩
  · intro F' ρ as xs h r ups w hg hx hw
    obtain ⟨d, i, a, bb, z, w0, x, y, rfl, h0, h1, h2, h3, ho⟩ := key hg
    simp at ho
    obtain ⟨rfl, rfl⟩ := ho
    obtain ⟨v0, xs0, rfl, hv0, hx0⟩ := hx.uncons
    obtain ⟨v1, xs1, rfl, hv1, hx1⟩ := hx0.uncons
    obtain ⟨v2, xs2, rfl, hv2, hx2⟩ := hx1.uncons
    obtain ⟨v3, xs3, rfl, hv3, hx3⟩ := hx2.uncons
    rw [hx3.unnil]
    have e0 := D.h2 ρ _ _ _ h0 hv0
    have e2 := A.h2 ρ _ _ _ h2 hv2
    have e3 := B.h2 ρ _ _ _ h3 hv3
    subst e0; subst e2; subst e3
    unfold blkDecW at h1
    split at h1
    · cases h1
    rename_i Bk hBk
    split at h1
    · cases h1
    rename_i hc
    simp only [Bool.and_eq_true] at hc
    obtain ⟨c1, c2⟩ := hc
    have c2 := Nat.eq_of_beq_eq_true c2
    obtain ⟨b, o, p1, p2, ⟨cx, fr, rfl, p3, p4, p5⟩, p6, p7⟩ := hw.blkC hBk
    have pz := (p3 c1).2
    rw [(p3 c1).1, c2] at p2
    rw [pz] at p4 p5
    simp only [Nat.zero_add] at p4 p5
    have hpre := rvs_prefix (ρ := ρ) (cs := Bk.cs) (xs := cx.toList) (by simpa using p4) (fun i a x ha hx => p5 i a x ha (by simpa using hx))
    have hval := C.h2 ρ _ _ _ h1 hpre
    have hlen : (C.enc w0).length = Bk.cs.length := by
      have := (Rvs.of_flats (ρ := ρ) (C.h1 w0)).1
      rw [this, ← hval]; exact hpre.1.symm
    let F1 : Fr := ⟨fun k => if k = b then none else w.heap[k]?, w.os, w.tape, w.output⟩
    let σ : Ren := ⟨fun id => if id = 0 then some b else none, fun _ => cx.size, fun _ => 0⟩
    have hσ : σ 0 = some b := rfl
    have hgc : GF F1 := fun g cs e => by
      obtain ⟨xs, ty, fr, g1, g2⟩ := hw.gc g cs e
      refine ⟨xs, ty, fr, ?_, g2⟩
      show (if g = b then none else w.heap[g]?) = _
      rw [if_neg (fun e => by rw [e, p6 c1] at g1; cases g1)]
      exact hw.fr _ _ g1
    have hRW : RW F1 σ [(0, some ⟨true, t, C.enc w0⟩)] w := by
      refine ⟨fun id B hB => ?_, fun id id' B B' d hB hB' _ => ?_, fun k o hk => ?_, rfl, rfl, rfl, hgc⟩
      · rw [AH.get_cons] at hB
        split at hB
        · rename_i e; subst e; simp at hB; subst hB
          refine ⟨b, _, hσ, p2, .inl ⟨cx, (0, 0), rfl, fun _ => ⟨rfl, rfl⟩, by show 0 + (C.enc w0).length ≤ cx.size; rw [hlen, Nat.zero_add]; exact p4, fun j a v ha hv => ?_⟩, fun _ => if_pos rfl, rfl⟩
          rw [show σ.base 0 = 0 from rfl, Nat.zero_add] at hv
          have h8 := Rvs.of_flats (ρ := σ) (C.h1 w0)
          refine h8.2 j a v ha ?_
          rw [← hval, List.getElem?_take, if_pos (by rw [← hlen]; exact (List.getElem?_eq_some_iff.1 ha).1)]
          simpa using hv
        · simp [AH.get] at hB
      · have e : ∀ {k : Nat} {D : Blk}, AH.get [(0, some ⟨true, t, C.enc w0⟩)] k = some D → k = 0 := by
          intro k D hk
          rw [AH.get_cons] at hk
          split at hk
          · rename_i e; exact e.symm
          · simp [AH.get] at hk
        intro _ _
        rw [e hB, e hB']
      · have hk' : (if k = b then none else w.heap[k]?) = some o := hk
        split at hk'
        · cases hk'
        · exact hk'
    cases hv1 with
    | ptr hpb =>
    rw [p1] at hpb; simp at hpb; subst hpb
    rw [pz, Nat.zero_add]
    have hq0 : (afunW P E sym lf f t [D.enc z, .ptr 0 0, A.enc x, B.enc y] (C.enc w0)).holds (fun a => a = .tup [.tup [], .agg (C.enc (F z w0 x y))]) := Tree.holds_strict (by rw [hr]; exact (rfl : AV.tup [.tup [], .agg (C.enc (F z w0 x y))] = _))
    have hq1 : (afun P E sym (fun _ => none) lf f [D.enc z, .ptr 0 0, A.enc x, B.enc y] [(0, some ⟨true, t, C.enc w0⟩)] 1).holds (fun q : AV × AH => outW t q = .tup [.tup [], .agg (C.enc (F z w0 x y))]) := Tree.holds_bind (g := fun q => .leaf (outW t q)) hq0
    have hcalls := afun_calls hE hm hf hb hok (tabOk_none c) (K := fun q h' => q = .tup [] ∧ h'.get 0 = some ⟨true, t, C.enc (F z w0 x y)⟩)
      (Tree.holds_mono (fun q hq => outW_eq hq) hq1)
      (F := F1) (xs := [D.val z, .pointer (some ⟨b, 0, none⟩), A.val x, B.val y]) (.cons (.of_flat (D.h1 z)) (.cons (.ptr hσ) (.cons (.of_flat (A.h1 x)) (.cons (.of_flat (B.h1 y)) .nil)))) hRW (fun id hid => by show (if id = 0 then some b else none) = none; rw [if_neg (by omega)])
    refine Calls.mono hcalls ?_
    rintro e w' ⟨v, q, h', ρ', rfl, ⟨rfl, hget⟩, hrv, hrw, hsame⟩
    refine ⟨v, rfl, ?_, ?_⟩
    · obtain ⟨us, rfl, hus⟩ := hrv.tup_iff
      have := hus.unnil
      have e : us = #[] := by apply Array.ext'; simpa using this
      subst e
      exact .tup_mk .nil
    · obtain ⟨b', o', q1, q2, ⟨ys, fr', rfl, q3, q4, q5⟩, q6, q7⟩ := hrw.blkF hget (C.h1 _)
      obtain ⟨s1, s2⟩ := hsame 0 (by omega)
      rw [s1, hσ] at q1; simp at q1; subst q1
      rw [(q3 rfl).2, Nat.zero_add] at q4
      simp only [(q3 rfl).2, Nat.zero_add] at q5
      rw [(q3 rfl).1] at q2
      have q7 : ys.size = ρ'.cells 0 := q7
      rw [(s2 b hσ).1] at q7
      have hst := hw.wrote (w' := w') (getC_get hBk) p1 c1 (xs := cx) (by rw [c2]; exact p2) (C.enc (F z w0 x y)) ys pz q7 q4 (fun j a v ha hv => by
        have h8 := (Rvs.of_flats (ρ := ρ') (C.h1 (F z w0 x y)))
        have h9 := Rvs.of_flats (ρ := ρ) (C.h1 (F z w0 x y))
        have hlt : j < (C.enc (F z w0 x y)).length := (List.getElem?_eq_some_iff.1 ha).1
        obtain ⟨u, hu, hau⟩ := h9.getD ha
        have hr' : Rvs ρ' (C.enc (F z w0 x y)) (ys.toList.take (C.enc (F z w0 x y)).length) := rvs_prefix (by simpa using q4) (fun i a x ha hx => q5 i a x ha (by simpa using hx))
        have hfl := hr'.flats_eq (C.h1 (F z w0 x y))
        have : (ys.toList.take (C.enc (F z w0 x y)).length)[j]? = some v := by rw [List.getElem?_take, if_pos hlt]; simpa using hv
        rw [hfl, hu] at this
        simp at this; subst this
        exact hau) (by rw [c2]; exact q2) (fun k o hk hko => hrw.fr k o (by show (if k = b then none else w.heap[k]?) = some o; rw [if_neg hk]; exact hko)) hrw.os hrw.tape hrw.out
      rw [c1, c2] at hst
      exact hst
  · obtain ⟨d, i, a, b, z, w, x, y, rfl, h0, h1, h2, h3, ho⟩ := key hg
    simp at ho
    obtain ⟨_, _, rfl⟩ := ho
    intro p hp
    simp at hp; subst hp
    unfold blkDecW at h1
    split at h1
    · cases h1
    · rename_i Bk hBk; exact ⟨Bk, getC_get hBk⟩

/-- One way or another, by the form of the arguments. -/
def gIf (p : List AV → Bool) (g g' : List AV → AH → Option (Bool × AV × AH)) (as : List AV) (h : AH) : Option (Bool × AV × AH) := bif p as then g as h else g' as h

theorem gIf_ok {P : Program} {f : FuncId} {p : List AV → Bool} {g g' : List AV → AH → Option (Bool × AV × AH)} (h : HeapOk P f g) (k : HeapOk P f g') : HeapOk P f (gIf p g g') := by
  refine ⟨fun F ρ as xs hh r ups w hg hx hw => ?_, fun as hh h' x hle hg => ?_, fun ρ as xs z b hh x hx hz hg => ?_, fun as hh c r ups hg => ?_, fun as hh h' x hle hg => ?_⟩ <;> unfold gIf at hg <;> (try unfold gIf) <;> cases hp : p as <;> rw [hp] at hg <;> simp only [cond_true, cond_false] at hg ⊢
  · exact k.run F ρ as xs hh r ups w hg hx hw
  · exact h.run F ρ as xs hh r ups w hg hx hw
  · exact k.mono as hh h' x hle hg
  · exact h.mono as hh h' x hle hg
  · exact k.local_ ρ as xs z b hh x hx hz hg
  · exact h.local_ ρ as xs z b hh x hx hz hg
  · exact k.dom as hh c r ups hg
  · exact h.dom as hh c r ups hg
  · exact k.loc as hh h' x hle hg
  · exact h.loc as hh h' x hle hg

end Go.Rq

/- Functions that lay a slice; functions that read a slice whose length may be a variable. -/
namespace Go.Rq
open Go

abbrev LayTab := List (FuncId × (List AV → Nat → Option (Bool × AV × Blk)))

def lookLT : LayTab → FuncId → Option (List AV → Nat → Option (Bool × AV × Blk))
  | [], _ => none
  | (f, g) :: t, k => bif Nat.beq f k then some g else lookLT t k

theorem lookLT_mem : ∀ {ps : LayTab} {f : FuncId} {g}, lookLT ps f = some g → (f, g) ∈ ps
  | [], f, g, h => by simp [lookLT] at h
  | (k, q) :: t, f, g, h => by
    simp only [lookLT] at h
    cases hb : Nat.beq k f with
    | true => rw [hb] at h; simp at h; subst h; rw [Nat.eq_of_beq_eq_true hb]; simp
    | false => rw [hb] at h; exact List.mem_cons_of_mem _ (lookLT_mem h)

def TabLOk (P : Program) (ps : LayTab) : Prop := ∀ p ∈ ps, Enters P p.1 ∧ LayOk P p.1 p.2
theorem TabLOk.nil {P : Program} : TabLOk P [] := fun p h => by simp at h
theorem TabLOk.cons {P : Program} {f : FuncId} {g : List AV → Nat → Option (Bool × AV × Blk)} {t : LayTab} (h1 : Enters P f) (h : LayOk P f g) (r : TabLOk P t) : TabLOk P ((f, g) :: t) := by
  intro p hp
  rcases List.mem_cons.1 hp with rfl | hp
  · exact ⟨h1, h⟩
  · exact r p hp

/-- All kinds of tables; whether places may be variables. -/
def envL (eqs : List (TypeId × List Nat)) (ps : PureTab) (hs : HeapTab) (ls : LayTab) (wide : Bool) : Env := ⟨lookP ps, lookHT hs, lookE eqs, wide, true, [], [], lookLT ls, none, fun _ => none, false, [], 1⟩
theorem envL_ok {P : Program} {eqs : List (TypeId × List Nat)} {ps : PureTab} {hs : HeapTab} {ls : LayTab} {wide : Bool} (he : EqsOk P eqs) (hp : TabPOk P ps) (hh : TabHOk P hs) (hl : TabLOk P ls) : EnvOk P (envL eqs ps hs ls wide) :=
  ⟨fun _ _ h => he _ (lookE_mem h), fun _ _ h => hp _ (lookP_mem h), fun _ _ h => hh _ (lookHT_mem h), fun _ _ h => hl _ (lookLT_mem h), (fun _ _ h => by cases h), Nat.le_refl 1⟩

/-- A block that came from elsewhere is named. -/
theorem RW.adopt {F : Fr} {ρ : Ren} {h : AH} {w : World} (r : RW F ρ h w) {id b : Nat} (hid : ρ id = none) (hF : F.blocks b = none) (hne : ∀ j B, h.get j = some B → ρ j ≠ some b) (t : TypeId) (cs : List AV) {xs : Array Value}
    (hx : w.heap[b]? = some (.cells xs t (0, 0))) (hl : cs.length ≤ xs.size) (hr : ∀ (σ : Ren) (i : Nat) (a : AV) (x : Value), cs[i]? = some a → xs[i]? = some x → Rv σ a x) :
    RW F (ρ.upd id b xs.size) ((id, some ⟨true, t, cs⟩) :: h) w := by
  have hle := Ren.le_upd (b := b) (n := xs.size) hid
  refine ⟨fun j B hj => ?_, fun j j' B B' c hj hj' hw hc hc' => ?_, r.fr, r.os, r.tape, r.out, r.gc⟩
  · rw [AH.get_cons] at hj
    split at hj
    · rename_i e; subst e; simp at hj; subst hj
      exact ⟨b, _, Ren.upd_same _ _ _ _, hx, .inl ⟨xs, (0, 0), rfl, fun _ => ⟨rfl, Ren.upd_base _ _ _ _⟩, by rw [Ren.upd_base, Nat.zero_add]; exact hl, fun i a x ha hx' => hr _ i a x ha (by rw [Ren.upd_base, Nat.zero_add] at hx'; exact hx')⟩, fun _ => hF, by simp [count, Ren.upd_cells]⟩
    · obtain ⟨c, o, hc, ho, hB, hk⟩ := r.blk j B hj
      exact ⟨c, o, (hle _ _ hc).1, ho, hB.mono hle hc, hk.1, hk.2.trans (hle _ _ hc).2.1.symm⟩
  · have key : ∀ {k : Nat} {C : Blk}, AH.get ((id, some ⟨true, t, cs⟩) :: h) k = some C → k ≠ id → h.get k = some C := by
      intro k C hk hn
      rw [AH.get_cons, if_neg (fun e => hn e.symm)] at hk
      exact hk
    by_cases e1 : j = id
    · by_cases e2 : j' = id
      · rw [e1, e2]
      · subst e1
        rw [Ren.upd_same] at hc; simp at hc; subst hc
        rw [Ren.upd_ne _ e2] at hc'
        exact absurd hc' (hne _ _ (key hj' e2))
    · by_cases e2 : j' = id
      · subst e2
        rw [Ren.upd_same] at hc'; simp at hc'; subst hc'
        rw [Ren.upd_ne _ e1] at hc
        exact absurd hc (hne _ _ (key hj e1))
      · rw [Ren.upd_ne _ e1] at hc
        rw [Ren.upd_ne _ e2] at hc'
        exact r.inj j j' B B' c (key hj e1) (key hj' e2) hw hc hc'

/-- The argument is exact; a new slice of a new row is handed back. -/
def layS {α γ : Type} (A : Cod α) (t : TypeId) (C : CC γ) (L : α → Nat) (cap : Nat) (F : α → γ) : List AV → Nat → Option (Bool × AV × Blk)
  | [a], z => match A.dec a with
    | none => none
    | some x => some (true, .slc z 0 (L x) cap, ⟨true, t, C.enc (F x)⟩)
  | _, _ => none

/-- A slice that is handed back, and its row. -/
def outS (t : TypeId) (q : AV × AH) : AV := match q.1 with
  | .slc i 0 len cap => match q.2.get i with
    | none => .any
    | some B => match B.wr && Nat.beq B.ty t with
      | true => .tup [.slc 0 0 len cap, .agg B.cs]
      | false => .any
  | _ => .any

theorem outS_eq {t : TypeId} {q : AV × AH} {len cap : Nat} {cs : List AV} (h : outS t q = .tup [.slc 0 0 len cap, .agg cs]) : ∃ i, q.1 = .slc i 0 len cap ∧ q.2.get i = some ⟨true, t, cs⟩ := by
  unfold outS at h
  split at h
  · rename_i i len' cap' hq
    split at h
    · cases h
    · rename_i B hB
      split at h
      · rename_i hc
        simp only [Bool.and_eq_true] at hc
        simp at h
        obtain ⟨⟨rfl, rfl⟩, h2⟩ := h
        refine ⟨i, hq, ?_⟩
        rw [hB]
        obtain ⟨wr, ty, cs'⟩ := B
        simp at hc h2
        obtain ⟨e1, e2⟩ := hc
        subst e1; subst e2; subst h2
        rfl
      · cases h
  · cases h

def afunS (P : Program) (E : Env) (sym : List Tmp) (lf f : Nat) (t : TypeId) (as : List AV) : Tree AV := (afun P E sym (fun _ => none) lf f as [] 0).bind fun q => .leaf (outS t q)

theorem layS_ok {P : Program} {E : Env} {sym : List Tmp} {lf f : Nat} (X : Ctx P E sym (fun _ => none) lf f) {α γ : Type} {t : TypeId} {A : Cod α} {C : CC γ} {L : α → Nat} {cap : Nat} {F : α → γ}
    (hr : ∀ x, (afunS P E sym lf f t [A.enc x]).holds (fun a => a = .tup [.slc 0 0 (L x) cap, .agg (C.enc (F x))])) : LayOk P f (layS A t C L cap F) := by
  obtain ⟨fn, c, hf, hb, hok, htab⟩ := X.body
  have key : ∀ {as : List AV} {z : Nat} {o : Bool × AV × Blk}, layS A t C L cap F as z = some o → ∃ a x, as = [a] ∧ A.dec a = some x ∧ o = (true, .slc z 0 (L x) cap, ⟨true, t, C.enc (F x)⟩) := by
    intro as z o hg
    unfold layS at hg
    split at hg
    · rename_i a
      split at hg
      · cases hg
      · rename_i x hx
        simp at hg
        exact ⟨a, x, rfl, hx, hg.symm⟩
    · cases hg
  constructor
  · intro F' ρ as xs h z r Bz w hg hx hw hz
    obtain ⟨a, x, rfl, hd, ho⟩ := key hg
    simp at ho
    obtain ⟨rfl, rfl⟩ := ho
    obtain ⟨v, ys, rfl, hv, hx'⟩ := hx.uncons
    rw [hx'.unnil]
    have e0 := A.h2 ρ _ _ _ hd hv
    subst e0
    have hq := Tree.holds_bind (g := fun q => .leaf (outS t q)) (hr x)
    have := afun_calls X.env X.mixed hf hb hok htab (K := fun q h' => ∃ i, q = .slc i 0 (L x) cap ∧ h'.get i = some ⟨true, t, C.enc (F x)⟩)
      (Tree.holds_mono (fun q hq => outS_eq hq) hq) (F := frameOf w) (ρ := Ren.empty) (xs := [A.val x]) (w := w) (.cons (.of_flat (A.h1 x)) .nil) (RW.init w _ hw.gw) (fun _ _ => rfl)
    refine Calls.mono this ?_
    rintro e w' ⟨u, q, h', ρ', rfl, ⟨i, rfl, hget⟩, hrv, hrw, _⟩
    obtain ⟨b, o, p1, p2, ⟨cx, fr, rfl, p3, p4, p5⟩, p6, p7⟩ := hrw.blkF hget (C.h1 _)
    have pz := (p3 rfl).2
    rw [(p3 rfl).1] at p2
    rw [pz] at p4 p5
    simp only [Nat.zero_add] at p4 p5
    have hnew : w.heap[b]? = none := p6 rfl
    have hrel := rvs_prefix (ρ := ρ') (cs := C.enc (F x)) (xs := cx.toList) (by simpa using p4) (fun i a x ha hx => p5 i a x ha (by simpa using hx))
    have hval := hrel.flats_eq (C.h1 (F x))
    have hF : F'.blocks b = none := by
      cases hb : F'.blocks b with
      | none => rfl
      | some o => have := hw.fr b o hb; rw [hnew] at this; cases this
    cases hrv with
    | slc hsb =>
      rw [p1] at hsb; simp at hsb; subst hsb
      rw [pz]
      refine ⟨_, ρ.upd z b cx.size, rfl, Ren.le_upd hz, fun j hj => Ren.upd_ne ρ hj, .slcU, ?_⟩
      refine (hw.below hrw.to_below).adopt hz hF (fun j B hj e => ?_) t (C.enc (F x)) p2 p4 (fun σ j a v ha hv => ?_)
      · obtain ⟨b', o', q1, q2, _⟩ := hw.blk j B hj
        rw [q1] at e; simp at e; subst e
        rw [hnew] at q2; cases q2
      · have h8 := Rvs.of_flats (ρ := σ) (C.h1 (F x))
        refine h8.2 j a v ha ?_
        rw [← hval, List.getElem?_take, if_pos (List.getElem?_eq_some_iff.1 ha).1]
        simpa using hv

/-! A function that reads one slice, whose length may be a variable. -/

def slv {β γ δ : Type} (t : TypeId) (D : Cod δ) (C : CC γ) (B : Cod β) (ok : Nat → Bool) (F : δ → γ → Nat → β) : List AV → AH → Option (Bool × AV × AH)
  | [d, .slc i 0 len _], h => match D.dec d, blkDec C t h i with
    | some z, some x => some (ok len, B.enc (F z x len), [])
    | _, _ => none
  | _, _ => none

def oneAH {α : Type} (A : CC α) (t : TypeId) (x : α) : AH := [(0, some ⟨false, t, A.enc x⟩)]

theorem slv_ok {β γ δ : Type} {P : Program} {E : Env} {sym : List Tmp} {lf f : Nat} {tab : δ → γ → Nat → Nat → BTab} {c : Code} {fn : Func} (hE : EnvOk P E) (hm : P.follows .mixedOrders = true) (hf : P.funcs.toList[f]? = some fn) (hb : fn.body = some c)
    (hok : codeOk E c = true) {D : Cod δ} {C : CC γ} {B : Cod β} {F : δ → γ → Nat → β} {t : TypeId} {ok : Nat → Bool} (htab : ∀ z x len cap, ok len = true → TabOk P 1 (tab z x len cap) c)
    (hr : ∀ z x len cap, ok len = true → GivesH (afun P E sym (tab z x len cap) lf f [D.enc z, .slc 0 0 len cap] (oneAH C t x) 1) (B.val (F z x len))) : HeapOk P f (slv t D C B ok F) := by
  have key : ∀ {as : List AV} {h : AH} {o : Bool × AV × AH}, slv t D C B ok F as h = some o → ∃ d i len cap z x, as = [d, .slc i 0 len cap] ∧ D.dec d = some z ∧ blkDec C t h i = some x ∧ o = (ok len, B.enc (F z x len), []) := by
    intro as h o hg
    unfold slv at hg
    split at hg
    · rename_i d i len cap
      split at hg
      · rename_i z x hz hx
        simp at hg
        exact ⟨d, i, len, cap, z, x, rfl, hz, hx, hg.symm⟩
      · cases hg
    · cases hg
  have again : ∀ {as : List AV} {h h' : AH} {o : Bool × AV × AH}, slv t D C B ok F as h = some o → (∀ i, i ∈ idsOf as → ∀ B, h.get i = some B → h'.get i = some B) → slv t D C B ok F as h' = some o := by
    intro as h h' o hg hh
    obtain ⟨d, i, len, cap, z, x, rfl, hz, hx, rfl⟩ := key hg
    have hi : i ∈ idsOf [d, .slc i 0 len cap] := by
      simp only [idsOf]
      split <;> simp
    unfold slv
    simp only [hz, blkDec_congr (hh i hi) hx]
  refine ⟨?_, fun as h h' x hle hg => again hg (fun i _ B hB => hle i B hB), fun ρ as xs z b h x hx hz hg => again hg (fun i hi B hB => by
      rw [AH.get_cons, if_neg (fun e => hx.ids_ne hz i hi e.symm)] at hB; exact hB), fun as h c' r ups hg => ?_, fun as h h' x hh hg => again hg hh⟩
  · intro F' ρ as xs h r ups w hg hx hw
    obtain ⟨d, i, len, cap, z, x, rfl, hz, h1, ho⟩ := key hg
    simp at ho
    obtain ⟨hk, rfl, rfl⟩ := ho
    obtain ⟨p, xs0, rfl, hp, hx0⟩ := hx.uncons
    obtain ⟨u, xs', rfl, hu, hx'⟩ := hx0.uncons
    rw [hx'.unnil]
    have hpv := D.h2 ρ _ _ _ hz hp
    subst hpv
    obtain ⟨b, cx, fr, p1, p2, p3, p4, p5⟩ := blk_again hw h1
    let σ : Ren := ⟨fun id => if id = 0 then some b else none, fun _ => cx.size, fun _ => ρ.base i⟩
    have hσ : σ 0 = some b := rfl
    have hRW : RW (frameOf w) σ (oneAH C t x) w := by
      refine ⟨fun id B hB => ?_, fun id id' B B' d hB hB' hwr => ?_, fun _ _ h => h, rfl, rfl, rfl, hw.gw⟩
      · unfold oneAH at hB
        rw [AH.get_cons] at hB
        split at hB
        · rename_i e; subst e; simp at hB; subst hB
          exact ⟨b, _, hσ, p2, .inl ⟨cx, fr, rfl, (fun h => by cases h), p4, fun k a v ha hv => p5 σ k a v ha hv⟩, (fun h => by cases h), rfl⟩
        · simp [AH.get] at hB
      · unfold oneAH at hB
        rw [AH.get_cons] at hB
        split at hB
        · simp at hB; subst hB; cases hwr
        · simp [AH.get] at hB
    cases hu with
    | slc hsb =>
      rw [p1] at hsb; simp at hsb; subst hsb
      have := afun_calls hE hm hf hb hok (htab z x len cap hk) (K := fun q _ => flat q = some (B.val (F z x len))) (hr z x len cap hk).out (F := frameOf w) (.cons (.of_flat (D.h1 z)) (.cons (show Rv σ (.slc 0 0 len cap) (.slice (some ⟨b, ρ.base i + 0, none⟩) len cap) from Rv.slc (ρ := σ) hσ) .nil)) hRW (fun id hid => by show (if id = 0 then some b else none) = none; rw [if_neg (by omega)])
      refine Calls.mono this ?_
      rintro e w' ⟨v', q', h', ρ', rfl, hk', hrv, hrw, _⟩
      have := hrv.flat_eq hk'
      subst this
      exact ⟨_, rfl, .of_flat (B.h1 _), hw.below hrw.to_below⟩
  · obtain ⟨d, i, len, cap, z, x, _, _, _, ho⟩ := key hg
    simp at ho
    obtain ⟨_, _, rfl⟩ := ho
    simp
end Go.Rq

/- Functions that read one block by a pointer; functions that lay one block and hand back a pointer to it. -/
namespace Go.Rq
open Go

/-- Several exact arguments. -/
structure MC (δ : Type) where
  enc : δ → List AV
  dec : List AV → Option δ
  val : δ → List Value
  h1 : ∀ x, flatL (enc x) = some (val x)
  h2 : ∀ (ρ : Ren) (as : List AV) (vs : List Value) (x : δ), dec as = some x → Rvs ρ as vs → vs = val x

def mc0 : MC Unit where
  enc _ := []
  dec as := match as with
    | [] => some ()
    | _ => none
  val _ := []
  h1 _ := rfl
  h2 ρ as vs x h r := by
    split at h
    · exact r.unnil
    · cases h

def mc1 {α : Type} (A : Cod α) : MC α where
  enc x := [A.enc x]
  dec as := match as with
    | [a] => A.dec a
    | _ => none
  val x := [A.val x]
  h1 x := by simp [flatL, A.h1]
  h2 ρ as vs x h r := by
    split at h
    · obtain ⟨v, ys, rfl, h1, h2⟩ := r.uncons
      rw [h2.unnil, A.h2 ρ _ _ _ h h1]
    · cases h

def mc2 {α β : Type} (A : Cod α) (B : Cod β) : MC (α × β) where
  enc x := [A.enc x.1, B.enc x.2]
  dec as := match as with
    | [a, b] => match A.dec a, B.dec b with
      | some x, some y => some (x, y)
      | _, _ => none
    | _ => none
  val x := [A.val x.1, B.val x.2]
  h1 x := by simp [flatL, A.h1, B.h1]
  h2 ρ as vs x h r := by
    split at h
    · split at h
      · rename_i p q hp hq
        simp at h; subst h
        obtain ⟨v, ys, rfl, h1, h2⟩ := r.uncons
        obtain ⟨u, zs, rfl, h3, h4⟩ := h2.uncons
        rw [h4.unnil, A.h2 ρ _ _ _ hp h1, B.h2 ρ _ _ _ hq h3]
      · cases h
    · cases h

/-- The first argument's block is read; the others are exact. -/
def rdp {β γ δ : Type} (t : TypeId) (C : CC γ) (D : MC δ) (B : Cod β) (F : γ → δ → β) : List AV → AH → Option (Bool × AV × AH)
  | .ptr i 0 :: rest, h => match blkDec C t h i, D.dec rest with
    | some x, some z => some (true, B.enc (F x z), [])
    | _, _ => none
  | _, _ => none

theorem rdp_ok {β γ δ : Type} {P : Program} {E : Env} {sym : List Tmp} {lf f : Nat} {c : Code} {fn : Func} (hE : EnvOk P E) (hm : P.follows .mixedOrders = true) (hf : P.funcs.toList[f]? = some fn) (hb : fn.body = some c)
    (hok : codeOk E c = true) {D : MC δ} {C : CC γ} {B : Cod β} {F : γ → δ → β} {t : TypeId}
    (hr : ∀ x z, GivesH (afun P E sym (fun _ => none) lf f (.ptr 0 0 :: D.enc z) (oneAH C t x) 1) (B.val (F x z))) : HeapOk P f (rdp t C D B F) := by
  have key : ∀ {as : List AV} {h : AH} {o : Bool × AV × AH}, rdp t C D B F as h = some o → ∃ i rest x z, as = .ptr i 0 :: rest ∧ D.dec rest = some z ∧ blkDec C t h i = some x ∧ o = (true, B.enc (F x z), []) := by
    intro as h o hg
    unfold rdp at hg
    split at hg
    · rename_i i rest
      split at hg
      · rename_i x z hx hz
        simp at hg
        exact ⟨i, rest, x, z, rfl, hz, hx, hg.symm⟩
      · cases hg
    · cases hg
  have again : ∀ {as : List AV} {h h' : AH} {o : Bool × AV × AH}, rdp t C D B F as h = some o → (∀ i, i ∈ idsOf as → ∀ B, h.get i = some B → h'.get i = some B) → rdp t C D B F as h' = some o := by
    intro as h h' o hg hh
    obtain ⟨i, rest, x, z, rfl, hz, hx, rfl⟩ := key hg
    have hi : i ∈ idsOf (.ptr i 0 :: rest) := by simp [idsOf]
    unfold rdp
    simp only [hz, blkDec_congr (hh i hi) hx]
  refine ⟨?_, fun as h h' x hle hg => again hg (fun i _ B hB => hle i B hB), fun ρ as xs z b h x hx hz hg => again hg (fun i hi B hB => by
      rw [AH.get_cons, if_neg (fun e => hx.ids_ne hz i hi e.symm)] at hB; exact hB), fun as h c' r ups hg => ?_, fun as h h' x hh hg => again hg hh⟩
  · intro F' ρ as xs h r ups w hg hx hw
    obtain ⟨i, rest, x, z, rfl, hz, h1, ho⟩ := key hg
    simp at ho
    obtain ⟨rfl, rfl⟩ := ho
    obtain ⟨u, xs', rfl, hu, hx'⟩ := hx.uncons
    have hpv := D.h2 ρ _ _ _ hz hx'
    subst hpv
    obtain ⟨b, cx, fr, p1, p2, p3, p4, p5⟩ := blk_again hw h1
    let σ : Ren := ⟨fun id => if id = 0 then some b else none, fun _ => cx.size, fun _ => ρ.base i⟩
    have hσ : σ 0 = some b := rfl
    have hRW : RW (frameOf w) σ (oneAH C t x) w := by
      refine ⟨fun id B hB => ?_, fun id id' B B' d hB hB' hwr => ?_, fun _ _ h => h, rfl, rfl, rfl, hw.gw⟩
      · unfold oneAH at hB
        rw [AH.get_cons] at hB
        split at hB
        · rename_i e; subst e; simp at hB; subst hB
          exact ⟨b, _, hσ, p2, .inl ⟨cx, fr, rfl, (fun h => by cases h), p4, fun k a v ha hv => p5 σ k a v ha hv⟩, (fun h => by cases h), rfl⟩
        · simp [AH.get] at hB
      · unfold oneAH at hB
        rw [AH.get_cons] at hB
        split at hB
        · simp at hB; subst hB; cases hwr
        · simp [AH.get] at hB
    cases hu with
    | ptr hsb =>
      rw [p1] at hsb; simp at hsb; subst hsb
      have := afun_calls hE hm hf hb hok (tabOk_none c) (K := fun q _ => flat q = some (B.val (F x z))) (hr x z).out (F := frameOf w) (.cons (show Rv σ (.ptr 0 0) (.pointer (some ⟨b, ρ.base i + 0, none⟩)) from Rv.ptr (ρ := σ) hσ) (Rvs.of_flatL (D.h1 z))) hRW (fun id hid => by show (if id = 0 then some b else none) = none; rw [if_neg (by omega)])
      refine Calls.mono this ?_
      rintro e w' ⟨v', q', h', ρ', rfl, hk', hrv, hrw, _⟩
      have := hrv.flat_eq hk'
      subst this
      exact ⟨_, rfl, .of_flat (B.h1 _), hw.below hrw.to_below⟩
  · obtain ⟨i, rest, x, z, _, _, _, ho⟩ := key hg
    simp at ho
    obtain ⟨_, _, rfl⟩ := ho
    simp

/-! A function that lays one block and hands back a pointer to it, and a number. -/
def layP {α γ : Type} (A : Cod α) (t : TypeId) (C : CC γ) (k : Int) (F : α → γ) : List AV → Nat → Option (Bool × AV × Blk)
  | [a], z => match A.dec a with
    | none => none
    | some x => some (true, .tup [.ptr z 0, .v (.int .i64 k)], ⟨true, t, C.enc (F x)⟩)
  | _, _ => none

def outP (t : TypeId) (q : AV × AH) : AV := match q.1 with
  | .tup [.ptr i 0, k] => match q.2.get i with
    | none => .any
    | some B => match B.wr && Nat.beq B.ty t with
      | true => .tup [.agg B.cs, k]
      | false => .any
  | _ => .any

theorem outP_eq {t : TypeId} {q : AV × AH} {k : AV} {cs : List AV} (h : outP t q = .tup [.agg cs, k]) : ∃ i, q.1 = .tup [.ptr i 0, k] ∧ q.2.get i = some ⟨true, t, cs⟩ := by
  unfold outP at h
  split at h
  · rename_i i k' hq
    split at h
    · cases h
    · rename_i B hB
      split at h
      · rename_i hc
        simp only [Bool.and_eq_true] at hc
        simp at h
        obtain ⟨h2, rfl⟩ := h
        refine ⟨i, hq, ?_⟩
        rw [hB]
        obtain ⟨wr, ty, cs'⟩ := B
        simp at hc h2
        obtain ⟨e1, e2⟩ := hc
        subst e1; subst e2; subst h2
        rfl
      · cases h
  · cases h

def afunQ (P : Program) (E : Env) (sym : List Tmp) (tab : BTab) (lf f : Nat) (t : TypeId) (args : List AV) : Tree AV := (afun P E sym tab lf f args [] 0).bind fun q => .leaf (outP t q)

theorem layP_ok {P : Program} {α γ : Type} {t : TypeId} {A : Cod α} {C : CC γ} {k : Int} {F : α → γ} {f : Nat} {E : Env} {sym : List Tmp} {lf : Nat} {tab : α → BTab} (X : ∀ x, Ctx P E sym (tab x) lf f)
    (hr : ∀ x, (afunQ P E sym (tab x) lf f t [A.enc x]).holds (fun a => a = .tup [.agg (C.enc (F x)), .v (.int .i64 k)])) : LayOk P f (layP A t C k F) := by
  have key : ∀ {as : List AV} {z : Nat} {o : Bool × AV × Blk}, layP A t C k F as z = some o → ∃ a x, as = [a] ∧ A.dec a = some x ∧ o = (true, .tup [.ptr z 0, .v (.int .i64 k)], ⟨true, t, C.enc (F x)⟩) := by
    intro as z o hg
    unfold layP at hg
    split at hg
    · rename_i a
      split at hg
      · cases hg
      · rename_i x hx
        simp at hg
        exact ⟨a, x, rfl, hx, hg.symm⟩
    · cases hg
  constructor
  · intro F' ρ as xs h z r Bz w hg hx hw hz
    obtain ⟨a, x, rfl, hd, ho⟩ := key hg
    simp at ho
    obtain ⟨rfl, rfl⟩ := ho
    obtain ⟨fn, c, hf, hb, hok, htab⟩ := (X x).body
    obtain ⟨v, ys, rfl, hv, hx'⟩ := hx.uncons
    rw [hx'.unnil]
    have e0 := A.h2 ρ _ _ _ hd hv
    subst e0
    have hq := Tree.holds_bind (g := fun q => .leaf (outP t q)) (hr x)
    have := afun_calls (X x).env (X x).mixed hf hb hok htab (K := fun q h' => ∃ i, q = .tup [.ptr i 0, .v (.int .i64 k)] ∧ h'.get i = some ⟨true, t, C.enc (F x)⟩)
      (Tree.holds_mono (fun q hq => outP_eq hq) hq) (F := frameOf w) (ρ := Ren.empty) (xs := [A.val x]) (w := w) (.cons (.of_flat (A.h1 x)) .nil) (RW.init w _ hw.gw) (fun _ _ => rfl)
    refine Calls.mono this ?_
    rintro e w' ⟨u, q, h', ρ', rfl, ⟨i, rfl, hget⟩, hrv, hrw, _⟩
    obtain ⟨b, o, p1, p2, ⟨cx, fr, rfl, p3, p4, p5⟩, p6, p7⟩ := hrw.blkF hget (C.h1 _)
    have pz := (p3 rfl).2
    rw [(p3 rfl).1] at p2
    rw [pz] at p4 p5
    simp only [Nat.zero_add] at p4 p5
    have hnew : w.heap[b]? = none := p6 rfl
    have hrel := rvs_prefix (ρ := ρ') (cs := C.enc (F x)) (xs := cx.toList) (by simpa using p4) (fun i a x ha hx => p5 i a x ha (by simpa using hx))
    have hval := hrel.flats_eq (C.h1 (F x))
    have hF : F'.blocks b = none := by
      cases hb : F'.blocks b with
      | none => rfl
      | some o => have := hw.fr b o hb; rw [hnew] at this; cases this
    obtain ⟨us, rfl, hus⟩ := hrv.tup_iff
    obtain ⟨v0, y0, e0, h0, r0⟩ := hus.uncons
    obtain ⟨v1, y1, e1, h1, r1⟩ := r0.uncons
    have e2 := r1.unnil
    subst e2; subst e1
    cases h0 with
    | ptr hsb =>
      rw [p1] at hsb; simp at hsb; subst hsb
      rw [pz] at e0
      have hv1 : v1 = .int .i64 k := h1.scal_eq (y := .int .i64 k) rfl
      have eus : us = #[.pointer (some ⟨b, 0, none⟩), v1] := by apply Array.ext'; simpa using e0
      rw [eus]
      refine ⟨_, ρ.upd z b cx.size, rfl, Ren.le_upd hz, fun j hj => Ren.upd_ne ρ hj, ?_, ?_⟩
      · exact .tup_mk (.cons .ptrU (.cons (by rw [hv1]; exact .v _) .nil))
      refine (hw.below hrw.to_below).adopt hz hF (fun j B hj e => ?_) t (C.enc (F x)) p2 p4 (fun σ j a v ha hv => ?_)
      · obtain ⟨b', o', q1, q2, _⟩ := hw.blk j B hj
        rw [q1] at e; simp at e; subst e
        rw [hnew] at q2; cases q2
      · have h8 := Rvs.of_flats (ρ := σ) (C.h1 (F x))
        refine h8.2 j a v ha ?_
        rw [← hval, List.getElem?_take, if_pos (List.getElem?_eq_some_iff.1 ha).1]
        simpa using hv

/-- One value alone. -/
def kIs {α : Type} (A : Cod α) (y : α) (eqb : α → α → Bool) (h : ∀ x, eqb x y = true → x = y) : Cod Unit where
  enc _ := A.enc y
  dec a := match A.dec a with
    | some x => bif eqb x y then some () else none
    | none => none
  val _ := A.val y
  h1 _ := A.h1 y
  h2 ρ a v x hd r := by
    split at hd
    · rename_i z hz
      cases hb : eqb z y with
      | false => rw [hb] at hd; cases hd
      | true =>
        rw [A.h2 ρ _ _ _ hz r, h z hb]
    · cases hd

/-! The state at a block's head, behind other loops. -/
def hasB (t : Nat) : Code → Bool
  | .seq a b => hasB t a || hasB t b
  | .cond _ a b => hasB t a || hasB t b
  | .block id c => Nat.beq id t || hasB t c
  | .loop c => hasB t c
  | _ => false

def reachB (P : Program) (E : Env) (sym : List Tmp) (tab : BTab) (lf : Nat) (target : Nat) : Code → XS → Tree (Bool × AExit × XS)
  | .seq a b, x => (reachB P E sym tab lf target a x).bind fun r => match r with
    | (true, e, y) => .leaf (true, e, y)
    | (false, .normal, y) => reachB P E sym tab lf target b y
    | (false, e, y) => .leaf (false, e, y)
  | .cond c a b, x => match boolOf (look x.s.tm c) with
    | some true => reachB P E sym tab lf target a x
    | some false => reachB P E sym tab lf target b x
    | none => .fail
  | .block id c, x => bif Nat.beq id target then .leaf (true, .normal, x) else bif hasB target c then
      (reachB P E sym tab lf target c x).bind fun r => match r with
        | (false, .exit i, y) => bif Nat.beq i id then .leaf (false, .normal, y) else .leaf (false, .exit i, y)
        | r => .leaf r
    else (exec P E sym tab lf (.block id c) x).bind fun (e, y) => .leaf (false, e, y)
  | .loop c, x => reachB P E sym tab lf target c x
  | c, x => (exec P E sym tab lf c x).bind fun (e, y) => .leaf (false, e, y)

def entryB (P : Program) (E : Env) (sym : List Tmp) (tab : BTab) (lf : Nat) (f : Nat) (args : List AV) (h : AH) (n : Nat) (target : Nat) (k : Keep) : XS :=
  match firstT (reachB P E sym tab lf target (bodyOf P f) ⟨⟨args ++ undefs (ntmpsOf P f - args.length), h, true⟩, n⟩) with
  | some x => match trim k.tm k.ids k.n x with
    | some y => y
    | none => default
  | none => default
end Go.Rq

/- Slices as arguments: of several lengths, none among them. -/
namespace Go.Rq
open Go

/-- A slice as it is handed. -/
inductive SA where
  | nil
  | slc (n : Nat)
  | own (es n : Nat)

def SA.len : SA → Nat
  | .nil => 0
  | .slc n => n
  | .own _ n => n

def SA.at (s : SA) (id cap : Nat) : AV := match s with
  | .nil => .v (.slice none 0 0)
  | .slc n => .slc id 0 n cap
  | .own es n => .own id es 0 n

/-- What a slice is, and the cells of its block. -/
def readS (a : AV) (h : AH) : Option (SA × List AV) := match a with
  | .v (.slice none 0 0) => some (.nil, [])
  | .slc i 0 n _ => match h.getC i with
    | some B => some (.slc n, B.cs)
    | none => none
  | .own i es 0 n => match h.getC i with
    | some B => some (.own es n, B.cs)
    | none => none
  | _ => none

theorem readS_spec {a : AV} {h : AH} {s : SA} {cs : List AV} (e : readS a h = some (s, cs)) :
    (s = .nil ∧ cs = [] ∧ a = .v (.slice none 0 0)) ∨ ∃ i cap B, s ≠ .nil ∧ a = s.at i cap ∧ h.getC i = some B ∧ cs = B.cs := by
  unfold readS at e
  split at e
  · simp at e; obtain ⟨rfl, rfl⟩ := e; exact .inl ⟨rfl, rfl, rfl⟩
  · split at e
    · rename_i i n cap _ B hB
      simp at e; obtain ⟨rfl, rfl⟩ := e
      exact .inr ⟨i, cap, B, (fun h => by cases h), rfl, hB, rfl⟩
    · cases e
  · split at e
    · rename_i i es n _ B hB
      simp at e; obtain ⟨rfl, rfl⟩ := e
      exact .inr ⟨i, 0, B, (fun h => by cases h), rfl, hB, rfl⟩
    · cases e
  · cases e

/-! Lists of data, one after the other. -/
def encL {α : Type} (C : CC α) : List α → List AV
  | [] => []
  | x :: t => C.enc x ++ encL C t

def decL {α : Type} (C : CC α) : Nat → List AV → Option (List α)
  | 0, _ => some []
  | n + 1, cs => match C.dec (cs.take C.n), decL C n (cs.drop C.n) with
    | some x, some l => some (x :: l)
    | _, _ => none

theorem decL_len {α : Type} {C : CC α} : ∀ {n : Nat} {cs : List AV} {l : List α}, decL C n cs = some l → l.length = n
  | 0, cs, l, h => by simp [decL] at h; subst h; rfl
  | n + 1, cs, l, h => by
    simp only [decL] at h
    split at h
    · rename_i x m hx hm
      simp at h; subst h
      simp [decL_len hm]
    · cases h

theorem decL_enc {α : Type} {C : CC α} (hd : ∀ x, C.dec (C.enc x) = some x) : ∀ (l : List α) (r : List AV), decL C l.length (encL C l ++ r) = some l
  | [], r => rfl
  | x :: t, r => by
    have e : encL C (x :: t) ++ r = C.enc x ++ (encL C t ++ r) := by simp [encL]
    rw [e]
    simp only [List.length_cons, decL]
    rw [List.take_left' (C.len x), List.drop_left' (C.len x), hd x, decL_enc hd t r]

theorem encL_len {α : Type} {C : CC α} : ∀ (l : List α), (encL C l).length = C.n * l.length
  | [] => by simp [encL]
  | x :: t => by simp [encL, encL_len t, C.len, Nat.mul_add, Nat.add_comm]

theorem CC.val_len {α : Type} (C : CC α) (x : α) : (C.val x).length = C.n := by
  have := (Rvs.of_flats (ρ := Ren.empty) (C.h1 x)).1
  rw [← this, C.len]

theorem decL_rv {α : Type} {C : CC α} {ρ : Ren} : ∀ {n : Nat} {cs : List AV} {vs : List Value} {l : List α}, decL C n cs = some l → Rvs ρ cs vs →
    (encL C l).length ≤ vs.length ∧ ∀ σ, Rvs σ (encL C l) (vs.take (encL C l).length)
  | 0, cs, vs, l, h, r => by
    simp [decL] at h; subst h
    exact ⟨by simp [encL], fun σ => by simpa [encL] using (Rvs.nil (ρ := σ))⟩
  | n + 1, cs, vs, l, h, r => by
    simp only [decL] at h
    split at h
    · rename_i x m hx hm
      simp at h; subst h
      obtain ⟨h1, h2⟩ := decL_rv hm (r.drop C.n)
      have h3 := C.h2 ρ _ _ _ hx (r.take C.n)
      have h4 : C.n ≤ vs.length := by
        have := congrArg List.length h3
        rw [C.val_len] at this
        simp at this
        omega
      refine ⟨?_, fun σ => ?_⟩
      · simp only [encL, List.length_append, C.len]
        simp at h1
        omega
      · have e : vs.take (encL C (x :: m)).length = vs.take C.n ++ (vs.drop C.n).take (encL C m).length := by
          simp only [encL, List.length_append, C.len, List.take_add]
        rw [e, h3]
        exact (Rvs.of_flats (C.h1 x)).append (h2 σ)
    · cases h

/-! Slices that are handed. -/
structure Hd where
  s : SA
  cap : Nat
  t : TypeId
  cs : List AV
  fb : Option Nat
  n : Nat
  base : Nat

/-- What a handed slice is in a world. -/
structure HandS (w : World) (x : Hd) (v : Value) : Prop where
  rv : ∀ (σ : Ren) (id : Nat), σ id = x.fb → σ.cells id = x.n → σ.base id = x.base → Rv σ (x.s.at id x.cap) v
  blk : x.s ≠ .nil → ∃ b xs fr, x.fb = some b ∧ w.heap[b]? = some (.cells xs x.t fr) ∧ xs.size = x.n ∧ x.base + x.cs.length ≤ xs.size ∧
    ∀ (σ : Ren) (j : Nat) (a : AV) (u : Value), x.cs[j]? = some a → xs[x.base + j]? = some u → Rv σ a u

def hpS (id : Nat) (s : SA) (t : TypeId) (cs : List AV) : AH := match s with
  | .nil => []
  | _ => [(id, some ⟨false, t, cs⟩)]

def hHeap : Nat → List Hd → AH
  | _, [] => []
  | i, x :: t => hpS i x.s x.t x.cs ++ hHeap (i + 1) t

theorem hHeap_get : ∀ (l : List Hd) (i id : Nat) (B : Blk), (hHeap i l).get id = some B → ∃ j x, id = i + j ∧ l[j]? = some x ∧ x.s ≠ .nil ∧ B = ⟨false, x.t, x.cs⟩
  | [], i, id, B, h => by simp [hHeap, AH.get] at h
  | x :: t, i, id, B, h => by
    have next : (hHeap (i + 1) t).get id = some B → ∃ j y, id = i + j ∧ (x :: t)[j]? = some y ∧ y.s ≠ .nil ∧ B = ⟨false, y.t, y.cs⟩ := fun h => by
      obtain ⟨j, y, h1, h2, h3, h4⟩ := hHeap_get t (i + 1) id B h
      exact ⟨j + 1, y, by omega, by simpa using h2, h3, h4⟩
    cases hs : x.s with
    | nil =>
      simp only [hHeap, hs, hpS, List.nil_append] at h
      exact next h
    | slc n =>
      simp only [hHeap, hs, hpS, List.cons_append, List.nil_append] at h
      rw [AH.get_cons] at h
      split at h
      · rename_i e
        simp at h
        exact ⟨0, x, by omega, rfl, (by rw [hs]; exact fun h => by cases h), h.symm⟩
      · exact next h
    | own es n =>
      simp only [hHeap, hs, hpS, List.cons_append, List.nil_append] at h
      rw [AH.get_cons] at h
      split at h
      · rename_i e
        simp at h
        exact ⟨0, x, by omega, rfl, (by rw [hs]; exact fun h => by cases h), h.symm⟩
      · exact next h

def hRen (l : List Hd) : Ren := ⟨fun id => match l[id]? with
    | some x => x.fb
    | none => none, fun id => match l[id]? with
    | some x => x.n
    | none => 0, fun id => match l[id]? with
    | some x => x.base
    | none => 0⟩

theorem hRW {w : World} (hg : GW w) {l : List Hd} (h : ∀ x ∈ l, ∃ v, HandS w x v) : RW (frameOf w) (hRen l) (hHeap 0 l) w := by
  refine ⟨fun id B hB => ?_, fun id id' B B' d hB hB' hwr => ?_, fun _ _ h => h, rfl, rfl, rfl, hg⟩
  · obtain ⟨j, x, e, hx, hn, rfl⟩ := hHeap_get l 0 id B hB
    rw [Nat.zero_add] at e
    subst e
    obtain ⟨v, hv⟩ := h x (List.mem_of_getElem? hx)
    obtain ⟨b, xs, fr, h1, h2, h3, h4, h5⟩ := hv.blk hn
    have e1 : (hRen l) id = x.fb := by simp [hRen, hx]
    have e2 : (hRen l).cells id = x.n := by simp [hRen, hx]
    have e3 : (hRen l).base id = x.base := by simp [hRen, hx]
    exact ⟨b, _, e1.trans h1, h2, .inl ⟨xs, fr, rfl, (fun h => by cases h), by rw [e3]; exact h4, fun i a u ha hu => h5 _ i a u ha (by rw [← e3]; exact hu)⟩, (fun h => by cases h), h3.trans e2.symm⟩
  · obtain ⟨j, x, e, hx, hn, rfl⟩ := hHeap_get l 0 id B hB
    cases hwr

theorem hRen_at {w : World} {l : List Hd} {j : Nat} {x : Hd} {v : Value} (hx : l[j]? = some x) (h : HandS w x v) : Rv (hRen l) (x.s.at j x.cap) v :=
  h.rv _ _ (by simp [hRen, hx]) (by simp [hRen, hx]) (by simp [hRen, hx])

theorem hRen_none {l : List Hd} (id : Nat) (h : l.length ≤ id) : (hRen l) id = none := by
  simp [hRen, List.getElem?_eq_none h]

/-- A slice that is handed on. -/
theorem hand_of {α : Type} {F : Fr} {ρ : Ren} {h : AH} {w : World} (hw : RW F ρ h w) {A : CC α} {a : AV} {s : SA} {cs : List AV} (hr : readS a h = some (s, cs)) {l : List α} (hd : decL A s.len cs = some l) {v : Value} (hv : Rv ρ a v) :
    ∃ x : Hd, x.s = s ∧ x.cs = encL A l ∧ HandS w x v := by
  rcases readS_spec hr with ⟨rfl, rfl, rfl⟩ | ⟨i, cap, B, hn, rfl, hB, rfl⟩
  · have : l = [] := by simpa [SA.len, decL] using hd.symm
    subst this
    cases hv
    exact ⟨⟨.nil, 0, default, [], none, 0, 0⟩, rfl, rfl, ⟨fun σ id _ _ _ => .v _, fun h => absurd rfl h⟩⟩
  · obtain ⟨b, o, h1, h2, ⟨xs, fr, rfl, h3, h4, h5⟩, h6, h7⟩ := hw.blkC hB
    have hrel := rvs_prefix (ρ := ρ) (cs := B.cs) (xs := xs.toList.drop (ρ.base i)) (by simp; omega) (fun j a x ha hx => h5 j a x ha (by simpa using hx))
    obtain ⟨k1, k2⟩ := decL_rv hd hrel
    simp at k1
    refine ⟨⟨s, cap, B.ty, encL A l, some b, xs.size, ρ.base i⟩, rfl, rfl, ⟨fun σ id e1 e2 e3 => ?_, fun _ => ⟨b, xs, fr, rfl, h2, rfl, ?_, fun σ j a u ha hu => ?_⟩⟩⟩
    · simp only at e1 e2 e3
      show Rv σ (s.at id cap) v
      cases s with
      | nil => exact absurd rfl hn
      | slc n =>
        simp only [SA.at] at hv ⊢
        cases hv with
        | slc hb =>
          rw [h1] at hb; simp at hb; subst hb
          rw [← e3]
          exact .slc e1
      | own es n =>
        simp only [SA.at] at hv ⊢
        cases hv with
        | own hb h0 hc hl hm =>
          rw [h1] at hb; simp at hb; subst hb
          exact .own e1 (e3.trans h0) (by rw [e2]; simpa [count] using hc.trans h7.symm) hl hm
        | ownE _ hk => exact absurd hk (Nat.lt_irrefl 0)
    · show ρ.base i + (encL A l).length ≤ xs.size
      omega
    · have hlt := (List.getElem?_eq_some_iff.1 ha).1
      refine (k2 σ).2 j a u ha ?_
      rw [List.getElem?_take, if_pos hlt, List.getElem?_take, if_pos (by simp only at hlt; omega)]
      simpa using hu

/-! Contracts of functions that read two slices, one behind the other. -/
def splitA (k : Nat) (args : List AV) : Option (AV × AV × List AV) := match args.drop k with
  | a :: b :: t => some (a, b, args.take k ++ t)
  | _ => none

def joinA {α : Type} (k : Nat) (a b : α) (r : List α) : List α := r.take k ++ a :: b :: r.drop k

theorem splitA_join {k : Nat} {args : List AV} {a b : AV} {r : List AV} (h : splitA k args = some (a, b, r)) : args = joinA k a b r ∧ k ≤ r.length := by
  unfold splitA at h
  split at h
  · rename_i a' b' t ht
    simp at h
    obtain ⟨rfl, rfl, rfl⟩ := h
    have hk : k ≤ args.length := by
      have := congrArg List.length ht
      simp at this
      omega
    have hl : (args.take k).length = k := by simp [hk]
    refine ⟨?_, by simp [hl]⟩
    unfold joinA
    rw [List.take_left' hl, List.drop_left' hl, ← ht, List.take_append_drop]
  · cases h

theorem joinA_rvs {ρ : Ren} {k : Nat} {a b : AV} {r : List AV} {xs : List Value} (h : Rvs ρ (joinA k a b r) xs) (hk : k ≤ r.length) : ∃ u v ys, xs = joinA k u v ys ∧ Rv ρ a u ∧ Rv ρ b v ∧ Rvs ρ r ys := by
  have h1 := h.take k
  have h2 := h.drop k
  have hl : (r.take k).length = k := by simp [hk]
  unfold joinA at h1 h2
  rw [List.take_left' hl] at h1
  rw [List.drop_left' hl] at h2
  obtain ⟨u, t1, e1, hu, h3⟩ := h2.uncons
  obtain ⟨v, t2, e2, hv, h4⟩ := h3.uncons
  subst e2
  have hx : xs.take k ++ u :: v :: t2 = xs := by rw [← e1, List.take_append_drop]
  have hk' : k ≤ xs.length := by
    have := h1.1
    rw [hl] at this
    simp at this
    omega
  have hl' : (xs.take k).length = k := by simp [hk']
  refine ⟨u, v, xs.take k ++ t2, ?_, hu, hv, ?_⟩
  · unfold joinA
    rw [List.take_left' hl', List.drop_left' hl', hx]
  · have := h1.append h4
    rw [List.take_append_drop] at this
    exact this

theorem joinA_mk {ρ : Ren} {k : Nat} {a b : AV} {r : List AV} {u v : Value} {ys : List Value} (ha : Rv ρ a u) (hb : Rv ρ b v) (h : Rvs ρ r ys) : Rvs ρ (joinA k a b r) (joinA k u v ys) :=
  (h.take k).append (.cons ha (.cons hb (h.drop k)))

def decS {α : Type} (A : CC α) (x : SA × List AV) : Option (List α) := decL A x.1.len x.2

def okS {α γ : Type} (sh : SA → SA → Bool) (A : CC α) (C : CC γ) (x y : SA × List AV) : Bool := sh x.1 y.1 && ((decS A x).isSome && (decS C y).isSome)
def gS {α β γ δ : Type} (A : CC α) (C : CC γ) (G : δ → List α → List γ → β) (z : δ) (x y : SA × List AV) : β := G z ((decS A x).getD []) ((decS C y).getD [])

def slV {β δ : Type} (k : Nat) (D : MC δ) (B : Cod β) (ok : SA × List AV → SA × List AV → Bool) (G : δ → SA × List AV → SA × List AV → β) (args : List AV) (h : AH) : Option (Bool × AV × AH) :=
  match splitA k args with
  | none => none
  | some (a, b, r) => match D.dec r, readS a h, readS b h with
    | some z, some x, some y => some (ok x y, B.enc (G z x y), [])
    | _, _, _ => none

theorem ids_mem {a : AV} {i : Nat} (h : (∃ o n c, a = .slc i o n c) ∨ (∃ es k n, a = .own i es k n)) : ∀ {l : List AV}, a ∈ l → i ∈ idsOf l
  | b :: t, hm => by
    have key : i ∈ idsOf t → i ∈ idsOf (b :: t) := fun h => by
      simp only [idsOf]
      split <;> simp [h]
    rcases List.mem_cons.1 hm with rfl | hm
    · rcases h with ⟨o, n, c, rfl⟩ | ⟨es, k, n, rfl⟩ <;> simp [idsOf]
    · exact key (ids_mem h hm)

theorem readS_congr {h h' : AH} {args : List AV} {a : AV} (ha : a ∈ args) (hh : ∀ i, i ∈ idsOf args → ∀ B, h.get i = some B → h'.get i = some B) {x : SA × List AV} (e : readS a h = some x) : readS a h' = some x := by
  obtain ⟨s, cs⟩ := x
  rcases readS_spec e with ⟨rfl, rfl, rfl⟩ | ⟨i, cap, B, hn, rfl, hB, rfl⟩
  · rfl
  · cases s with
    | nil => exact absurd rfl hn
    | slc n => 
      have := getC_mono (hh i (ids_mem (.inl ⟨_, _, _, rfl⟩) ha)) hB
      simp [readS, SA.at, this]
    | own es n =>
      have := getC_mono (hh i (ids_mem (.inr ⟨_, _, _, rfl⟩) ha)) hB
      simp [readS, SA.at, this]

theorem mem_join {α : Type} {k : Nat} {a b : α} {r : List α} : a ∈ joinA k a b r ∧ b ∈ joinA k a b r := by
  unfold joinA
  exact ⟨by simp, by simp⟩

theorem slV_ok {α β γ δ : Type} {P : Program} {E : Env} {sym : List Tmp} {lf f : Nat} {c : Code} {fn : Func} (hE : EnvOk P E) (hm : P.follows .mixedOrders = true) (hf : P.funcs.toList[f]? = some fn) (hb : fn.body = some c)
    (hok : codeOk E c = true) {k : Nat} {D : MC δ} {A : CC α} {C : CC γ} {B : Cod β} {sh : SA → SA → Bool} {G : δ → List α → List γ → β}
    (hr : ∀ z s1 s2 c1 c2 t1 t2 (l : List α) (m : List γ), sh s1 s2 = true → l.length = s1.len → m.length = s2.len →
      GivesH (afun P E sym (fun _ => none) lf f (joinA k (s1.at 0 c1) (s2.at 1 c2) (D.enc z)) (hpS 0 s1 t1 (encL A l) ++ (hpS 1 s2 t2 (encL C m) ++ [])) 2) (B.val (G z l m))) :
    HeapOk P f (slV k D B (okS sh A C) (gS A C G)) := by
  have key : ∀ {args : List AV} {h : AH} {o : Bool × AV × AH}, slV k D B (okS sh A C) (gS A C G) args h = some o → ∃ a b r z x y, args = joinA k a b r ∧ k ≤ r.length ∧ D.dec r = some z ∧ readS a h = some x ∧ readS b h = some y ∧ splitA k args = some (a, b, r) ∧ o = (okS sh A C x y, B.enc (gS A C G z x y), []) := by
    intro args h o hg
    unfold slV at hg
    split at hg
    · cases hg
    · rename_i a b r hs
      split at hg
      · rename_i z x y hz hx hy
        simp at hg
        obtain ⟨h1, h2⟩ := splitA_join hs
        exact ⟨a, b, r, z, x, y, h1, h2, hz, hx, hy, hs, hg.symm⟩
      · cases hg
  have again : ∀ {args : List AV} {h h' : AH} {o : Bool × AV × AH}, slV k D B (okS sh A C) (gS A C G) args h = some o → (∀ i, i ∈ idsOf args → ∀ B, h.get i = some B → h'.get i = some B) → slV k D B (okS sh A C) (gS A C G) args h' = some o := by
    intro args h h' o hg hh
    obtain ⟨a, b, r, z, x, y, e, hk, hz, hx, hy, hs, rfl⟩ := key hg
    have ma : a ∈ args := by rw [e]; exact mem_join.1
    have mb : b ∈ args := by rw [e]; exact mem_join.2
    unfold slV
    simp only [hs, hz, readS_congr ma hh hx, readS_congr mb hh hy]
  refine ⟨?_, fun args h h' x hle hg => again hg (fun i _ B hB => hle i B hB), fun ρ args xs z b h x hx hz hg => again hg (fun i hi B hB => by
      rw [AH.get_cons, if_neg (fun e => hx.ids_ne hz i hi e.symm)] at hB; exact hB), fun args h c' r ups hg => ?_, fun args h h' x hh hg => again hg hh⟩
  · intro F' ρ args xs h q ups w hg hx hw
    obtain ⟨a, b, r, z, x, y, rfl, hk, hz, h1, h2, hs, ho⟩ := key hg
    simp only [Prod.mk.injEq] at ho
    obtain ⟨hsh, rfl, rfl⟩ := ho
    obtain ⟨u, v, ys, rfl, hu, hv, hys⟩ := joinA_rvs hx hk
    have hsh := hsh.symm
    unfold okS at hsh
    simp only [Bool.and_eq_true] at hsh
    obtain ⟨g1, g2, g3⟩ := hsh
    obtain ⟨l, hl⟩ := Option.isSome_iff_exists.1 g2
    obtain ⟨m, hm'⟩ := Option.isSome_iff_exists.1 g3
    obtain ⟨s1, cs1⟩ := x
    obtain ⟨s2, cs2⟩ := y
    obtain ⟨X, x1, x2, x3⟩ := hand_of hw h1 hl hu
    obtain ⟨Y, y1, y2, y3⟩ := hand_of hw h2 hm' hv
    have hW := hRW hw.gw (w := w) (l := [X, Y]) (fun x hx => by
      simp only [List.mem_cons, List.not_mem_nil, or_false] at hx
      rcases hx with rfl | rfl
      · exact ⟨_, x3⟩
      · exact ⟨_, y3⟩)
    have r1 : Rv (hRen [X, Y]) (s1.at 0 X.cap) u := by have := hRen_at (l := [X, Y]) (j := 0) rfl x3; rw [x1] at this; exact this
    have r2 : Rv (hRen [X, Y]) (s2.at 1 Y.cap) v := by have := hRen_at (l := [X, Y]) (j := 1) rfl y3; rw [y1] at this; exact this
    have hheap : hHeap 0 [X, Y] = hpS 0 s1 X.t (encL A l) ++ (hpS 1 s2 Y.t (encL C m) ++ []) := by
      rw [← x1, ← x2, ← y1, ← y2]; rfl
    rw [hheap] at hW
    have hval : gS A C G z (s1, cs1) (s2, cs2) = G z l m := by simp [gS, hl, hm']
    rw [hval]
    have hpv := D.h2 ρ _ _ _ hz hys
    subst hpv
    have := afun_calls hE hm hf hb hok (tabOk_none c) (K := fun q _ => flat q = some (B.val (G z l m))) (hr z s1 s2 X.cap Y.cap X.t Y.t l m g1 (decL_len hl) (decL_len hm')).out (F := frameOf w)
      (joinA_mk r1 r2 (Rvs.of_flatL (D.h1 z))) hW (fun id hid => hRen_none id (by simpa using hid))
    refine Calls.mono this ?_
    rintro e w' ⟨v', q', h', ρ', rfl, hk', hrv, hrw, _⟩
    have := hrv.flat_eq hk'
    subst this
    exact ⟨_, rfl, .of_flat (B.h1 _), hw.below hrw.to_below⟩
  · obtain ⟨a, b, r, z, x, y, _, _, _, _, _, _, ho⟩ := key hg
    simp only [Prod.mk.injEq] at ho
    obtain ⟨_, _, rfl⟩ := ho
    simp

/-- At most six: what is listed of them. -/
theorem six_of {α : Type} (d : α) (l : List α) (h : l.length ≤ 6) : l = [l.getD 0 d, l.getD 1 d, l.getD 2 d, l.getD 3 d, l.getD 4 d, l.getD 5 d].take l.length := by
  match l, h with
  | [], _ => rfl
  | [_], _ => rfl
  | [_, _], _ => rfl
  | [_, _, _], _ => rfl
  | [_, _, _, _], _ => rfl
  | [_, _, _, _, _], _ => rfl
  | [_, _, _, _, _, _], _ => rfl
  | _ :: _ :: _ :: _ :: _ :: _ :: _ :: _, h => simp at h
end Go.Rq
