/- Contracts at listed values; contracts of functions that read slices. -/
import Derived.Test.YtdbcjiggimppdaaRqX
import Derived.Test.YtdbcjiggimppdaaRqU
namespace Go.Rq
open Go

theorem CallOk.weaken {P : Program} {f : FuncId} {g g' : List AV → Option (Bool × AV)} (h : ∀ as r, g' as = some (true, r) → g as = some (true, r)) (k : CallOk P f g) : CallOk P f g' := by
  rcases k with ⟨h1, h2⟩ | h2
  · exact .inl ⟨h1, fun ρ as xs r hg hx w => h2 ρ as xs r (h _ _ hg) hx w⟩
  · exact .inr fun ρ as xs r hg hx w => h2 ρ as xs r (h _ _ hg) hx w

/-- What is listed of an argument. -/
def lookT {α β : Type} (e : α → α → Bool) : List (α × β) → α → Option β
  | [], _ => none
  | p :: t, x => match e p.1 x with
    | true => some p.2
    | false => lookT e t x

theorem lookT_mem {α β : Type} {e : α → α → Bool} (he : ∀ x y, e x y = true → x = y) : ∀ {tab : List (α × β)} {x : α} {y : β}, lookT e tab x = some y → (x, y) ∈ tab
  | [], x, y, h => by simp [lookT] at h
  | p :: t, x, y, h => by
    simp only [lookT] at h
    split at h
    · rename_i hp; simp at h; subst h; rw [← he _ _ hp]; simp
    · exact List.mem_cons_of_mem _ (lookT_mem he h)

def fnT1 {α β : Type} (A : Cod α) (B : Cod β) (e : α → α → Bool) (tab : List (α × β)) : List AV → Option (Bool × AV)
  | [a] => match A.dec a with
    | none => none
    | some x => match lookT e tab x with
      | none => none
      | some y => some (true, B.enc y)
  | _ => none

def pairB {α γ : Type} (e : α → α → Bool) (e' : γ → γ → Bool) (p q : α × γ) : Bool := bif e p.1 q.1 then e' p.2 q.2 else false

theorem pairB_eq {α γ : Type} {e : α → α → Bool} (he : ∀ x y, e x y = true → x = y) {e' : γ → γ → Bool} (he' : ∀ x y, e' x y = true → x = y) (p q : α × γ) (h : pairB e e' p q = true) : p = q := by
  unfold pairB at h
  cases h1 : e p.1 q.1 with
  | false => rw [h1] at h; cases h
  | true => rw [h1] at h; exact Prod.ext (he _ _ h1) (he' _ _ h)

def fnT2 {α β γ : Type} (A : Cod α) (C : Cod γ) (B : Cod β) (e : α → α → Bool) (e' : γ → γ → Bool) (tab : List ((α × γ) × β)) : List AV → Option (Bool × AV)
  | [a, c] => match A.dec a, C.dec c with
    | some x, some z => match lookT (pairB e e') tab (x, z) with
      | none => none
      | some y => some (true, B.enc y)
    | _, _ => none
  | _ => none

theorem callT1 {P : Program} {f : FuncId} {α β : Type} {A : Cod α} {B : Cod β} {F : α → β} {e : α → α → Bool} (he : ∀ x y, e x y = true → x = y) {tab : List (α × β)} (ht : ∀ p ∈ tab, F p.1 = p.2)
    (h : CallOk P f (fn1 A B F)) : CallOk P f (fnT1 A B e tab) := by
  refine h.weaken fun as r hg => ?_
  unfold fnT1 at hg
  split at hg
  · split at hg
    · cases hg
    · rename_i x hx
      split at hg
      · cases hg
      · rename_i y hy
        simp at hg; subst hg
        simp [fn1, hx, ht _ (lookT_mem he hy)]
  · cases hg

theorem callT2 {P : Program} {f : FuncId} {α β γ : Type} {A : Cod α} {B : Cod β} {C : Cod γ} {F : α → γ → β} {e : α → α → Bool} (he : ∀ x y, e x y = true → x = y) {e' : γ → γ → Bool} (he' : ∀ x y, e' x y = true → x = y)
    {tab : List ((α × γ) × β)} (ht : ∀ p ∈ tab, F p.1.1 p.1.2 = p.2) (h : CallOk P f (fn2 A C B F)) : CallOk P f (fnT2 A C B e e' tab) := by
  refine h.weaken fun as r hg => ?_
  unfold fnT2 at hg
  split at hg
  · split at hg
    · rename_i x z hx hz
      split at hg
      · cases hg
      · rename_i y hy
        simp at hg; subst hg
        have hm := lookT_mem (pairB_eq he he') hy
        simp [fn2, hx, hz, ht _ hm]
    · cases hg
  · cases hg

/-- A function of one argument, gone through at the listed values. -/
theorem tabT1 {P : Program} {E : Env} {sym : List Tmp} {tab : BTab} {lf f : Nat} (X : Ctx P E sym tab lf f) {α β : Type} {A : Cod α} {B : Cod β} {e : α → α → Bool} (he : ∀ x y, e x y = true → x = y) {l : List (α × β)}
    (h : ∀ p ∈ l, Gives (afunR P E sym tab lf f [A.enc p.1]) (B.val p.2)) : PureOk P f (fnT1 A B e l) := by
  refine pure_core X fun as r hg => ?_
  unfold fnT1 at hg
  split at hg
  · rename_i a
    split at hg
    · cases hg
    · rename_i x hx
      split at hg
      · cases hg
      · rename_i y hy
        simp at hg; subst hg
        refine ⟨[A.enc x], [A.val x], fun ρ xs hxs => ?_, by simp [flatL, A.h1], _, B.h1 _, (h _ (lookT_mem he hy)).out⟩
        obtain ⟨v, ys, rfl, h1, h2⟩ := hxs.uncons
        rw [h2.unnil, A.h2 ρ _ _ _ hx h1]
  · cases hg

/-! Functions that read slices of known length. -/

/-- A slice as it is handed: all of a block, or a row that is owned. -/
inductive SlA where
  | slc (n : Nat)
  | own (es n : Nat)

def SlA.at (s : SlA) (id : Nat) : AV := match s with
  | .slc n => .slc id 0 n n
  | .own es n => .own id es 0 n

def SlA.name (s : SlA) : AV → Option Nat
  | .slc i 0 n m => match s with
    | .slc k => bif Nat.beq n k && Nat.beq m k then some i else none
    | _ => none
  | .own i es 0 n => match s with
    | .own es' k => bif Nat.beq es es' && Nat.beq n k then some i else none
    | _ => none
  | _ => none

theorem bcond {α : Type} {b : Bool} {x : Option α} {y : α} (h : (bif b then x else none) = some y) : b = true ∧ x = some y := by
  cases b with
  | true => exact ⟨rfl, h⟩
  | false => cases h

theorem SlA.name_eq {s : SlA} {a : AV} {i : Nat} (h : s.name a = some i) : a = s.at i := by
  unfold SlA.name at h
  split at h
  · split at h
    · obtain ⟨h1, h2⟩ := bcond h
      simp only [Bool.and_eq_true, Option.some.injEq] at h1 h2
      obtain ⟨e1, e2⟩ := h1
      have e1 := Nat.eq_of_beq_eq_true e1
      have e2 := Nat.eq_of_beq_eq_true e2
      subst e1; subst e2; subst h2; rfl
    · cases h
  · split at h
    · obtain ⟨h1, h2⟩ := bcond h
      simp only [Bool.and_eq_true, Option.some.injEq] at h1 h2
      obtain ⟨e1, e2⟩ := h1
      have e1 := Nat.eq_of_beq_eq_true e1
      have e2 := Nat.eq_of_beq_eq_true e2
      subst e1; subst e2; subst h2; rfl
    · cases h
  · cases h

/-- The same slice under another name of the same block. -/
theorem SlA.moved {ρ σ : Ren} {s : SlA} {i j : Nat} {x : Value} (h : Rv ρ (s.at i) x) : ∃ b, ρ i = some b ∧ (σ j = some b → σ.cells j = ρ.cells i → Rv σ (s.at j) x) := by
  cases s with
  | slc n =>
    simp only [SlA.at] at h
    cases h with
    | slc hb => exact ⟨_, hb, fun h _ => .slc h⟩
  | own es n =>
    simp only [SlA.at] at h
    cases h with
    | own hb hc hl hm => exact ⟨_, hb, fun h k => .own h (by rw [k]; exact hc) hl hm⟩

/-- The datum in a block. -/
def blkDec {α : Type} (C : CC α) (t : TypeId) (h : AH) (i : Nat) : Option α :=
  match h.get i with
  | none => none
  | some B => match Nat.beq B.ty t with
    | false => none
    | true => C.dec B.cs

def twoAH {α γ : Type} (A : CC α) (C : CC γ) (t1 t2 : TypeId) (x : α) (y : γ) : AH := [(0, some ⟨false, t1, A.enc x⟩), (1, some ⟨false, t2, C.enc y⟩)]

theorem rvs_prefix {ρ : Ren} : ∀ {cs : List AV} {xs : List Value}, cs.length ≤ xs.length → (∀ (i : Nat) (a : AV) (x : Value), cs[i]? = some a → xs[i]? = some x → Rv ρ a x) → Rvs ρ cs (xs.take cs.length) :=
  fun hl h => ⟨by simp [hl], fun i a x ha hx => by
    rw [List.getElem?_take] at hx
    split at hx
    · exact h i a x ha hx
    · cases hx⟩

/-- What is known of a block, said anew: by the datum that it tells. -/
theorem blk_again {α : Type} {F : Fr} {ρ : Ren} {h : AH} {w : World} (hw : RW F ρ h w) {C : CC α} {t : TypeId} {i : Nat} {x : α} (hd : blkDec C t h i = some x) :
    ∃ b xs fr, ρ i = some b ∧ w.heap[b]? = some (.cells xs t fr) ∧ xs.size = ρ.cells i ∧ (C.enc x).length ≤ xs.size ∧ ∀ (σ : Ren) (j : Nat) (a : AV) (v : Value), (C.enc x)[j]? = some a → xs[j]? = some v → Rv σ a v := by
  unfold blkDec at hd
  split at hd
  · cases hd
  · rename_i B hB
    split at hd
    · cases hd
    · rename_i ht
      have ht := Nat.eq_of_beq_eq_true ht
      obtain ⟨b, o, h1, h2, ⟨xs, fr, rfl, h3, h4, h5⟩, h6, h7⟩ := hw.blk i B hB
      have hr := rvs_prefix (ρ := ρ) (cs := B.cs) (xs := xs.toList) (by simpa using h4) (fun i a x ha hx => h5 i a x ha (by simpa using hx))
      have hv := C.h2 ρ _ _ _ hd hr
      have hlen : (C.enc x).length = B.cs.length := by
        have := (Rvs.of_flats (ρ := ρ) (C.h1 x)).1
        rw [this, ← hv]; exact hr.1.symm
      refine ⟨b, xs, fr, h1, by rw [← ht]; exact h2, by simpa [count] using h7, by omega, fun σ j a v ha hv' => ?_⟩
      have h8 := Rvs.of_flats (ρ := σ) (C.h1 x)
      refine h8.2 j a v ha ?_
      rw [← hv, List.getElem?_take, if_pos (by rw [← hlen]; exact (List.getElem?_eq_some_iff.1 ha).1)]
      simpa using hv'

/-- What a function that reads two slices comes to. -/
structure GivesH (t : Tree (AV × AH)) (v : Value) : Prop where
  out : t.holds (fun q => flat q.1 = some v)

/-- A walk from a heap, of which the answer alone is kept. -/
def afunH (P : Program) (E : Env) (sym : List Tmp) (lf f : Nat) (as : List AV) (h : AH) (n : Nat) : Tree AV := (afun P E sym (fun _ => none) lf f as h n).bind fun q => .leaf q.1

theorem givesH {P : Program} {E : Env} {sym : List Tmp} {lf f : Nat} {as : List AV} {h : AH} {n : Nat} {u : Tree AV} {v : Value} (e : (afunH P E sym lf f as h n).strict = u) (hu : u.holds (fun q => flat q = some v)) :
    GivesH (afun P E sym (fun _ => none) lf f as h n) v := ⟨Tree.holds_bind (Tree.holds_strict (by rw [show ((afun P E sym (fun _ => none) lf f as h n).bind fun q => Tree.leaf q.1).strict = u from e]; exact hu))⟩

def sl2 {α β γ : Type} (s1 s2 : SlA) (t1 t2 : TypeId) (A : CC α) (C : CC γ) (B : Cod β) (F : α → γ → β) : List AV → AH → Option (Bool × AV × AH)
  | [a, c], h => match s1.name a, s2.name c with
    | some i, some j => match blkDec A t1 h i, blkDec C t2 h j with
      | some x, some y => some (true, B.enc (F x y), [])
      | _, _ => none
    | _, _ => none
  | _, _ => none

/-- Likewise with an exact argument ahead. -/
def sl3 {α β γ δ : Type} (s1 s2 : SlA) (t1 t2 : TypeId) (D : Cod δ) (A : CC α) (C : CC γ) (B : Cod β) (F : δ → α → γ → β) : List AV → AH → Option (Bool × AV × AH)
  | [d, a, c], h => match D.dec d, s1.name a, s2.name c with
    | some z, some i, some j => match blkDec A t1 h i, blkDec C t2 h j with
      | some x, some y => some (true, B.enc (F z x y), [])
      | _, _ => none
    | _, _, _ => none
  | _, _ => none

theorem two_world {α γ : Type} {F : Fr} {ρ : Ren} {h : AH} {w : World} (hw : RW F ρ h w) {A : CC α} {C : CC γ} {t1 t2 : TypeId} {i j : Nat} {x : α} {y : γ} (h1 : blkDec A t1 h i = some x) (h2 : blkDec C t2 h j = some y)
    {s1 s2 : SlA} {u v : Value} (hu : Rv ρ (s1.at i) u) (hv : Rv ρ (s2.at j) v) :
    ∃ σ : Ren, RW (frameOf w) σ (twoAH A C t1 t2 x y) w ∧ Rv σ (s1.at 0) u ∧ Rv σ (s2.at 1) v ∧ ∀ id, 2 ≤ id → σ id = none := by
  obtain ⟨b, xs, fr, p1, p2, p3, p4, p5⟩ := blk_again hw h1
  obtain ⟨c, ys, gr, q1, q2, q3, q4, q5⟩ := blk_again hw h2
  let σ : Ren := ⟨fun id => if id = 0 then some b else if id = 1 then some c else none, fun id => if id = 0 then xs.size else ys.size⟩
  have s0 : σ 0 = some b := rfl
  have s1' : σ 1 = some c := rfl
  obtain ⟨b', e1, k1⟩ := SlA.moved (σ := σ) (j := 0) hu
  obtain ⟨c', e2, k2⟩ := SlA.moved (σ := σ) (j := 1) hv
  rw [p1] at e1; simp at e1; subst e1
  rw [q1] at e2; simp at e2; subst e2
  refine ⟨σ, ⟨fun id B hB => ?_, fun id id' B B' d hB hB' hwr => ?_, fun _ _ h => h, rfl, rfl, rfl⟩, k1 s0 p3, k2 s1' q3, fun id hid => by show (if id = 0 then some b else if id = 1 then some c else none) = none; rw [if_neg (by omega), if_neg (by omega)]⟩
  · unfold twoAH at hB
    rw [AH.get_cons] at hB
    split at hB
    · rename_i e; subst e; simp at hB; subst hB
      exact ⟨b, _, s0, p2, ⟨xs, fr, rfl, (fun h => by cases h), p4, fun j a v ha hv => p5 σ j a v ha hv⟩, (fun h => by cases h), rfl⟩
    · rw [AH.get_cons] at hB
      split at hB
      · rename_i e; subst e; simp at hB; subst hB
        exact ⟨c, _, s1', q2, ⟨ys, gr, rfl, (fun h => by cases h), q4, fun j a v ha hv => q5 σ j a v ha hv⟩, (fun h => by cases h), rfl⟩
      · simp [AH.get] at hB
  · unfold twoAH at hB
    rw [AH.get_cons] at hB
    split at hB
    · simp at hB; subst hB; cases hwr
    · rw [AH.get_cons] at hB
      split at hB
      · simp at hB; subst hB; cases hwr
      · simp [AH.get] at hB

theorem blkDec_congr {α : Type} {C : CC α} {t : TypeId} {h h' : AH} {i : Nat} {x : α} (hh : ∀ B, h.get i = some B → h'.get i = some B) (hd : blkDec C t h i = some x) : blkDec C t h' i = some x := by
  unfold blkDec at hd ⊢
  split at hd
  · cases hd
  · rename_i B hB
    simp only [hh B hB]; exact hd

theorem SlA.known {ρ : Ren} {s : SlA} {i : Nat} {x : Value} (h : Rv ρ (s.at i) x) : ∃ b, ρ i = some b := by
  obtain ⟨b, h, _⟩ := SlA.moved (σ := ρ) (j := i) h
  exact ⟨b, h⟩

theorem sl2_ok {P : Program} {E : Env} {sym : List Tmp} {lf f : Nat} {tab : BTab} {c : Code} {fn : Func} (hE : EnvOk P E) (hm : P.follows .mixedOrders = true) (hf : P.funcs.toList[f]? = some fn) (hb : fn.body = some c)
    (hok : codeOk E c = true) (htab : TabOk P 2 tab c) {α β γ : Type} {A : CC α} {C : CC γ} {B : Cod β} {F : α → γ → β} {s1 s2 : SlA} {t1 t2 : TypeId}
    (hr : ∀ x y, GivesH (afun P E sym tab lf f [s1.at 0, s2.at 1] (twoAH A C t1 t2 x y) 2) (B.val (F x y))) : HeapOk P f (sl2 s1 s2 t1 t2 A C B F) := by
  have key : ∀ {as : List AV} {h : AH} {o : Bool × AV × AH}, sl2 s1 s2 t1 t2 A C B F as h = some o → ∃ i j x y, as = [s1.at i, s2.at j] ∧ blkDec A t1 h i = some x ∧ blkDec C t2 h j = some y ∧ o = (true, B.enc (F x y), []) := by
    intro as h o hg
    unfold sl2 at hg
    split at hg
    · rename_i a c' 
      split at hg
      · rename_i i j hi hj
        split at hg
        · rename_i x y hx hy
          simp at hg
          exact ⟨i, j, x, y, by rw [SlA.name_eq hi, SlA.name_eq hj], hx, hy, hg.symm⟩
        · cases hg
      · cases hg
    · cases hg
  have again : ∀ {as : List AV} {h h' : AH} {o : Bool × AV × AH}, sl2 s1 s2 t1 t2 A C B F as h = some o → (∀ i, i ∈ idsOf as → ∀ B, h.get i = some B → h'.get i = some B) → sl2 s1 s2 t1 t2 A C B F as h' = some o := by
    intro as h h' o hg hh
    unfold sl2 at hg ⊢
    split at hg
    · rename_i a c'
      split at hg
      · rename_i i j hi hj
        have ea := SlA.name_eq hi
        have ec := SlA.name_eq hj
        have hi' : i ∈ idsOf [a, c'] := by subst ea; cases s1 <;> simp [SlA.at, idsOf]
        have hj' : j ∈ idsOf [a, c'] := by
          subst ea; subst ec
          cases s1 <;> cases s2 <;> simp [SlA.at, idsOf]
        split at hg
        · rename_i x y hx hy
          simp only [blkDec_congr (hh i hi') hx, blkDec_congr (hh j hj') hy]; exact hg
        · cases hg
      · cases hg
    · cases hg
  refine ⟨?_, fun as h h' x hle hg => again hg (fun i _ B hB => hle i B hB), fun ρ as xs z b h x hx hz hg => again hg (fun i hi B hB => by
      rw [AH.get_cons, if_neg (fun e => hx.ids_ne hz i hi e.symm)] at hB; exact hB), fun as h c' r ups hg => ?_⟩
  · intro F' ρ as xs h r ups w hg hx hw
    obtain ⟨i, j, x, y, rfl, h1, h2, ho⟩ := key hg
    simp at ho
    obtain ⟨rfl, rfl⟩ := ho
    obtain ⟨u, xs', rfl, hu, hx'⟩ := hx.uncons
    obtain ⟨v, xs'', rfl, hv, hx''⟩ := hx'.uncons
    rw [hx''.unnil]
    obtain ⟨σ, g1, g2, g3, g4⟩ := two_world hw h1 h2 hu hv
    have := afun_calls hE hm hf hb hok htab (K := fun q _ => flat q = some (B.val (F x y))) (hr x y).out (F := frameOf w) (.cons g2 (.cons g3 .nil)) g1 g4
    refine Calls.mono this ?_
    rintro e w' ⟨v', q', h', ρ', rfl, hk, hrv, hrw, _⟩
    have := hrv.flat_eq hk
    subst this
    exact ⟨_, rfl, .of_flat (B.h1 _), hw.below hrw.to_below⟩
  · obtain ⟨i, j, x, y, _, _, _, ho⟩ := key hg
    simp at ho
    obtain ⟨_, _, rfl⟩ := ho
    simp

theorem sl3_ok {P : Program} {E : Env} {sym : List Tmp} {lf f : Nat} {tab : BTab} {c : Code} {fn : Func} (hE : EnvOk P E) (hm : P.follows .mixedOrders = true) (hf : P.funcs.toList[f]? = some fn) (hb : fn.body = some c)
    (hok : codeOk E c = true) (htab : TabOk P 2 tab c) {α β γ δ : Type} {D : Cod δ} {A : CC α} {C : CC γ} {B : Cod β} {F : δ → α → γ → β} {s1 s2 : SlA} {t1 t2 : TypeId}
    (hr : ∀ z x y, GivesH (afun P E sym tab lf f [D.enc z, s1.at 0, s2.at 1] (twoAH A C t1 t2 x y) 2) (B.val (F z x y))) : HeapOk P f (sl3 s1 s2 t1 t2 D A C B F) := by
  have key : ∀ {as : List AV} {h : AH} {o : Bool × AV × AH}, sl3 s1 s2 t1 t2 D A C B F as h = some o → ∃ d z i j x y, as = [d, s1.at i, s2.at j] ∧ D.dec d = some z ∧ blkDec A t1 h i = some x ∧ blkDec C t2 h j = some y ∧ o = (true, B.enc (F z x y), []) := by
    intro as h o hg
    unfold sl3 at hg
    split at hg
    · rename_i d a c'
      split at hg
      · rename_i z i j hz hi hj
        split at hg
        · rename_i x y hx hy
          simp at hg
          exact ⟨d, z, i, j, x, y, by rw [SlA.name_eq hi, SlA.name_eq hj], hz, hx, hy, hg.symm⟩
        · cases hg
      · cases hg
    · cases hg
  have more : ∀ (d : AV) (l : List AV) (i : Nat), i ∈ idsOf l → i ∈ idsOf (d :: l) := by
    intro d l i hi
    simp only [idsOf]
    split <;> simp [hi]
  have again : ∀ {as : List AV} {h h' : AH} {o : Bool × AV × AH}, sl3 s1 s2 t1 t2 D A C B F as h = some o → (∀ i, i ∈ idsOf as → ∀ B, h.get i = some B → h'.get i = some B) → sl3 s1 s2 t1 t2 D A C B F as h' = some o := by
    intro as h h' o hg hh
    unfold sl3 at hg ⊢
    split at hg
    · rename_i d a c'
      split at hg
      · rename_i z i j hz hi hj
        have ea := SlA.name_eq hi
        have ec := SlA.name_eq hj
        have hi' : i ∈ idsOf [d, a, c'] := more d _ i (by subst ea; cases s1 <;> simp [SlA.at, idsOf])
        have hj' : j ∈ idsOf [d, a, c'] := more d _ j (by
          subst ea; subst ec
          cases s1 <;> cases s2 <;> simp [SlA.at, idsOf])
        split at hg
        · rename_i x y hx hy
          simp only [blkDec_congr (hh i hi') hx, blkDec_congr (hh j hj') hy]; exact hg
        · cases hg
      · cases hg
    · cases hg
  refine ⟨?_, fun as h h' x hle hg => again hg (fun i _ B hB => hle i B hB), fun ρ as xs z b h x hx hz hg => again hg (fun i hi B hB => by
      rw [AH.get_cons, if_neg (fun e => hx.ids_ne hz i hi e.symm)] at hB; exact hB), fun as h c' r ups hg => ?_⟩
  · intro F' ρ as xs h r ups w hg hx hw
    obtain ⟨d, z, i, j, x, y, rfl, hz, h1, h2, ho⟩ := key hg
    simp at ho
    obtain ⟨rfl, rfl⟩ := ho
    obtain ⟨p, xs0, rfl, hp, hx0⟩ := hx.uncons
    obtain ⟨u, xs', rfl, hu, hx'⟩ := hx0.uncons
    obtain ⟨v, xs'', rfl, hv, hx''⟩ := hx'.uncons
    rw [hx''.unnil]
    obtain ⟨σ, g1, g2, g3, g4⟩ := two_world hw h1 h2 hu hv
    have hpv := D.h2 ρ _ _ _ hz hp
    subst hpv
    have := afun_calls hE hm hf hb hok htab (K := fun q _ => flat q = some (B.val (F z x y))) (hr z x y).out (F := frameOf w) (.cons (.of_flat (D.h1 z)) (.cons g2 (.cons g3 .nil))) g1 g4
    refine Calls.mono this ?_
    rintro e w' ⟨v', q', h', ρ', rfl, hk, hrv, hrw, _⟩
    have := hrv.flat_eq hk
    subst this
    exact ⟨_, rfl, .of_flat (B.h1 _), hw.below hrw.to_below⟩
  · obtain ⟨d, z, i, j, x, y, _, _, _, _, ho⟩ := key hg
    simp at ho
    obtain ⟨_, _, rfl⟩ := ho
    simp

/-- One way or another, by the form of the arguments. -/
def gIf (p : List AV → Bool) (g g' : List AV → AH → Option (Bool × AV × AH)) (as : List AV) (h : AH) : Option (Bool × AV × AH) := bif p as then g as h else g' as h

theorem gIf_ok {P : Program} {f : FuncId} {p : List AV → Bool} {g g' : List AV → AH → Option (Bool × AV × AH)} (h : HeapOk P f g) (k : HeapOk P f g') : HeapOk P f (gIf p g g') := by
  refine ⟨fun F ρ as xs hh r ups w hg hx hw => ?_, fun as hh h' x hle hg => ?_, fun ρ as xs z b hh x hx hz hg => ?_, fun as hh c r ups hg => ?_⟩ <;> unfold gIf at hg <;> (try unfold gIf) <;> cases hp : p as <;> rw [hp] at hg <;> simp only [cond_true, cond_false] at hg ⊢
  · exact k.run F ρ as xs hh r ups w hg hx hw
  · exact h.run F ρ as xs hh r ups w hg hx hw
  · exact k.mono as hh h' x hle hg
  · exact h.mono as hh h' x hle hg
  · exact k.local_ ρ as xs z b hh x hx hz hg
  · exact h.local_ ρ as xs z b hh x hx hz hg
  · exact k.dom as hh c r ups hg
  · exact h.dom as hh c r ups hg

end Go.Rq
