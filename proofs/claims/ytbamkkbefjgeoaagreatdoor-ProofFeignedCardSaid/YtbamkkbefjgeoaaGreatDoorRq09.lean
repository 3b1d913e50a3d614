/- Contracts at listed values; contracts of functions that read slices. -/
import Derived.Test.YtbamkkbefjgeoaaGreatDoorRq08
namespace Go.Rq
open Go

theorem CallOk.weaken {P : Program} {f : FuncId} {g g' : List AV → Option (Bool × AV)} (h : ∀ as r, g' as = some (true, r) → g as = some (true, r)) (k : CallOk P f g) : CallOk P f g' := by
  rcases k with ⟨h1, h2⟩ | h2
  · exact .inl ⟨h1, fun ρ as xs r hg hx w => h2 ρ as xs r (h _ _ hg) hx w⟩
  · exact .inr fun ρ as xs r hg hx w => h2 ρ as xs r (h _ _ hg) hx w

/-- What is listed of an argument. -/
def lookT {α β : Type} (e : α → α → Bool) : List (α × β) → α → Option β
  | [], _ => none
  | p :: t, x => match e p.1 x with
    | true => some p.2
    | false => lookT e t x

theorem lookT_mem {α β : Type} {e : α → α → Bool} (he : ∀ x y, e x y = true → x = y) : ∀ {tab : List (α × β)} {x : α} {y : β}, lookT e tab x = some y → (x, y) ∈ tab
  | [], x, y, h => by simp [lookT] at h
  | p :: t, x, y, h => by
    simp only [lookT] at h
    split at h
    · rename_i hp; simp at h; subst h; rw [← he _ _ hp]; simp
    · exact List.mem_cons_of_mem _ (lookT_mem he h)

def fnT1 {α β : Type} (A : Cod α) (B : Cod β) (e : α → α → Bool) (tab : List (α × β)) : List AV → Option (Bool × AV)
  | [a] => match A.dec a with
    | none => none
    | some x => match lookT e tab x with
      | none => none
      | some y => some (true, B.enc y)
  | _ => none

def pairB {α γ : Type} (e : α → α → Bool) (e' : γ → γ → Bool) (p q : α × γ) : Bool := bif e p.1 q.1 then e' p.2 q.2 else false

theorem pairB_eq {α γ : Type} {e : α → α → Bool} (he : ∀ x y, e x y = true → x = y) {e' : γ → γ → Bool} (he' : ∀ x y, e' x y = true → x = y) (p q : α × γ) (h : pairB e e' p q = true) : p = q := by
  unfold pairB at h
  cases h1 : e p.1 q.1 with
  | false => rw [h1] at h; cases h
  | true => rw [h1] at h; exact Prod.ext (he _ _ h1) (he' _ _ h)

def fnT2 {α β γ : Type} (A : Cod α) (C : Cod γ) (B : Cod β) (e : α → α → Bool) (e' : γ → γ → Bool) (tab : List ((α × γ) × β)) : List AV → Option (Bool × AV)
  | [a, c] => match A.dec a, C.dec c with
    | some x, some z => match lookT (pairB e e') tab (x, z) with
      | none => none
      | some y => some (true, B.enc y)
    | _, _ => none
  | _ => none

/-- A function of one argument, gone through at the listed values. -/
theorem tabT1 {P : Program} {E : Env} {sym : List Tmp} {tab : BTab} {lf f : Nat} (X : Ctx P E sym tab lf f) {α β : Type} {A : Cod α} {B : Cod β} {e : α → α → Bool} (he : ∀ x y, e x y = true → x = y) {l : List (α × β)}
    (h : ∀ p ∈ l, Gives (afunR P E sym tab lf f [A.enc p.1]) (B.val p.2)) : PureOk P f (fnT1 A B e l) := by
  refine pure_core X fun as r hg => ?_
  unfold fnT1 at hg
  split at hg
  · rename_i a
    split at hg
    · cases hg
    · rename_i x hx
      split at hg
      · cases hg
      · rename_i y hy
        simp at hg; subst hg
        refine ⟨[A.enc x], [A.val x], fun ρ xs hxs => ?_, by simp [flatL, A.h1], _, B.h1 _, (h _ (lookT_mem he hy)).out⟩
        obtain ⟨v, ys, rfl, h1, h2⟩ := hxs.uncons
        rw [h2.unnil, A.h2 ρ _ _ _ hx h1]
  · cases hg

/-! Functions that read slices of known length. -/

/-- A slice as it is handed: all of a block, or a row that is owned. -/
inductive SlA where
  | slc (n : Nat)
  | own (es n : Nat)

def SlA.at (s : SlA) (id : Nat) : AV := match s with
  | .slc n => .slc id 0 n n
  | .own es n => .own id es 0 n

def SlA.name (s : SlA) : AV → Option Nat
  | .slc i 0 n m => match s with
    | .slc k => bif Nat.beq n k && Nat.beq m k then some i else none
    | _ => none
  | .own i es 0 n => match s with
    | .own es' k => bif Nat.beq es es' && Nat.beq n k then some i else none
    | _ => none
  | _ => none

theorem bcond {α : Type} {b : Bool} {x : Option α} {y : α} (h : (bif b then x else none) = some y) : b = true ∧ x = some y := by
  cases b with
  | true => exact ⟨rfl, h⟩
  | false => cases h

theorem SlA.name_eq {s : SlA} {a : AV} {i : Nat} (h : s.name a = some i) : a = s.at i := by
  unfold SlA.name at h
  split at h
  · split at h
    · obtain ⟨h1, h2⟩ := bcond h
      simp only [Bool.and_eq_true, Option.some.injEq] at h1 h2
      obtain ⟨e1, e2⟩ := h1
      have e1 := Nat.eq_of_beq_eq_true e1
      have e2 := Nat.eq_of_beq_eq_true e2
      subst e1; subst e2; subst h2; rfl
    · cases h
  · split at h
    · obtain ⟨h1, h2⟩ := bcond h
      simp only [Bool.and_eq_true, Option.some.injEq] at h1 h2
      obtain ⟨e1, e2⟩ := h1
      have e1 := Nat.eq_of_beq_eq_true e1
      have e2 := Nat.eq_of_beq_eq_true e2
      subst e1; subst e2; subst h2; rfl
    · cases h
  · cases h

/-- The same slice under another name of the same block. -/
theorem SlA.moved {ρ σ : Ren} {s : SlA} {i j : Nat} {x : Value} (h : Rv ρ (s.at i) x) : ∃ b, ρ i = some b ∧ (σ j = some b → σ.cells j = ρ.cells i → σ.base j = ρ.base i → Rv σ (s.at j) x) := by
  cases s with
  | slc n =>
    simp only [SlA.at] at h
    cases h with
    | slc hb => exact ⟨_, hb, fun h _ k0 => by rw [← k0]; exact .slc h⟩
  | own es n =>
    simp only [SlA.at] at h
    cases h with
    | own hb h0 hc hl hm => exact ⟨_, hb, fun h k k0 => .own h (k0.trans h0) (by rw [k]; exact hc) hl hm⟩
    | ownE _ hk => exact absurd hk (Nat.lt_irrefl 0)

/-- The datum in a block. -/
def blkDec {α : Type} (C : CC α) (t : TypeId) (h : AH) (i : Nat) : Option α :=
  match h.getC i with
  | none => none
  | some B => match Nat.beq B.ty t with
    | false => none
    | true => C.dec B.cs

def twoAH {α γ : Type} (A : CC α) (C : CC γ) (t1 t2 : TypeId) (x : α) (y : γ) : AH := [(0, some ⟨false, t1, A.enc x⟩), (1, some ⟨false, t2, C.enc y⟩)]

theorem rvs_prefix {ρ : Ren} : ∀ {cs : List AV} {xs : List Value}, cs.length ≤ xs.length → (∀ (i : Nat) (a : AV) (x : Value), cs[i]? = some a → xs[i]? = some x → Rv ρ a x) → Rvs ρ cs (xs.take cs.length) :=
  fun hl h => ⟨by simp [hl], fun i a x ha hx => by
    rw [List.getElem?_take] at hx
    split at hx
    · exact h i a x ha hx
    · cases hx⟩

/-- What is known of a block, said anew: by the datum that it tells. -/
theorem blk_again {α : Type} {F : Fr} {ρ : Ren} {h : AH} {w : World} (hw : RW F ρ h w) {C : CC α} {t : TypeId} {i : Nat} {x : α} (hd : blkDec C t h i = some x) :
    ∃ b xs fr, ρ i = some b ∧ w.heap[b]? = some (.cells xs t fr) ∧ xs.size = ρ.cells i ∧ ρ.base i + (C.enc x).length ≤ xs.size ∧ ∀ (σ : Ren) (j : Nat) (a : AV) (v : Value), (C.enc x)[j]? = some a → xs[ρ.base i + j]? = some v → Rv σ a v := by
  unfold blkDec at hd
  split at hd
  · cases hd
  · rename_i B hB
    split at hd
    · cases hd
    · rename_i ht
      have ht := Nat.eq_of_beq_eq_true ht
      obtain ⟨b, o, h1, h2, ⟨xs, fr, rfl, h3, h4, h5⟩, h6, h7⟩ := hw.blkC hB
      have hr := rvs_prefix (ρ := ρ) (cs := B.cs) (xs := xs.toList.drop (ρ.base i)) (by simp; omega) (fun i a x ha hx => h5 i a x ha (by simpa using hx))
      have hv := C.h2 ρ _ _ _ hd hr
      have hlen : (C.enc x).length = B.cs.length := by
        have := (Rvs.of_flats (ρ := ρ) (C.h1 x)).1
        rw [this, ← hv]; exact hr.1.symm
      refine ⟨b, xs, fr, h1, by rw [← ht]; exact h2, by simpa [count] using h7, by omega, fun σ j a v ha hv' => ?_⟩
      have h8 := Rvs.of_flats (ρ := σ) (C.h1 x)
      refine h8.2 j a v ha ?_
      rw [← hv, List.getElem?_take, if_pos (by rw [← hlen]; exact (List.getElem?_eq_some_iff.1 ha).1)]
      simpa using hv'

/-- What a function that reads two slices comes to. -/
structure GivesH (t : Tree (AV × AH)) (v : Value) : Prop where
  out : t.holds (fun q => flat q.1 = some v)

/-- A walk from a heap, of which the answer alone is kept. -/
def afunH (P : Program) (E : Env) (sym : List Tmp) (lf f : Nat) (as : List AV) (h : AH) (n : Nat) : Tree AV := (afun P E sym (fun _ => none) lf f as h n).bind fun q => .leaf q.1

theorem givesH {P : Program} {E : Env} {sym : List Tmp} {lf f : Nat} {as : List AV} {h : AH} {n : Nat} {u : Tree AV} {v : Value} (e : (afunH P E sym lf f as h n).strict = u) (hu : u.holds (fun q => flat q = some v)) :
    GivesH (afun P E sym (fun _ => none) lf f as h n) v := ⟨Tree.holds_bind (Tree.holds_strict (by rw [show ((afun P E sym (fun _ => none) lf f as h n).bind fun q => Tree.leaf q.1).strict = u from e]; exact hu))⟩

def sl2 {α β γ : Type} (s1 s2 : SlA) (t1 t2 : TypeId) (A : CC α) (C : CC γ) (B : Cod β) (F : α → γ → β) : List AV → AH → Option (Bool × AV × AH)
  | [a, c], h => match s1.name a, s2.name c with
    | some i, some j => match blkDec A t1 h i, blkDec C t2 h j with
      | some x, some y => some (true, B.enc (F x y), [])
      | _, _ => none
    | _, _ => none
  | _, _ => none

/-- Likewise with an exact argument ahead. -/
def sl3 {α β γ δ : Type} (s1 s2 : SlA) (t1 t2 : TypeId) (D : Cod δ) (A : CC α) (C : CC γ) (B : Cod β) (F : δ → α → γ → β) : List AV → AH → Option (Bool × AV × AH)
  | [d, a, c], h => match D.dec d, s1.name a, s2.name c with
    | some z, some i, some j => match blkDec A t1 h i, blkDec C t2 h j with
      | some x, some y => some (true, B.enc (F z x y), [])
      | _, _ => none
    | _, _, _ => none
  | _, _ => none

theorem two_world {α γ : Type} {F : Fr} {ρ : Ren} {h : AH} {w : World} (hw : RW F ρ h w) {A : CC α} {C : CC γ} {t1 t2 : TypeId} {i j : Nat} {x : α} {y : γ} (h1 : blkDec A t1 h i = some x) (h2 : blkDec C t2 h j = some y)
    {s1 s2 : SlA} {u v : Value} (hu : Rv ρ (s1.at i) u) (hv : Rv ρ (s2.at j) v) :
    ∃ σ : Ren, RW (frameOf w) σ (twoAH A C t1 t2 x y) w ∧ Rv σ (s1.at 0) u ∧ Rv σ (s2.at 1) v ∧ ∀ id, 2 ≤ id → σ id = none := by
  obtain ⟨b, xs, fr, p1, p2, p3, p4, p5⟩ := blk_again hw h1
  obtain ⟨c, ys, gr, q1, q2, q3, q4, q5⟩ := blk_again hw h2
  let σ : Ren := ⟨fun id => if id = 0 then some b else if id = 1 then some c else none, fun id => if id = 0 then xs.size else ys.size, fun id => if id = 0 then ρ.base i else ρ.base j⟩
  have s0 : σ 0 = some b := rfl
  have s1' : σ 1 = some c := rfl
  obtain ⟨b', e1, k1⟩ := SlA.moved (σ := σ) (j := 0) hu
  obtain ⟨c', e2, k2⟩ := SlA.moved (σ := σ) (j := 1) hv
  rw [p1] at e1; simp at e1; subst e1
  rw [q1] at e2; simp at e2; subst e2
  refine ⟨σ, ⟨fun id B hB => ?_, fun id id' B B' d hB hB' hwr => ?_, fun _ _ h => h, rfl, rfl, rfl, hw.gw⟩, k1 s0 p3 rfl, k2 s1' q3 rfl, fun id hid => by show (if id = 0 then some b else if id = 1 then some c else none) = none; rw [if_neg (by omega), if_neg (by omega)]⟩
  · unfold twoAH at hB
    rw [AH.get_cons] at hB
    split at hB
    · rename_i e; subst e; simp at hB; subst hB
      exact ⟨b, _, s0, p2, .inl ⟨xs, fr, rfl, (fun h => by cases h), p4, fun k a v ha hv => p5 σ k a v ha hv⟩, (fun h => by cases h), rfl⟩
    · rw [AH.get_cons] at hB
      split at hB
      · rename_i e; subst e; simp at hB; subst hB
        exact ⟨c, _, s1', q2, .inl ⟨ys, gr, rfl, (fun h => by cases h), q4, fun k a v ha hv => q5 σ k a v ha hv⟩, (fun h => by cases h), rfl⟩
      · simp [AH.get] at hB
  · unfold twoAH at hB
    rw [AH.get_cons] at hB
    split at hB
    · simp at hB; subst hB; cases hwr
    · rw [AH.get_cons] at hB
      split at hB
      · simp at hB; subst hB; cases hwr
      · simp [AH.get] at hB

theorem blkDec_congr {α : Type} {C : CC α} {t : TypeId} {h h' : AH} {i : Nat} {x : α} (hh : ∀ B, h.get i = some B → h'.get i = some B) (hd : blkDec C t h i = some x) : blkDec C t h' i = some x := by
  unfold blkDec at hd ⊢
  split at hd
  · cases hd
  · rename_i B hB
    simp only [getC_mono hh hB]; exact hd

theorem sl2_ok {P : Program} {E : Env} {sym : List Tmp} {lf f : Nat} {tab : BTab} {c : Code} {fn : Func} (hE : EnvOk P E) (hm : P.follows .mixedOrders = true) (hf : P.funcs.toList[f]? = some fn) (hb : fn.body = some c)
    (hok : codeOk E c = true) (htab : TabOk P 2 tab c) {α β γ : Type} {A : CC α} {C : CC γ} {B : Cod β} {F : α → γ → β} {s1 s2 : SlA} {t1 t2 : TypeId}
    (hr : ∀ x y, GivesH (afun P E sym tab lf f [s1.at 0, s2.at 1] (twoAH A C t1 t2 x y) 2) (B.val (F x y))) : HeapOk P f (sl2 s1 s2 t1 t2 A C B F) := by
  have key : ∀ {as : List AV} {h : AH} {o : Bool × AV × AH}, sl2 s1 s2 t1 t2 A C B F as h = some o → ∃ i j x y, as = [s1.at i, s2.at j] ∧ blkDec A t1 h i = some x ∧ blkDec C t2 h j = some y ∧ o = (true, B.enc (F x y), []) := by
    intro as h o hg
    unfold sl2 at hg
    split at hg
    · rename_i a c' 
      split at hg
      · rename_i i j hi hj
        split at hg
        · rename_i x y hx hy
          simp at hg
          exact ⟨i, j, x, y, by rw [SlA.name_eq hi, SlA.name_eq hj], hx, hy, hg.symm⟩
        · cases hg
      · cases hg
    · cases hg
  have again : ∀ {as : List AV} {h h' : AH} {o : Bool × AV × AH}, sl2 s1 s2 t1 t2 A C B F as h = some o → (∀ i, i ∈ idsOf as → ∀ B, h.get i = some B → h'.get i = some B) → sl2 s1 s2 t1 t2 A C B F as h' = some o := by
    intro as h h' o hg hh
    unfold sl2 at hg ⊢
    split at hg
    · rename_i a c'
      split at hg
      · rename_i i j hi hj
        have ea := SlA.name_eq hi
        have ec := SlA.name_eq hj
        have hi' : i ∈ idsOf [a, c'] := by subst ea; cases s1 <;> simp [SlA.at, idsOf]
        have hj' : j ∈ idsOf [a, c'] := by
          subst ea; subst ec
          cases s1 <;> cases s2 <;> simp [SlA.at, idsOf]
        split at hg
        · rename_i x y hx hy
          simp only [blkDec_congr (hh i hi') hx, blkDec_congr (hh j hj') hy]; exact hg
        · cases hg
      · cases hg
    · cases hg
  refine ⟨?_, fun as h h' x hle hg => again hg (fun i _ B hB => hle i B hB), fun ρ as xs z b h x hx hz hg => again hg (fun i hi B hB => by
      rw [AH.get_cons, if_neg (fun e => hx.ids_ne hz i hi e.symm)] at hB; exact hB), fun as h c' r ups hg => ?_, fun as h h' x hh hg => again hg hh⟩
  · intro F' ρ as xs h r ups w hg hx hw
    obtain ⟨i, j, x, y, rfl, h1, h2, ho⟩ := key hg
    simp at ho
    obtain ⟨rfl, rfl⟩ := ho
    obtain ⟨u, xs', rfl, hu, hx'⟩ := hx.uncons
    obtain ⟨v, xs'', rfl, hv, hx''⟩ := hx'.uncons
    rw [hx''.unnil]
    obtain ⟨σ, g1, g2, g3, g4⟩ := two_world hw h1 h2 hu hv
    have := afun_calls hE hm hf hb hok htab (K := fun q _ => flat q = some (B.val (F x y))) (hr x y).out (F := frameOf w) (.cons g2 (.cons g3 .nil)) g1 g4
    refine Calls.mono this ?_
    rintro e w' ⟨v', q', h', ρ', rfl, hk, hrv, hrw, _⟩
    have := hrv.flat_eq hk
    subst this
    exact ⟨_, rfl, .of_flat (B.h1 _), hw.below hrw.to_below⟩
  · obtain ⟨i, j, x, y, _, _, _, ho⟩ := key hg
    simp at ho
    obtain ⟨_, _, rfl⟩ := ho
    simp

theorem sl3_ok {P : Program} {E : Env} {sym : List Tmp} {lf f : Nat} {tab : BTab} {c : Code} {fn : Func} (hE : EnvOk P E) (hm : P.follows .mixedOrders = true) (hf : P.funcs.toList[f]? = some fn) (hb : fn.body = some c)
    (hok : codeOk E c = true) (htab : TabOk P 2 tab c) {α β γ δ : Type} {D : Cod δ} {A : CC α} {C : CC γ} {B : Cod β} {F : δ → α → γ → β} {s1 s2 : SlA} {t1 t2 : TypeId}
    (hr : ∀ z x y, GivesH (afun P E sym tab lf f [D.enc z, s1.at 0, s2.at 1] (twoAH A C t1 t2 x y) 2) (B.val (F z x y))) : HeapOk P f (sl3 s1 s2 t1 t2 D A C B F) := by
  have key : ∀ {as : List AV} {h : AH} {o : Bool × AV × AH}, sl3 s1 s2 t1 t2 D A C B F as h = some o → ∃ d z i j x y, as = [d, s1.at i, s2.at j] ∧ D.dec d = some z ∧ blkDec A t1 h i = some x ∧ blkDec C t2 h j = some y ∧ o = (true, B.enc (F z x y), []) := by
    intro as h o hg
    unfold sl3 at hg
    split at hg
    · rename_i d a c'
      split at hg
      · rename_i z i j hz hi hj
        split at hg
        · rename_i x y hx hy
          simp at hg
          exact ⟨d, z, i, j, x, y, by rw [SlA.name_eq hi, SlA.name_eq hj], hz, hx, hy, hg.symm⟩
        · cases hg
      · cases hg
    · cases hg
  have more : ∀ (d : AV) (l : List AV) (i : Nat), i ∈ idsOf l → i ∈ idsOf (d :: l) := by
    intro d l i hi
    simp only [idsOf]
    split <;> simp [hi]
  have again : ∀ {as : List AV} {h h' : AH} {o : Bool × AV × AH}, sl3 s1 s2 t1 t2 D A C B F as h = some o → (∀ i, i ∈ idsOf as → ∀ B, h.get i = some B → h'.get i = some B) → sl3 s1 s2 t1 t2 D A C B F as h' = some o := by
    intro as h h' o hg hh
    unfold sl3 at hg ⊢
    split at hg
    · rename_i d a c'
      split at hg
      · rename_i z i j hz hi hj
        have ea := SlA.name_eq hi
        have ec := SlA.name_eq hj
        have hi' : i ∈ idsOf [d, a, c'] := more d _ i (by subst ea; cases s1 <;> simp [SlA.at, idsOf])
        have hj' : j ∈ idsOf [d, a, c'] := more d _ j (by
          subst ea; subst ec
          cases s1 <;> cases s2 <;> simp [SlA.at, idsOf])
        split at hg
        · rename_i x y hx hy
          simp only [blkDec_congr (hh i hi') hx, blkDec_congr (hh j hj') hy]; exact hg
        · cases hg
      · cases hg
    · cases hg
  refine ⟨?_, fun as h h' x hle hg => again hg (fun i _ B hB => hle i B hB), fun ρ as xs z b h x hx hz hg => again hg (fun i hi B hB => by
      rw [AH.get_cons, if_neg (fun e => hx.ids_ne hz i hi e.symm)] at hB; exact hB), fun as h c' r ups hg => ?_, fun as h h' x hh hg => again hg hh⟩
  · intro F' ρ as xs h r ups w hg hx hw
    obtain ⟨d, z, i, j, x, y, rfl, hz, h1, h2, ho⟩ := key hg
    simp at ho
    obtain ⟨rfl, rfl⟩ := ho
    obtain ⟨p, xs0, rfl, hp, hx0⟩ := hx.uncons
    obtain ⟨u, xs', rfl, hu, hx'⟩ := hx0.uncons
    obtain ⟨v, xs'', rfl, hv, hx''⟩ := hx'.uncons
    rw [hx''.unnil]
    obtain ⟨σ, g1, g2, g3, g4⟩ := two_world hw h1 h2 hu hv
    have hpv := D.h2 ρ _ _ _ hz hp
    subst hpv
    have := afun_calls hE hm hf hb hok htab (K := fun q _ => flat q = some (B.val (F z x y))) (hr z x y).out (F := frameOf w) (.cons (.of_flat (D.h1 z)) (.cons g2 (.cons g3 .nil))) g1 g4
    refine Calls.mono this ?_
    rintro e w' ⟨v', q', h', ρ', rfl, hk, hrv, hrw, _⟩
    have := hrv.flat_eq hk
    subst this
    exact ⟨_, rfl, .of_flat (B.h1 _), hw.below hrw.to_below⟩
  · obtain ⟨d, z, i, j, x, y, _, _, _, _, ho⟩ := key hg
    simp at ho
    obtain ⟨_, _, rfl⟩ := ho
    simp


/-! Functions that write one block that they are handed. -/

end Go.Rq

/- Functions that lay a slice; functions that read a slice whose length may be a variable. -/
namespace Go.Rq
open Go

abbrev LayTab := List (FuncId × (List AV → Nat → Option (Bool × AV × Blk)))

def lookLT : LayTab → FuncId → Option (List AV → Nat → Option (Bool × AV × Blk))
  | [], _ => none
  | (f, g) :: t, k => bif Nat.beq f k then some g else lookLT t k

theorem lookLT_mem : ∀ {ps : LayTab} {f : FuncId} {g}, lookLT ps f = some g → (f, g) ∈ ps
  | [], f, g, h => by simp [lookLT] at h
  | (k, q) :: t, f, g, h => by
    simp only [lookLT] at h
    cases hb : Nat.beq k f with
    | true => rw [hb] at h; simp at h; subst h; rw [Nat.eq_of_beq_eq_true hb]; simp
    | false => rw [hb] at h; exact List.mem_cons_of_mem _ (lookLT_mem h)

def TabLOk (P : Program) (ps : LayTab) : Prop := ∀ p ∈ ps, Enters P p.1 ∧ LayOk P p.1 p.2
theorem TabLOk.nil {P : Program} : TabLOk P [] := fun p h => by simp at h
theorem TabLOk.cons {P : Program} {f : FuncId} {g : List AV → Nat → Option (Bool × AV × Blk)} {t : LayTab} (h1 : Enters P f) (h : LayOk P f g) (r : TabLOk P t) : TabLOk P ((f, g) :: t) := by
  intro p hp
  rcases List.mem_cons.1 hp with rfl | hp
  · exact ⟨h1, h⟩
  · exact r p hp

/-- A block that came from elsewhere is named. -/
theorem RW.adopt {F : Fr} {ρ : Ren} {h : AH} {w : World} (r : RW F ρ h w) {id b : Nat} (hid : ρ id = none) (hF : F.blocks b = none) (hne : ∀ j B, h.get j = some B → ρ j ≠ some b) (t : TypeId) (cs : List AV) {xs : Array Value}
    (hx : w.heap[b]? = some (.cells xs t (0, 0))) (hl : cs.length ≤ xs.size) (hr : ∀ (σ : Ren) (i : Nat) (a : AV) (x : Value), cs[i]? = some a → xs[i]? = some x → Rv σ a x) :
    RW F (ρ.upd id b xs.size) ((id, some ⟨true, t, cs⟩) :: h) w := by
  have hle := Ren.le_upd (b := b) (n := xs.size) hid
  refine ⟨fun j B hj => ?_, fun j j' B B' c hj hj' hw hc hc' => ?_, r.fr, r.os, r.tape, r.out, r.gc⟩
  · rw [AH.get_cons] at hj
    split at hj
    · rename_i e; subst e; simp at hj; subst hj
      exact ⟨b, _, Ren.upd_same _ _ _ _, hx, .inl ⟨xs, (0, 0), rfl, fun _ => ⟨rfl, Ren.upd_base _ _ _ _⟩, by rw [Ren.upd_base, Nat.zero_add]; exact hl, fun i a x ha hx' => hr _ i a x ha (by rw [Ren.upd_base, Nat.zero_add] at hx'; exact hx')⟩, fun _ => hF, by simp [count, Ren.upd_cells]⟩
    · obtain ⟨c, o, hc, ho, hB, hk⟩ := r.blk j B hj
      exact ⟨c, o, (hle _ _ hc).1, ho, hB.mono hle hc, hk.1, hk.2.trans (hle _ _ hc).2.1.symm⟩
  · have key : ∀ {k : Nat} {C : Blk}, AH.get ((id, some ⟨true, t, cs⟩) :: h) k = some C → k ≠ id → h.get k = some C := by
      intro k C hk hn
      rw [AH.get_cons, if_neg (fun e => hn e.symm)] at hk
      exact hk
    by_cases e1 : j = id
    · by_cases e2 : j' = id
      · rw [e1, e2]
      · subst e1
        rw [Ren.upd_same] at hc; simp at hc; subst hc
        rw [Ren.upd_ne _ e2] at hc'
        exact absurd hc' (hne _ _ (key hj' e2))
    · by_cases e2 : j' = id
      · subst e2
        rw [Ren.upd_same] at hc'; simp at hc'; subst hc'
        rw [Ren.upd_ne _ e1] at hc
        exact absurd hc (hne _ _ (key hj e1))
      · rw [Ren.upd_ne _ e1] at hc
        rw [Ren.upd_ne _ e2] at hc'
        exact r.inj j j' B B' c (key hj e1) (key hj' e2) hw hc hc'

/-! A function that reads one slice, whose length may be a variable. -/

def oneAH {α : Type} (A : CC α) (t : TypeId) (x : α) : AH := [(0, some ⟨false, t, A.enc x⟩)]

end Go.Rq

/- Functions that read one block by a pointer; functions that lay one block and hand back a pointer to it. -/
namespace Go.Rq
open Go

/-- Several exact arguments. -/
structure MC (δ : Type) where
  enc : δ → List AV
  dec : List AV → Option δ
  val : δ → List Value
  h1 : ∀ x, flatL (enc x) = some (val x)
  h2 : ∀ (ρ : Ren) (as : List AV) (vs : List Value) (x : δ), dec as = some x → Rvs ρ as vs → vs = val x

def mc0 : MC Unit where
  enc _ := []
  dec as := match as with
    | [] => some ()
    | _ => none
  val _ := []
  h1 _ := rfl
  h2 ρ as vs x h r := by
    split at h
    · exact r.unnil
    · cases h

def mc1 {α : Type} (A : Cod α) : MC α where
  enc x := [A.enc x]
  dec as := match as with
    | [a] => A.dec a
    | _ => none
  val x := [A.val x]
  h1 x := by simp [flatL, A.h1]
  h2 ρ as vs x h r := by
    split at h
    · obtain ⟨v, ys, rfl, h1, h2⟩ := r.uncons
      rw [h2.unnil, A.h2 ρ _ _ _ h h1]
    · cases h

def mc2 {α β : Type} (A : Cod α) (B : Cod β) : MC (α × β) where
  enc x := [A.enc x.1, B.enc x.2]
  dec as := match as with
    | [a, b] => match A.dec a, B.dec b with
      | some x, some y => some (x, y)
      | _, _ => none
    | _ => none
  val x := [A.val x.1, B.val x.2]
  h1 x := by simp [flatL, A.h1, B.h1]
  h2 ρ as vs x h r := by
    split at h
    · split at h
      · rename_i p q hp hq
        simp at h; subst h
        obtain ⟨v, ys, rfl, h1, h2⟩ := r.uncons
        obtain ⟨u, zs, rfl, h3, h4⟩ := h2.uncons
        rw [h4.unnil, A.h2 ρ _ _ _ hp h1, B.h2 ρ _ _ _ hq h3]
      · cases h
    · cases h

/-- The first argument's block is read; the others are exact. -/
def rdp {β γ δ : Type} (t : TypeId) (C : CC γ) (D : MC δ) (B : Cod β) (F : γ → δ → β) : List AV → AH → Option (Bool × AV × AH)
  | .ptr i 0 :: rest, h => match blkDec C t h i, D.dec rest with
    | some x, some z => some (true, B.enc (F x z), [])
    | _, _ => none
  | _, _ => none

theorem rdp_ok {β γ δ : Type} {P : Program} {E : Env} {sym : List Tmp} {lf f : Nat} {c : Code} {fn : Func} (hE : EnvOk P E) (hm : P.follows .mixedOrders = true) (hf : P.funcs.toList[f]? = some fn) (hb : fn.body = some c)
    (hok : codeOk E c = true) {D : MC δ} {C : CC γ} {B : Cod β} {F : γ → δ → β} {t : TypeId}
    (hr : ∀ x z, GivesH (afun P E sym (fun _ => none) lf f (.ptr 0 0 :: D.enc z) (oneAH C t x) 1) (B.val (F x z))) : HeapOk P f (rdp t C D B F) := by
  have key : ∀ {as : List AV} {h : AH} {o : Bool × AV × AH}, rdp t C D B F as h = some o → ∃ i rest x z, as = .ptr i 0 :: rest ∧ D.dec rest = some z ∧ blkDec C t h i = some x ∧ o = (true, B.enc (F x z), []) := by
    intro as h o hg
    unfold rdp at hg
    split at hg
    · rename_i i rest
      split at hg
      · rename_i x z hx hz
        simp at hg
        exact ⟨i, rest, x, z, rfl, hz, hx, hg.symm⟩
      · cases hg
    · cases hg
  have again : ∀ {as : List AV} {h h' : AH} {o : Bool × AV × AH}, rdp t C D B F as h = some o → (∀ i, i ∈ idsOf as → ∀ B, h.get i = some B → h'.get i = some B) → rdp t C D B F as h' = some o := by
    intro as h h' o hg hh
    obtain ⟨i, rest, x, z, rfl, hz, hx, rfl⟩ := key hg
    have hi : i ∈ idsOf (.ptr i 0 :: rest) := by simp [idsOf]
    unfold rdp
    simp only [hz, blkDec_congr (hh i hi) hx]
  refine ⟨?_, fun as h h' x hle hg => again hg (fun i _ B hB => hle i B hB), fun ρ as xs z b h x hx hz hg => again hg (fun i hi B hB => by
      rw [AH.get_cons, if_neg (fun e => hx.ids_ne hz i hi e.symm)] at hB; exact hB), fun as h c' r ups hg => ?_, fun as h h' x hh hg => again hg hh⟩
  · intro F' ρ as xs h r ups w hg hx hw
    obtain ⟨i, rest, x, z, rfl, hz, h1, ho⟩ := key hg
    simp at ho
    obtain ⟨rfl, rfl⟩ := ho
    obtain ⟨u, xs', rfl, hu, hx'⟩ := hx.uncons
    have hpv := D.h2 ρ _ _ _ hz hx'
    subst hpv
    obtain ⟨b, cx, fr, p1, p2, p3, p4, p5⟩ := blk_again hw h1
    let σ : Ren := ⟨fun id => if id = 0 then some b else none, fun _ => cx.size, fun _ => ρ.base i⟩
    have hσ : σ 0 = some b := rfl
    have hRW : RW (frameOf w) σ (oneAH C t x) w := by
      refine ⟨fun id B hB => ?_, fun id id' B B' d hB hB' hwr => ?_, fun _ _ h => h, rfl, rfl, rfl, hw.gw⟩
      · unfold oneAH at hB
        rw [AH.get_cons] at hB
        split at hB
        · rename_i e; subst e; simp at hB; subst hB
          exact ⟨b, _, hσ, p2, .inl ⟨cx, fr, rfl, (fun h => by cases h), p4, fun k a v ha hv => p5 σ k a v ha hv⟩, (fun h => by cases h), rfl⟩
        · simp [AH.get] at hB
      · unfold oneAH at hB
        rw [AH.get_cons] at hB
        split at hB
        · simp at hB; subst hB; cases hwr
        · simp [AH.get] at hB
    cases hu with
    | ptr hsb =>
      rw [p1] at hsb; simp at hsb; subst hsb
      have := afun_calls hE hm hf hb hok (tabOk_none c) (K := fun q _ => flat q = some (B.val (F x z))) (hr x z).out (F := frameOf w) (.cons (show Rv σ (.ptr 0 0) (.pointer (some ⟨b, ρ.base i + 0, none⟩)) from Rv.ptr (ρ := σ) hσ) (Rvs.of_flatL (D.h1 z))) hRW (fun id hid => by show (if id = 0 then some b else none) = none; rw [if_neg (by omega)])
      refine Calls.mono this ?_
      rintro e w' ⟨v', q', h', ρ', rfl, hk', hrv, hrw, _⟩
      have := hrv.flat_eq hk'
      subst this
      exact ⟨_, rfl, .of_flat (B.h1 _), hw.below hrw.to_below⟩
  · obtain ⟨i, rest, x, z, _, _, _, ho⟩ := key hg
    simp at ho
    obtain ⟨_, _, rfl⟩ := ho
    simp

/-! A function that lays one block and hands back a pointer to it, and a number. -/
def layP {α γ : Type} (A : Cod α) (t : TypeId) (C : CC γ) (k : Int) (F : α → γ) : List AV → Nat → Option (Bool × AV × Blk)
  | [a], z => match A.dec a with
    | none => none
    | some x => some (true, .tup [.ptr z 0, .v (.int .i64 k)], ⟨true, t, C.enc (F x)⟩)
  | _, _ => none

def outP (t : TypeId) (q : AV × AH) : AV := match q.1 with
  | .tup [.ptr i 0, k] => match q.2.get i with
    | none => .any
    | some B => match B.wr && Nat.beq B.ty t with
      | true => .tup [.agg B.cs, k]
      | false => .any
  | _ => .any

theorem outP_eq {t : TypeId} {q : AV × AH} {k : AV} {cs : List AV} (h : outP t q = .tup [.agg cs, k]) : ∃ i, q.1 = .tup [.ptr i 0, k] ∧ q.2.get i = some ⟨true, t, cs⟩ := by
  unfold outP at h
  split at h
  · rename_i i k' hq
    split at h
    · cases h
    · rename_i B hB
      split at h
      · rename_i hc
        simp only [Bool.and_eq_true] at hc
        simp at h
        obtain ⟨h2, rfl⟩ := h
        refine ⟨i, hq, ?_⟩
        rw [hB]
        obtain ⟨wr, ty, cs'⟩ := B
        simp at hc h2
        obtain ⟨e1, e2⟩ := hc
        subst e1; subst e2; subst h2
        rfl
      · cases h
  · cases h

def afunQ (P : Program) (E : Env) (sym : List Tmp) (tab : BTab) (lf f : Nat) (t : TypeId) (args : List AV) : Tree AV := (afun P E sym tab lf f args [] 0).bind fun q => .leaf (outP t q)

theorem layP_ok {P : Program} {α γ : Type} {t : TypeId} {A : Cod α} {C : CC γ} {k : Int} {F : α → γ} {f : Nat} {E : Env} {sym : List Tmp} {lf : Nat} {tab : α → BTab} (X : ∀ x, Ctx P E sym (tab x) lf f)
    (hr : ∀ x, (afunQ P E sym (tab x) lf f t [A.enc x]).holds (fun a => a = .tup [.agg (C.enc (F x)), .v (.int .i64 k)])) : LayOk P f (layP A t C k F) := by
  have key : ∀ {as : List AV} {z : Nat} {o : Bool × AV × Blk}, layP A t C k F as z = some o → ∃ a x, as = [a] ∧ A.dec a = some x ∧ o = (true, .tup [.ptr z 0, .v (.int .i64 k)], ⟨true, t, C.enc (F x)⟩) := by
    intro as z o hg
    unfold layP at hg
    split at hg
    · rename_i a
      split at hg
      · cases hg
      · rename_i x hx
        simp at hg
        exact ⟨a, x, rfl, hx, hg.symm⟩
    · cases hg
  constructor
  · intro F' ρ as xs h z r Bz w hg hx hw hz
    obtain ⟨a, x, rfl, hd, ho⟩ := key hg
    simp at ho
    obtain ⟨rfl, rfl⟩ := ho
    obtain ⟨fn, c, hf, hb, hok, htab⟩ := (X x).body
    obtain ⟨v, ys, rfl, hv, hx'⟩ := hx.uncons
    rw [hx'.unnil]
    have e0 := A.h2 ρ _ _ _ hd hv
    subst e0
    have hq := Tree.holds_bind (g := fun q => .leaf (outP t q)) (hr x)
    have := afun_calls (X x).env (X x).mixed hf hb hok htab (K := fun q h' => ∃ i, q = .tup [.ptr i 0, .v (.int .i64 k)] ∧ h'.get i = some ⟨true, t, C.enc (F x)⟩)
      (Tree.holds_mono (fun q hq => outP_eq hq) hq) (F := frameOf w) (ρ := Ren.empty) (xs := [A.val x]) (w := w) (.cons (.of_flat (A.h1 x)) .nil) (RW.init w _ hw.gw) (fun _ _ => rfl)
    refine Calls.mono this ?_
    rintro e w' ⟨u, q, h', ρ', rfl, ⟨i, rfl, hget⟩, hrv, hrw, _⟩
    obtain ⟨b, o, p1, p2, ⟨cx, fr, rfl, p3, p4, p5⟩, p6, p7⟩ := hrw.blkF hget (C.h1 _)
    have pz := (p3 rfl).2
    rw [(p3 rfl).1] at p2
    rw [pz] at p4 p5
    simp only [Nat.zero_add] at p4 p5
    have hnew : w.heap[b]? = none := p6 rfl
    have hrel := rvs_prefix (ρ := ρ') (cs := C.enc (F x)) (xs := cx.toList) (by simpa using p4) (fun i a x ha hx => p5 i a x ha (by simpa using hx))
    have hval := hrel.flats_eq (C.h1 (F x))
    have hF : F'.blocks b = none := by
      cases hb : F'.blocks b with
      | none => rfl
      | some o => have := hw.fr b o hb; rw [hnew] at this; cases this
    obtain ⟨us, rfl, hus⟩ := hrv.tup_iff
    obtain ⟨v0, y0, e0, h0, r0⟩ := hus.uncons
    obtain ⟨v1, y1, e1, h1, r1⟩ := r0.uncons
    have e2 := r1.unnil
    subst e2; subst e1
    cases h0 with
    | ptr hsb =>
      rw [p1] at hsb; simp at hsb; subst hsb
      rw [pz] at e0
      have hv1 : v1 = .int .i64 k := h1.scal_eq (y := .int .i64 k) rfl
      have eus : us = #[.pointer (some ⟨b, 0, none⟩), v1] := by apply Array.ext'; simpa using e0
      rw [eus]
      refine ⟨_, ρ.upd z b cx.size, rfl, Ren.le_upd hz, fun j hj => Ren.upd_ne ρ hj, ?_, ?_⟩
      · exact .tup_mk (.cons .ptrU (.cons (by rw [hv1]; exact .v _) .nil))
      refine (hw.below hrw.to_below).adopt hz hF (fun j B hj e => ?_) t (C.enc (F x)) p2 p4 (fun σ j a v ha hv => ?_)
      · obtain ⟨b', o', q1, q2, _⟩ := hw.blk j B hj
        rw [q1] at e; simp at e; subst e
        rw [hnew] at q2; cases q2
      · have h8 := Rvs.of_flats (ρ := σ) (C.h1 (F x))
        refine h8.2 j a v ha ?_
        rw [← hval, List.getElem?_take, if_pos (List.getElem?_eq_some_iff.1 ha).1]
        simpa using hv

/-! The state at a block's head, behind other loops. -/
def hasB (t : Nat) : Code → Bool
  | .seq a b => hasB t a || hasB t b
  | .cond _ a b => hasB t a || hasB t b
  | .block id c => Nat.beq id t || hasB t c
  | .loop c => hasB t c
  | _ => false

def reachB (P : Program) (E : Env) (sym : List Tmp) (tab : BTab) (lf : Nat) (target : Nat) : Code → XS → Tree (Bool × AExit × XS)
  | .seq a b, x => (reachB P E sym tab lf target a x).bind fun r => match r with
    | (true, e, y) => .leaf (true, e, y)
    | (false, .normal, y) => reachB P E sym tab lf target b y
    | (false, e, y) => .leaf (false, e, y)
  | .cond c a b, x => match boolOf (look x.s.tm c) with
    | some true => reachB P E sym tab lf target a x
    | some false => reachB P E sym tab lf target b x
    | none => .fail
  | .block id c, x => bif Nat.beq id target then .leaf (true, .normal, x) else bif hasB target c then
      (reachB P E sym tab lf target c x).bind fun r => match r with
        | (false, .exit i, y) => bif Nat.beq i id then .leaf (false, .normal, y) else .leaf (false, .exit i, y)
        | r => .leaf r
    else (exec P E sym tab lf (.block id c) x).bind fun (e, y) => .leaf (false, e, y)
  | .loop c, x => reachB P E sym tab lf target c x
  | c, x => (exec P E sym tab lf c x).bind fun (e, y) => .leaf (false, e, y)

def entryB (P : Program) (E : Env) (sym : List Tmp) (tab : BTab) (lf : Nat) (f : Nat) (args : List AV) (h : AH) (n : Nat) (target : Nat) (k : Keep) : XS :=
  match firstT (reachB P E sym tab lf target (bodyOf P f) ⟨⟨args ++ undefs (ntmpsOf P f - args.length), h, true⟩, n⟩) with
  | some x => match trim k.tm k.ids k.n x with
    | some y => y
    | none => default
  | none => default
end Go.Rq

/- Slices as arguments: of several lengths, none among them. -/
namespace Go.Rq
open Go

/-- A slice as it is handed. -/
inductive SA where
  | nil
  | slc (n : Nat)
  | own (es n : Nat)

def SA.len : SA → Nat
  | .nil => 0
  | .slc n => n
  | .own _ n => n

def SA.at (s : SA) (id cap : Nat) : AV := match s with
  | .nil => .v (.slice none 0 0)
  | .slc n => .slc id 0 n cap
  | .own es n => .own id es 0 n

/-- What a slice is, and the cells of its block. -/
def readS (a : AV) (h : AH) : Option (SA × List AV) := match a with
  | .v (.slice none 0 0) => some (.nil, [])
  | .slc i 0 n _ => match h.getC i with
    | some B => some (.slc n, B.cs)
    | none => none
  | .own i es 0 n => match h.getC i with
    | some B => some (.own es n, B.cs)
    | none => none
  | _ => none

theorem readS_spec {a : AV} {h : AH} {s : SA} {cs : List AV} (e : readS a h = some (s, cs)) :
    (s = .nil ∧ cs = [] ∧ a = .v (.slice none 0 0)) ∨ ∃ i cap B, s ≠ .nil ∧ a = s.at i cap ∧ h.getC i = some B ∧ cs = B.cs := by
  unfold readS at e
  split at e
  · simp at e; obtain ⟨rfl, rfl⟩ := e; exact .inl ⟨rfl, rfl, rfl⟩
  · split at e
    · rename_i i n cap _ B hB
      simp at e; obtain ⟨rfl, rfl⟩ := e
      exact .inr ⟨i, cap, B, (fun h => by cases h), rfl, hB, rfl⟩
    · cases e
  · split at e
    · rename_i i es n _ B hB
      simp at e; obtain ⟨rfl, rfl⟩ := e
      exact .inr ⟨i, 0, B, (fun h => by cases h), rfl, hB, rfl⟩
    · cases e
  · cases e

/-! Lists of data, one after the other. -/
def encL {α : Type} (C : CC α) : List α → List AV
  | [] => []
  | x :: t => C.enc x ++ encL C t

def decL {α : Type} (C : CC α) : Nat → List AV → Option (List α)
  | 0, _ => some []
  | n + 1, cs => match C.dec (cs.take C.n), decL C n (cs.drop C.n) with
    | some x, some l => some (x :: l)
    | _, _ => none

theorem decL_len {α : Type} {C : CC α} : ∀ {n : Nat} {cs : List AV} {l : List α}, decL C n cs = some l → l.length = n
  | 0, cs, l, h => by simp [decL] at h; subst h; rfl
  | n + 1, cs, l, h => by
    simp only [decL] at h
    split at h
    · rename_i x m hx hm
      simp at h; subst h
      simp [decL_len hm]
    · cases h

theorem CC.val_len {α : Type} (C : CC α) (x : α) : (C.val x).length = C.n := by
  have := (Rvs.of_flats (ρ := Ren.empty) (C.h1 x)).1
  rw [← this, C.len]

theorem decL_rv {α : Type} {C : CC α} {ρ : Ren} : ∀ {n : Nat} {cs : List AV} {vs : List Value} {l : List α}, decL C n cs = some l → Rvs ρ cs vs →
    (encL C l).length ≤ vs.length ∧ ∀ σ, Rvs σ (encL C l) (vs.take (encL C l).length)
  | 0, cs, vs, l, h, r => by
    simp [decL] at h; subst h
    exact ⟨by simp [encL], fun σ => by simpa [encL] using (Rvs.nil (ρ := σ))⟩
  | n + 1, cs, vs, l, h, r => by
    simp only [decL] at h
    split at h
    · rename_i x m hx hm
      simp at h; subst h
      obtain ⟨h1, h2⟩ := decL_rv hm (r.drop C.n)
      have h3 := C.h2 ρ _ _ _ hx (r.take C.n)
      have h4 : C.n ≤ vs.length := by
        have := congrArg List.length h3
        rw [C.val_len] at this
        simp at this
        omega
      refine ⟨?_, fun σ => ?_⟩
      · simp only [encL, List.length_append, C.len]
        simp at h1
        omega
      · have e : vs.take (encL C (x :: m)).length = vs.take C.n ++ (vs.drop C.n).take (encL C m).length := by
          simp only [encL, List.length_append, C.len, List.take_add]
        rw [e, h3]
        exact (Rvs.of_flats (C.h1 x)).append (h2 σ)
    · cases h

/-! Slices that are handed. -/
structure Hd where
  s : SA
  cap : Nat
  t : TypeId
  cs : List AV
  fb : Option Nat
  n : Nat
  base : Nat

/-- What a handed slice is in a world. -/
structure HandS (w : World) (x : Hd) (v : Value) : Prop where
  rv : ∀ (σ : Ren) (id : Nat), σ id = x.fb → σ.cells id = x.n → σ.base id = x.base → Rv σ (x.s.at id x.cap) v
  blk : x.s ≠ .nil → ∃ b xs fr, x.fb = some b ∧ w.heap[b]? = some (.cells xs x.t fr) ∧ xs.size = x.n ∧ x.base + x.cs.length ≤ xs.size ∧
    ∀ (σ : Ren) (j : Nat) (a : AV) (u : Value), x.cs[j]? = some a → xs[x.base + j]? = some u → Rv σ a u

def hpS (id : Nat) (s : SA) (t : TypeId) (cs : List AV) : AH := match s with
  | .nil => []
  | _ => [(id, some ⟨false, t, cs⟩)]

def hHeap : Nat → List Hd → AH
  | _, [] => []
  | i, x :: t => hpS i x.s x.t x.cs ++ hHeap (i + 1) t

theorem hHeap_get : ∀ (l : List Hd) (i id : Nat) (B : Blk), (hHeap i l).get id = some B → ∃ j x, id = i + j ∧ l[j]? = some x ∧ x.s ≠ .nil ∧ B = ⟨false, x.t, x.cs⟩
  | [], i, id, B, h => by simp [hHeap, AH.get] at h
  | x :: t, i, id, B, h => by
    have next : (hHeap (i + 1) t).get id = some B → ∃ j y, id = i + j ∧ (x :: t)[j]? = some y ∧ y.s ≠ .nil ∧ B = ⟨false, y.t, y.cs⟩ := fun h => by
      obtain ⟨j, y, h1, h2, h3, h4⟩ := hHeap_get t (i + 1) id B h
      exact ⟨j + 1, y, by omega, by simpa using h2, h3, h4⟩
    cases hs : x.s with
    | nil =>
      simp only [hHeap, hs, hpS, List.nil_append] at h
      exact next h
    | slc n =>
      simp only [hHeap, hs, hpS, List.cons_append, List.nil_append] at h
      rw [AH.get_cons] at h
      split at h
      · rename_i e
        simp at h
        exact ⟨0, x, by omega, rfl, (by rw [hs]; exact fun h => by cases h), h.symm⟩
      · exact next h
    | own es n =>
      simp only [hHeap, hs, hpS, List.cons_append, List.nil_append] at h
      rw [AH.get_cons] at h
      split at h
      · rename_i e
        simp at h
        exact ⟨0, x, by omega, rfl, (by rw [hs]; exact fun h => by cases h), h.symm⟩
      · exact next h

def hRen (l : List Hd) : Ren := ⟨fun id => match l[id]? with
    | some x => x.fb
    | none => none, fun id => match l[id]? with
    | some x => x.n
    | none => 0, fun id => match l[id]? with
    | some x => x.base
    | none => 0⟩

theorem hRW {w : World} (hg : GW w) {l : List Hd} (h : ∀ x ∈ l, ∃ v, HandS w x v) : RW (frameOf w) (hRen l) (hHeap 0 l) w := by
  refine ⟨fun id B hB => ?_, fun id id' B B' d hB hB' hwr => ?_, fun _ _ h => h, rfl, rfl, rfl, hg⟩
  · obtain ⟨j, x, e, hx, hn, rfl⟩ := hHeap_get l 0 id B hB
    rw [Nat.zero_add] at e
    subst e
    obtain ⟨v, hv⟩ := h x (List.mem_of_getElem? hx)
    obtain ⟨b, xs, fr, h1, h2, h3, h4, h5⟩ := hv.blk hn
    have e1 : (hRen l) id = x.fb := by simp [hRen, hx]
    have e2 : (hRen l).cells id = x.n := by simp [hRen, hx]
    have e3 : (hRen l).base id = x.base := by simp [hRen, hx]
    exact ⟨b, _, e1.trans h1, h2, .inl ⟨xs, fr, rfl, (fun h => by cases h), by rw [e3]; exact h4, fun i a u ha hu => h5 _ i a u ha (by rw [← e3]; exact hu)⟩, (fun h => by cases h), h3.trans e2.symm⟩
  · obtain ⟨j, x, e, hx, hn, rfl⟩ := hHeap_get l 0 id B hB
    cases hwr

theorem hRen_at {w : World} {l : List Hd} {j : Nat} {x : Hd} {v : Value} (hx : l[j]? = some x) (h : HandS w x v) : Rv (hRen l) (x.s.at j x.cap) v :=
  h.rv _ _ (by simp [hRen, hx]) (by simp [hRen, hx]) (by simp [hRen, hx])

theorem hRen_none {l : List Hd} (id : Nat) (h : l.length ≤ id) : (hRen l) id = none := by
  simp [hRen, List.getElem?_eq_none h]

/-- A slice that is handed on. -/
theorem hand_of {α : Type} {F : Fr} {ρ : Ren} {h : AH} {w : World} (hw : RW F ρ h w) {A : CC α} {a : AV} {s : SA} {cs : List AV} (hr : readS a h = some (s, cs)) {l : List α} (hd : decL A s.len cs = some l) {v : Value} (hv : Rv ρ a v) :
    ∃ x : Hd, x.s = s ∧ x.cs = encL A l ∧ HandS w x v := by
  rcases readS_spec hr with ⟨rfl, rfl, rfl⟩ | ⟨i, cap, B, hn, rfl, hB, rfl⟩
  · have : l = [] := by simpa [SA.len, decL] using hd.symm
    subst this
    cases hv
    exact ⟨⟨.nil, 0, default, [], none, 0, 0⟩, rfl, rfl, ⟨fun σ id _ _ _ => .v _, fun h => absurd rfl h⟩⟩
  · obtain ⟨b, o, h1, h2, ⟨xs, fr, rfl, h3, h4, h5⟩, h6, h7⟩ := hw.blkC hB
    have hrel := rvs_prefix (ρ := ρ) (cs := B.cs) (xs := xs.toList.drop (ρ.base i)) (by simp; omega) (fun j a x ha hx => h5 j a x ha (by simpa using hx))
    obtain ⟨k1, k2⟩ := decL_rv hd hrel
    simp at k1
    refine ⟨⟨s, cap, B.ty, encL A l, some b, xs.size, ρ.base i⟩, rfl, rfl, ⟨fun σ id e1 e2 e3 => ?_, fun _ => ⟨b, xs, fr, rfl, h2, rfl, ?_, fun σ j a u ha hu => ?_⟩⟩⟩
    · simp only at e1 e2 e3
      show Rv σ (s.at id cap) v
      cases s with
      | nil => exact absurd rfl hn
      | slc n =>
        simp only [SA.at] at hv ⊢
        cases hv with
        | slc hb =>
          rw [h1] at hb; simp at hb; subst hb
          rw [← e3]
          exact .slc e1
      | own es n =>
        simp only [SA.at] at hv ⊢
        cases hv with
        | own hb h0 hc hl hm =>
          rw [h1] at hb; simp at hb; subst hb
          exact .own e1 (e3.trans h0) (by rw [e2]; simpa [count] using hc.trans h7.symm) hl hm
        | ownE _ hk => exact absurd hk (Nat.lt_irrefl 0)
    · show ρ.base i + (encL A l).length ≤ xs.size
      omega
    · have hlt := (List.getElem?_eq_some_iff.1 ha).1
      refine (k2 σ).2 j a u ha ?_
      rw [List.getElem?_take, if_pos hlt, List.getElem?_take, if_pos (by simp only at hlt; omega)]
      simpa using hu

/-! Contracts of functions that read two slices, one behind the other. -/
def decS {α : Type} (A : CC α) (x : SA × List AV) : Option (List α) := decL A x.1.len x.2

theorem ids_mem {a : AV} {i : Nat} (h : (∃ o n c, a = .slc i o n c) ∨ (∃ es k n, a = .own i es k n)) : ∀ {l : List AV}, a ∈ l → i ∈ idsOf l
  | b :: t, hm => by
    have key : i ∈ idsOf t → i ∈ idsOf (b :: t) := fun h => by
      simp only [idsOf]
      split <;> simp [h]
    rcases List.mem_cons.1 hm with rfl | hm
    · rcases h with ⟨o, n, c, rfl⟩ | ⟨es, k, n, rfl⟩ <;> simp [idsOf]
    · exact key (ids_mem h hm)

theorem readS_congr {h h' : AH} {args : List AV} {a : AV} (ha : a ∈ args) (hh : ∀ i, i ∈ idsOf args → ∀ B, h.get i = some B → h'.get i = some B) {x : SA × List AV} (e : readS a h = some x) : readS a h' = some x := by
  obtain ⟨s, cs⟩ := x
  rcases readS_spec e with ⟨rfl, rfl, rfl⟩ | ⟨i, cap, B, hn, rfl, hB, rfl⟩
  · rfl
  · cases s with
    | nil => exact absurd rfl hn
    | slc n => 
      have := getC_mono (hh i (ids_mem (.inl ⟨_, _, _, rfl⟩) ha)) hB
      simp [readS, SA.at, this]
    | own es n =>
      have := getC_mono (hh i (ids_mem (.inr ⟨_, _, _, rfl⟩) ha)) hB
      simp [readS, SA.at, this]

end Go.Rq

/- Functions gone through where they are called, that may write to what they are handed and lay one block; functions that lay one block under a condition. -/
namespace Go.Rq
open Go

/-! A name is changed. -/
def AV.mv0 (m z : Nat) : AV → AV
  | .ptr i o => .ptr (bif Nat.beq i m then z else i) o
  | .slc i o l c => .slc (bif Nat.beq i m then z else i) o l c
  | .own i es k l => .own (bif Nat.beq i m then z else i) es k l
  | a => a

def mvs (m z : Nat) : List AV → List AV
  | [] => []
  | a :: t => a.mv0 m z :: mvs m z t

def AV.mv (m z : Nat) : AV → AV
  | .tup cs => .tup (mvs m z cs)
  | a => a.mv0 m z

/-! The blocks that are handed, and what becomes of them. -/
open Classical in
section
variable {F : Fr} {ρ ρ' : Ren} {h h0 h' ups : AH} {w w' : World} {ids : List Nat} {top : Nat}

end

/-! A function gone through where it is called. -/
def stripQ : Tree (AV × AH) → Option (AV × AH)
  | .leaf a => some a
  | .need true t => stripQ t
  | _ => none

theorem stripQ_holds : ∀ {t : Tree (AV × AH)} {r : AV × AH}, stripQ t = some r → t.holds (fun q => q = r)
  | .leaf a, r, h => by simp [stripQ] at h; exact h
  | .need true t, r, h => by simp only [stripQ] at h; exact ⟨rfl, stripQ_holds h⟩
  | .need false t, r, h => by simp [stripQ] at h
  | .br _ _ _, r, h => by simp [stripQ] at h
  | .same _ _ _, r, h => by simp [stripQ] at h
  | .fail, r, h => by simp [stripQ] at h

abbrev ActTab := List (FuncId × (List AV → AH → Nat → Option (Bool × AV × AH)))

def lookAT : ActTab → FuncId → Option (List AV → AH → Nat → Option (Bool × AV × AH))
  | [], _ => none
  | (f, g) :: t, k => bif Nat.beq f k then some g else lookAT t k

theorem lookAT_mem : ∀ {ps : ActTab} {f : FuncId} {g}, lookAT ps f = some g → (f, g) ∈ ps
  | [], f, g, h => by simp [lookAT] at h
  | (k, q) :: t, f, g, h => by
    simp only [lookAT] at h
    cases hb : Nat.beq k f with
    | true => rw [hb] at h; simp at h; subst h; rw [Nat.eq_of_beq_eq_true hb]; simp
    | false => rw [hb] at h; exact List.mem_cons_of_mem _ (lookAT_mem h)

def TabAOk (P : Program) (ps : ActTab) : Prop := ∀ p ∈ ps, Enters P p.1 ∧ ActOk P 1 p.1 p.2
theorem TabAOk.nil {P : Program} : TabAOk P [] := fun p h => by simp at h
theorem TabAOk.cons {P : Program} {f : FuncId} {g : List AV → AH → Nat → Option (Bool × AV × AH)} {t : ActTab} (h1 : Enters P f) (h : ActOk P 1 f g) (r : TabAOk P t) : TabAOk P ((f, g) :: t) := by
  intro p hp
  rcases List.mem_cons.1 hp with rfl | hp
  · exact ⟨h1, h⟩
  · exact r p hp

/-- All kinds of tables; types of strings; an assignment under a bool in a slot of ms is made of both values. -/
def envA (eqs : List (TypeId × List Nat)) (ps : PureTab) (hs : HeapTab) (ls : LayTab) (cs : ActTab) (ss : List TypeId) (ms : List Tmp) (fr : Bool) (ro : List FuncId) : Env := ⟨lookP ps, lookHT hs, lookE eqs, false, true, ss, ms, lookLT ls, none, lookAT cs, fr, ro, 1⟩
theorem envA_ok {P : Program} {eqs : List (TypeId × List Nat)} {ps : PureTab} {hs : HeapTab} {ls : LayTab} {cs : ActTab} {ss : List TypeId} {ms : List Tmp} {fr : Bool} {ro : List FuncId} (he : EqsOk P eqs) (hp : TabPOk P ps) (hh : TabHOk P hs) (hl : TabLOk P ls) (ha : TabAOk P cs) : EnvOk P (envA eqs ps hs ls cs ss ms fr ro) :=
  ⟨fun _ _ h => he _ (lookE_mem h), fun _ _ h => hp _ (lookP_mem h), fun _ _ h => hh _ (lookHT_mem h), fun _ _ h => hl _ (lookLT_mem h), fun _ _ h => ha _ (lookAT_mem h), Nat.le_refl 1⟩

/-! A function of exact arguments that lays one block and hands back what names it, where a condition holds. -/
def layN {α γ : Type} (A : Cod α) (t : TypeId) (C : CC γ) (ok : α → Bool) (R : AV) (F : α → γ) : List AV → Nat → Option (Bool × AV × Blk)
  | [a], z => match A.dec a with
    | none => none
    | some x => some (ok x, R.mv 0 z, ⟨true, t, C.enc (F x)⟩)
  | _, _ => none

/-! Bytes. -/
def bytL (b : Nat → Int) : Nat → Nat → List AV
  | _, 0 => []
  | i, n + 1 => .v (.int .u8 (b i)) :: bytL b (i + 1) n
def bytV (b : Nat → Int) : Nat → Nat → List Value
  | _, 0 => []
  | i, n + 1 => .int .u8 (b i) :: bytV b (i + 1) n
def bytD : Nat → List AV → Option (List Int)
  | 0, [] => some []
  | n + 1, a :: t => match intOf .u8 a, bytD n t with
    | some x, some l => some (x :: l)
    | _, _ => none
  | _, _ => none

theorem bytL_len (b : Nat → Int) : ∀ n i, (bytL b i n).length = n
  | 0, i => rfl
  | n + 1, i => by simp [bytL, bytL_len b n]
theorem bytL_flat (b : Nat → Int) : ∀ n i, flats (bytL b i n) = some (bytV b i n)
  | 0, i => rfl
  | n + 1, i => by simp only [bytL, bytV, flats, scal, bytL_flat b n]
theorem bytD_val {ρ : Ren} : ∀ {n : Nat} {as : List AV} {vs : List Value} {l : List Int} (j : Nat) (f : Nat → Int), bytD n as = some l → Rvs ρ as vs → (∀ i, i < n → f (j + i) = l.getD i 0) → vs = bytV f j n
  | 0, [], vs, l, j, f, h, r, _ => by rw [r.unnil]; rfl
  | 0, _ :: _, vs, l, j, f, h, r, _ => by cases h
  | n + 1, [], vs, l, j, f, h, r, _ => by cases h
  | n + 1, a :: t, vs, l, j, f, h, r, hf => by
    simp only [bytD] at h
    split at h
    · rename_i x m hx hm
      simp at h; subst h
      obtain ⟨v, ys, rfl, hv, ht⟩ := r.uncons
      have h1 := (kInt .u8).h2 ρ a v x hx hv
      have h2 := bytD_val (j + 1) f hm ht (fun i hi => by
        have := hf (i + 1) (by omega)
        rw [show j + 1 + i = j + (i + 1) by omega, this]
        rfl)
      have h3 := hf 0 (by omega)
      rw [h1, h2]
      show Value.int .u8 x :: bytV f (j + 1) n = Value.int .u8 (f j) :: bytV f (j + 1) n
      rw [show f j = x from h3]
    · cases h

/-- So many bytes. -/
def cBy (n : Nat) : CC (Nat → Int) where
  n := n
  enc b := bytL b 0 n
  dec l := match bytD n l with
    | some m => some (fun i => m.getD i 0)
    | none => none
  val b := bytV b 0 n
  len b := bytL_len b n 0
  h1 b := bytL_flat b n 0
  h2 ρ as vs x h r := by
    split at h
    · rename_i m hm
      simp at h; subst h
      exact bytD_val 0 _ hm r (fun i _ => by rw [Nat.zero_add, List.getD_eq_getElem?_getD])
    · cases h
end Go.Rq

/- Functions that write to the slice that they are handed, and hand it back. -/
namespace Go.Rq
open Go

end Go.Rq

/- Functions that read one block by a pointer, with a loop; one datum alone; multiples by the bits. -/
namespace Go.Rq
open Go

theorem wrapI {n : Int} (h0 : -9223372036854775808 ≤ n) (h1 : n < 9223372036854775808) : IntKind.i64.wrap n = n := by
  simp only [IntKind.wrap, IntKind.bits, IntKind.signed]
  simp
  omega

/-! Twice, and once more where a bit is set. -/
end Go.Rq
