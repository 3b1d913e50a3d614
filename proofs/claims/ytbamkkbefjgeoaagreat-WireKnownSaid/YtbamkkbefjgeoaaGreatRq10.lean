/- Functions that only read the blocks that they are handed, gone through where they are called. -/
import Derived.Test.YtbamkkbefjgeoaaGreatRq09
namespace Go.Rq
open Go

def topOf : List Nat → Nat
  | [] => 0
  | i :: t => Nat.max (i + 1) (topOf t)

theorem topOf_lt : ∀ {l : List Nat} {i : Nat}, i ∈ l → i < topOf l
  | j :: t, i, h => by
    simp only [topOf]
    rcases List.mem_cons.1 h with rfl | h
    · exact Nat.lt_of_lt_of_le (Nat.lt_succ_self _) (Nat.le_max_left _ _)
    · exact Nat.lt_of_lt_of_le (topOf_lt h) (Nat.le_max_right _ _)

/-- The blocks named, to be read alone; they must name no blocks. -/
def viewH (h : AH) : List Nat → Option AH
  | [] => some []
  | i :: t => match AH.get h i with
    | none => none
    | some B => match viewH h t with
      | none => none
      | some l => bif allLt 0 B.cs then some ((i, some ⟨false, B.ty, B.cs⟩) :: l) else none

theorem viewH_get {h : AH} : ∀ {ids : List Nat} {l : AH}, viewH h ids = some l → ∀ id B, l.get id = some B →
    id ∈ ids ∧ ∃ B0, h.get id = some B0 ∧ B = ⟨false, B0.ty, B0.cs⟩ ∧ allLt 0 B0.cs = true
  | [], l, e, id, B, g => by simp [viewH] at e; subst e; simp [AH.get] at g
  | i :: t, l, e, id, B, g => by
    simp only [viewH] at e
    split at e
    · cases e
    · rename_i B0 hB0
      split at e
      · cases e
      · rename_i l' hl'
        cases hc : allLt 0 B0.cs with
        | false => rw [hc] at e; simp at e
        | true =>
          rw [hc] at e; simp at e; subst e
          rw [AH.get_cons] at g
          split at g
          · rename_i e; subst e; simp at g; subst g; exact ⟨by simp, B0, hB0, rfl, hc⟩
          · obtain ⟨h1, h2⟩ := viewH_get hl' id B g
            exact ⟨by simp [h1], h2⟩

theorem viewH_congr {h h' : AH} : ∀ {ids : List Nat} {l : AH}, (∀ i ∈ ids, ∀ B, h.get i = some B → h'.get i = some B) → viewH h ids = some l → viewH h' ids = some l
  | [], l, _, e => e
  | i :: t, l, k, e => by
    simp only [viewH] at e ⊢
    split at e
    · cases e
    · rename_i B0 hB0
      split at e
      · cases e
      · rename_i l' hl'
        rw [k i (by simp) B0 hB0, viewH_congr (fun j hj => k j (by simp [hj])) hl']
        exact e

theorem viewH_ok {F : Fr} {ρ : Ren} {h : AH} {w : World} (r : RW F ρ h w) {ids : List Nat} {l : AH} {n : Nat} (hv : viewH h ids = some l) (hn : ∀ i ∈ ids, i < n) :
    RW (frameOf w) (ρ.cut n) l w := by
  refine ⟨fun id B hB => ?_, fun id id' B B' b hB hB' hw => ?_, fun _ _ h => h, rfl, rfl, rfl, r.gw⟩
  · obtain ⟨hi, B0, h1, rfl, h2⟩ := viewH_get hv id B hB
    obtain ⟨b, o, h3, h4, h5, h8⟩ := r.blk id B0 h1
    refine ⟨b, _, by rw [Ren.cut_lt (hn id hi)]; exact h3, h4, h5.keep rfl (fun h => by cases h) rfl rfl (fun a ha x hx => ?_), (fun h => by cases h), h8.2⟩
    exact (hx.lt (n := 0) (allLt_spec h2 a ha)).mono (fun j c hj => absurd (Ren.cut_some hj).1 (by omega))
  · obtain ⟨_, B0, _, rfl, _⟩ := viewH_get hv id B hB
    cases hw

def stripH : Tree (AV × AH) → Option AV
  | .leaf a => some a.1
  | .need true t => stripH t
  | _ => none

theorem stripH_holds : ∀ {t : Tree (AV × AH)} {r : AV}, stripH t = some r → t.holds (fun q => q.1 = r)
  | .leaf a, r, h => by simp [stripH] at h; exact h
  | .need true t, r, h => by simp only [stripH] at h; exact ⟨rfl, stripH_holds h⟩
  | .need false t, r, h => by simp [stripH] at h
  | .br _ _ _, r, h => by simp [stripH] at h
  | .same _ _ _, r, h => by simp [stripH] at h
  | .fail, r, h => by simp [stripH] at h

/-- A function that reads what it is handed, gone through where it is called: it must come to one exact answer. -/
def viewG (P : Program) (E : Env) (sym : List Tmp) (lf f : Nat) (as : List AV) (h : AH) : Option (Bool × AV × AH) :=
  match allLt (topOf (idsOf as)) as with
  | true => match viewH h (idsOf as) with
    | some h0 => match stripH (afun P E sym (fun _ => none) lf f as h0 (topOf (idsOf as))).strict with
      | some r => match isFlat r with
        | true => some (true, r, [])
        | false => none
      | none => none
    | none => none
  | false => none

theorem Rvs.ids_ne {ρ : Ren} {z : Nat} (hz : ρ z = none) : ∀ {as : List AV} {xs : List Value}, Rvs ρ as xs → ∀ i ∈ idsOf as, i ≠ z
  | [], xs, _, i, hi => by simp [idsOf] at hi
  | a :: t, xs, h, i, hi => by
    obtain ⟨x, ys, rfl, hx, ht⟩ := h.uncons
    simp only [idsOf] at hi
    split at hi
    · cases hx with
      | ptr hb =>
        rcases List.mem_cons.1 hi with rfl | hi
        · intro e; subst e; rw [hz] at hb; cases hb
        · exact ht.ids_ne hz i hi
    · cases hx with
      | slc hb =>
        rcases List.mem_cons.1 hi with rfl | hi
        · intro e; subst e; rw [hz] at hb; cases hb
        · exact ht.ids_ne hz i hi
    · cases hx with
      | own hb _ _ _ =>
        rcases List.mem_cons.1 hi with rfl | hi
        · intro e; subst e; rw [hz] at hb; cases hb
        · exact ht.ids_ne hz i hi
      | ownE hb _ =>
        rcases List.mem_cons.1 hi with rfl | hi
        · intro e; subst e; rw [hz] at hb; cases hb
        · exact ht.ids_ne hz i hi
    · exact ht.ids_ne hz i hi

theorem Rvs.lt_all {ρ : Ren} {n : Nat} : ∀ {as : List AV} {xs : List Value}, Rvs ρ as xs → allLt n as = true → Rvs (ρ.cut n) as xs
  | [], xs, h, _ => by rw [h.unnil]; exact .nil
  | a :: t, xs, h, e => by
    obtain ⟨x, ys, rfl, hx, ht⟩ := h.uncons
    simp only [allLt, Bool.and_eq_true] at e
    exact .cons (hx.lt e.1) (ht.lt_all e.2)

theorem view_ok {P : Program} {E : Env} {sym : List Tmp} {lf f : Nat} (X : Ctx P E sym (fun _ => none) lf f) : HeapOk P f (viewG P E sym lf f) := by
  obtain ⟨fn, c, hf, hb, hok, htab⟩ := X.body
  refine ⟨?_, ?_, ?_, ?_, ?_⟩
  rotate_left 4
  · intro as h h' x hle hg
    unfold viewG at hg ⊢
    split at hg
    · rename_i hlt
      split at hg
      · rename_i h0 hv
        simp only [viewH_congr hle hv]
        exact hg
      · cases hg
    · cases hg
  · intro F ρ as xs h r ups w hg hx hw
    unfold viewG at hg
    split at hg
    · rename_i hlt
      split at hg
      · rename_i h0 hv
        split at hg
        · rename_i q hq
          split at hg
          · rename_i hfr
            simp at hg
            obtain ⟨rfl, rfl⟩ := hg
            unfold isFlat at hfr
            split at hfr
            · rename_i y hy
              have := afun_calls X.env X.mixed hf hb hok (tabOk_none c) (K := fun q' _ => flat q' = some y)
                (Tree.holds_strict (Tree.holds_mono (fun a h => by rw [h]; exact hy) (stripH_holds hq))) (F := frameOf w)
                (hx.lt_all hlt) (viewH_ok hw hv (fun i hi => topOf_lt hi)) (fun id hid => Ren.cut_ge hid)
              refine Calls.mono this ?_
              rintro e w' ⟨v, q', h', ρ', rfl, hk, hrv, hrw, _⟩
              have := hrv.flat_eq hk
              subst this
              exact ⟨v, rfl, .of_flat hy, hw.below hrw.to_below⟩
            · cases hfr
          · cases hg
        · cases hg
      · cases hg
    · cases hg
  · intro as h h' x hle hg
    unfold viewG at hg ⊢
    split at hg
    · rename_i hlt
      split at hg
      · rename_i h0 hv
        simp only [viewH_congr (fun i _ B hB => hle i B hB) hv]
        exact hg
      · cases hg
    · cases hg
  · intro ρ as xs z b h x hx hz hg
    unfold viewG at hg ⊢
    split at hg
    · rename_i hlt
      split at hg
      · rename_i h0 hv
        have := viewH_congr (h' := h) (fun i hi B hB => by
          rw [AH.get_cons, if_neg (fun e => hx.ids_ne hz i hi e.symm)] at hB; exact hB) hv
        simp only [this]
        exact hg
      · cases hg
    · cases hg
  · intro as h c r ups hg
    unfold viewG at hg
    split at hg
    · split at hg
      · split at hg
        · split at hg
          · simp at hg
            obtain ⟨_, _, rfl⟩ := hg
            simp
          · cases hg
        · cases hg
      · cases hg
    · cases hg

/-- What a function comes to, whatever it is handed. -/
theorem any_calls {P : Program} {E : Env} {sym : List Tmp} {tab : BTab} {lf f : Nat} (X : Ctx P E sym tab lf f) {k : Nat} {y : Value}
    (h : (afunR P E sym tab lf f (List.replicate k .any)).holds (fun q => flat q = some y)) {xs : Array Value} (hk : xs.size = k) (w : World) (hgw : GW w) :
    Calls P f xs w (fun e w' => e = .returned y ∧ RowKit.Below w.heap.size w w') := by
  obtain ⟨fn, c, hf, hb, hok, htab⟩ := X.body
  have hx : Rvs Ren.empty (List.replicate k .any) xs.toList := ⟨by simp [hk], fun i a x ha _ => by
    have : a = .any := by
      rw [List.getElem?_replicate] at ha
      split at ha
      · simpa using ha.symm
      · cases ha
    subst this
    exact .any x⟩
  have := afun_calls X.env X.mixed hf hb hok htab (K := fun q _ => flat q = some y) (Tree.holds_bind h) (F := frameOf w) (ρ := Ren.empty) (w := w) hx (RW.init w _ hgw) (fun _ _ => rfl)
  have e : xs.toList.toArray = xs := by simp
  rw [e] at this
  refine Calls.mono this ?_
  rintro e w' ⟨v, q, h', ρ', rfl, hk, hrv, hrw, _⟩
  have := hrv.flat_eq hk
  subst this
  exact ⟨rfl, hrw.to_below⟩

abbrev HeapTab := List (FuncId × (List AV → AH → Option (Bool × AV × AH)))

def lookHT : HeapTab → FuncId → Option (List AV → AH → Option (Bool × AV × AH))
  | [], _ => none
  | (f, g) :: t, k => bif Nat.beq f k then some g else lookHT t k

theorem lookHT_mem : ∀ {ps : HeapTab} {f : FuncId} {g}, lookHT ps f = some g → (f, g) ∈ ps
  | [], f, g, h => by simp [lookHT] at h
  | (k, q) :: t, f, g, h => by
    simp only [lookHT] at h
    cases hb : Nat.beq k f with
    | true => rw [hb] at h; simp at h; subst h; rw [Nat.eq_of_beq_eq_true hb]; simp
    | false => rw [hb] at h; exact List.mem_cons_of_mem _ (lookHT_mem h)

def TabHOk (P : Program) (ps : HeapTab) : Prop := ∀ p ∈ ps, Enters P p.1 ∧ HeapOk P p.1 p.2

theorem TabHOk.nil {P : Program} : TabHOk P [] := fun p h => by simp at h
theorem TabHOk.cons {P : Program} {f : FuncId} {g : List AV → AH → Option (Bool × AV × AH)} {t : HeapTab} (h1 : Enters P f) (h : HeapOk P f g) (r : TabHOk P t) : TabHOk P ((f, g) :: t) := by
  intro p hp
  rcases List.mem_cons.1 hp with rfl | hp
  · exact ⟨h1, h⟩
  · exact r p hp

def envS (eqs : List (TypeId × List Nat)) (ps : PureTab) (hs : HeapTab) (ss : List TypeId) : Env := ⟨lookP ps, lookHT hs, lookE eqs, false, true, ss, [], fun _ => none, none, fun _ => none, false, [], 1⟩
/-- Likewise; an assignment under a bool (in a slot of ms) that may be a variable is made of both values. -/
def envM (eqs : List (TypeId × List Nat)) (ps : PureTab) (hs : HeapTab) (ms : List Tmp) : Env := ⟨lookP ps, lookHT hs, lookE eqs, false, true, [], ms, fun _ => none, none, fun _ => none, false, [], 1⟩
theorem envM_ok {P : Program} {eqs : List (TypeId × List Nat)} {ps : PureTab} {hs : HeapTab} {ms : List Tmp} (he : EqsOk P eqs) (hp : TabPOk P ps) (hh : TabHOk P hs) : EnvOk P (envM eqs ps hs ms) :=
  ⟨fun _ _ h => he _ (lookE_mem h), fun _ _ h => hp _ (lookP_mem h), fun _ _ h => hh _ (lookHT_mem h), (fun _ _ h => by cases h), (fun _ _ h => by cases h), Nat.le_refl 1⟩
def envH (eqs : List (TypeId × List Nat)) (ps : PureTab) (hs : HeapTab) : Env := envS eqs ps hs []

theorem envS_ok {P : Program} {eqs : List (TypeId × List Nat)} {ps : PureTab} {hs : HeapTab} {ss : List TypeId} (he : EqsOk P eqs) (hp : TabPOk P ps) (hh : TabHOk P hs) : EnvOk P (envS eqs ps hs ss) :=
  ⟨fun _ _ h => he _ (lookE_mem h), fun _ _ h => hp _ (lookP_mem h), fun _ _ h => hh _ (lookHT_mem h), (fun _ _ h => by cases h), (fun _ _ h => by cases h), Nat.le_refl 1⟩

theorem envH_ok {P : Program} {eqs : List (TypeId × List Nat)} {ps : PureTab} {hs : HeapTab} (he : EqsOk P eqs) (hp : TabPOk P ps) (hh : TabHOk P hs) : EnvOk P (envH eqs ps hs) :=
  ⟨fun _ _ h => he _ (lookE_mem h), fun _ _ h => hp _ (lookP_mem h), fun _ _ h => hh _ (lookHT_mem h), (fun _ _ h => by cases h), (fun _ _ h => by cases h), Nat.le_refl 1⟩

end Go.Rq

/- Contracts at listed values; contracts of functions that read slices. -/
namespace Go.Rq
open Go

theorem CallOk.weaken {P : Program} {f : FuncId} {g g' : List AV → Option (Bool × AV)} (h : ∀ as r, g' as = some (true, r) → g as = some (true, r)) (k : CallOk P f g) : CallOk P f g' := by
  rcases k with ⟨h1, h2⟩ | h2
  · exact .inl ⟨h1, fun ρ as xs r hg hx w => h2 ρ as xs r (h _ _ hg) hx w⟩
  · exact .inr fun ρ as xs r hg hx w => h2 ρ as xs r (h _ _ hg) hx w

/-- What is listed of an argument. -/
def lookT {α β : Type} (e : α → α → Bool) : List (α × β) → α → Option β
  | [], _ => none
  | p :: t, x => match e p.1 x with
    | true => some p.2
    | false => lookT e t x

theorem lookT_mem {α β : Type} {e : α → α → Bool} (he : ∀ x y, e x y = true → x = y) : ∀ {tab : List (α × β)} {x : α} {y : β}, lookT e tab x = some y → (x, y) ∈ tab
  | [], x, y, h => by simp [lookT] at h
  | p :: t, x, y, h => by
    simp only [lookT] at h
    split at h
    · rename_i hp; simp at h; subst h; rw [← he _ _ hp]; simp
    · exact List.mem_cons_of_mem _ (lookT_mem he h)

def fnT1 {α β : Type} (A : Cod α) (B : Cod β) (e : α → α → Bool) (tab : List (α × β)) : List AV → Option (Bool × AV)
  | [a] => match A.dec a with
    | none => none
    | some x => match lookT e tab x with
      | none => none
      | some y => some (true, B.enc y)
  | _ => none

def pairB {α γ : Type} (e : α → α → Bool) (e' : γ → γ → Bool) (p q : α × γ) : Bool := bif e p.1 q.1 then e' p.2 q.2 else false

theorem pairB_eq {α γ : Type} {e : α → α → Bool} (he : ∀ x y, e x y = true → x = y) {e' : γ → γ → Bool} (he' : ∀ x y, e' x y = true → x = y) (p q : α × γ) (h : pairB e e' p q = true) : p = q := by
  unfold pairB at h
  cases h1 : e p.1 q.1 with
  | false => rw [h1] at h; cases h
  | true => rw [h1] at h; exact Prod.ext (he _ _ h1) (he' _ _ h)

def fnT2 {α β γ : Type} (A : Cod α) (C : Cod γ) (B : Cod β) (e : α → α → Bool) (e' : γ → γ → Bool) (tab : List ((α × γ) × β)) : List AV → Option (Bool × AV)
  | [a, c] => match A.dec a, C.dec c with
    | some x, some z => match lookT (pairB e e') tab (x, z) with
      | none => none
      | some y => some (true, B.enc y)
    | _, _ => none
  | _ => none

theorem callT1 {P : Program} {f : FuncId} {α β : Type} {A : Cod α} {B : Cod β} {F : α → β} {e : α → α → Bool} (he : ∀ x y, e x y = true → x = y) {tab : List (α × β)} (ht : ∀ p ∈ tab, F p.1 = p.2)
    (h : CallOk P f (fn1 A B F)) : CallOk P f (fnT1 A B e tab) := by
  refine h.weaken fun as r hg => ?_
  unfold fnT1 at hg
  split at hg
  · split at hg
    · cases hg
    · rename_i x hx
      split at hg
      · cases hg
      · rename_i y hy
        simp at hg; subst hg
        simp [fn1, hx, ht _ (lookT_mem he hy)]
  · cases hg

theorem callT2 {P : Program} {f : FuncId} {α β γ : Type} {A : Cod α} {B : Cod β} {C : Cod γ} {F : α → γ → β} {e : α → α → Bool} (he : ∀ x y, e x y = true → x = y) {e' : γ → γ → Bool} (he' : ∀ x y, e' x y = true → x = y)
    {tab : List ((α × γ) × β)} (ht : ∀ p ∈ tab, F p.1.1 p.1.2 = p.2) (h : CallOk P f (fn2 A C B F)) : CallOk P f (fnT2 A C B e e' tab) := by
  refine h.weaken fun as r hg => ?_
  unfold fnT2 at hg
  split at hg
  · split at hg
    · rename_i x z hx hz
      split at hg
      · cases hg
      · rename_i y hy
        simp at hg; subst hg
        have hm := lookT_mem (pairB_eq he he') hy
        simp [fn2, hx, hz, ht _ hm]
    · cases hg
  · cases hg

/-- A function of one argument, gone through at the listed values. -/
theorem tabT1 {P : Program} {E : Env} {sym : List Tmp} {tab : BTab} {lf f : Nat} (X : Ctx P E sym tab lf f) {α β : Type} {A : Cod α} {B : Cod β} {e : α → α → Bool} (he : ∀ x y, e x y = true → x = y) {l : List (α × β)}
    (h : ∀ p ∈ l, Gives (afunR P E sym tab lf f [A.enc p.1]) (B.val p.2)) : PureOk P f (fnT1 A B e l) := by
  refine pure_core X fun as r hg => ?_
  unfold fnT1 at hg
  split at hg
  · rename_i a
    split at hg
    · cases hg
    · rename_i x hx
      split at hg
      · cases hg
      · rename_i y hy
        simp at hg; subst hg
        refine ⟨[A.enc x], [A.val x], fun ρ xs hxs => ?_, by simp [flatL, A.h1], _, B.h1 _, (h _ (lookT_mem he hy)).out⟩
        obtain ⟨v, ys, rfl, h1, h2⟩ := hxs.uncons
        rw [h2.unnil, A.h2 ρ _ _ _ hx h1]
  · cases hg

/-! Functions that read slices of known length. -/

/-- A slice as it is handed: all of a block, or a row that is owned. -/
inductive SlA where
  | slc (n : Nat)
  | own (es n : Nat)

def SlA.at (s : SlA) (id : Nat) : AV := match s with
  | .slc n => .slc id 0 n n
  | .own es n => .own id es 0 n

def SlA.name (s : SlA) : AV → Option Nat
  | .slc i 0 n m => match s with
    | .slc k => bif Nat.beq n k && Nat.beq m k then some i else none
    | _ => none
  | .own i es 0 n => match s with
    | .own es' k => bif Nat.beq es es' && Nat.beq n k then some i else none
    | _ => none
  | _ => none

theorem bcond {α : Type} {b : Bool} {x : Option α} {y : α} (h : (bif b then x else none) = some y) : b = true ∧ x = some y := by
  cases b with
  | true => exact ⟨rfl, h⟩
  | false => cases h

theorem SlA.name_eq {s : SlA} {a : AV} {i : Nat} (h : s.name a = some i) : a = s.at i := by
  unfold SlA.name at h
  split at h
  · split at h
    · obtain ⟨h1, h2⟩ := bcond h
      simp only [Bool.and_eq_true, Option.some.injEq] at h1 h2
      obtain ⟨e1, e2⟩ := h1
      have e1 := Nat.eq_of_beq_eq_true e1
      have e2 := Nat.eq_of_beq_eq_true e2
      subst e1; subst e2; subst h2; rfl
    · cases h
  · split at h
    · obtain ⟨h1, h2⟩ := bcond h
      simp only [Bool.and_eq_true, Option.some.injEq] at h1 h2
      obtain ⟨e1, e2⟩ := h1
      have e1 := Nat.eq_of_beq_eq_true e1
      have e2 := Nat.eq_of_beq_eq_true e2
      subst e1; subst e2; subst h2; rfl
    · cases h
  · cases h

/-- The same slice under another name of the same block. -/
theorem SlA.moved {ρ σ : Ren} {s : SlA} {i j : Nat} {x : Value} (h : Rv ρ (s.at i) x) : ∃ b, ρ i = some b ∧ (σ j = some b → σ.cells j = ρ.cells i → σ.base j = ρ.base i → Rv σ (s.at j) x) := by
  cases s with
  | slc n =>
    simp only [SlA.at] at h
    cases h with
    | slc hb => exact ⟨_, hb, fun h _ k0 => by rw [← k0]; exact .slc h⟩
  | own es n =>
    simp only [SlA.at] at h
    cases h with
    | own hb h0 hc hl hm => exact ⟨_, hb, fun h k k0 => .own h (k0.trans h0) (by rw [k]; exact hc) hl hm⟩
    | ownE _ hk => exact absurd hk (Nat.lt_irrefl 0)

/-- The datum in a block. -/
def blkDec {α : Type} (C : CC α) (t : TypeId) (h : AH) (i : Nat) : Option α :=
  match h.getC i with
  | none => none
  | some B => match Nat.beq B.ty t with
    | false => none
    | true => C.dec B.cs

def twoAH {α γ : Type} (A : CC α) (C : CC γ) (t1 t2 : TypeId) (x : α) (y : γ) : AH := [(0, some ⟨false, t1, A.enc x⟩), (1, some ⟨false, t2, C.enc y⟩)]

theorem rvs_prefix {ρ : Ren} : ∀ {cs : List AV} {xs : List Value}, cs.length ≤ xs.length → (∀ (i : Nat) (a : AV) (x : Value), cs[i]? = some a → xs[i]? = some x → Rv ρ a x) → Rvs ρ cs (xs.take cs.length) :=
  fun hl h => ⟨by simp [hl], fun i a x ha hx => by
    rw [List.getElem?_take] at hx
    split at hx
    · exact h i a x ha hx
    · cases hx⟩

/-- What is known of a block, said anew: by the datum that it tells. -/
theorem blk_again {α : Type} {F : Fr} {ρ : Ren} {h : AH} {w : World} (hw : RW F ρ h w) {C : CC α} {t : TypeId} {i : Nat} {x : α} (hd : blkDec C t h i = some x) :
    ∃ b xs fr, ρ i = some b ∧ w.heap[b]? = some (.cells xs t fr) ∧ xs.size = ρ.cells i ∧ ρ.base i + (C.enc x).length ≤ xs.size ∧ ∀ (σ : Ren) (j : Nat) (a : AV) (v : Value), (C.enc x)[j]? = some a → xs[ρ.base i + j]? = some v → Rv σ a v := by
  unfold blkDec at hd
  split at hd
  · cases hd
  · rename_i B hB
    split at hd
    · cases hd
    · rename_i ht
      have ht := Nat.eq_of_beq_eq_true ht
      obtain ⟨b, o, h1, h2, ⟨xs, fr, rfl, h3, h4, h5⟩, h6, h7⟩ := hw.blkC hB
      have hr := rvs_prefix (ρ := ρ) (cs := B.cs) (xs := xs.toList.drop (ρ.base i)) (by simp; omega) (fun i a x ha hx => h5 i a x ha (by simpa using hx))
      have hv := C.h2 ρ _ _ _ hd hr
      have hlen : (C.enc x).length = B.cs.length := by
        have := (Rvs.of_flats (ρ := ρ) (C.h1 x)).1
        rw [this, ← hv]; exact hr.1.symm
      refine ⟨b, xs, fr, h1, by rw [← ht]; exact h2, by simpa [count] using h7, by omega, fun σ j a v ha hv' => ?_⟩
      have h8 := Rvs.of_flats (ρ := σ) (C.h1 x)
      refine h8.2 j a v ha ?_
      rw [← hv, List.getElem?_take, if_pos (by rw [← hlen]; exact (List.getElem?_eq_some_iff.1 ha).1)]
      simpa using hv'

/-- What a function that reads two slices comes to. -/
structure GivesH (t : Tree (AV × AH)) (v : Value) : Prop where
  out : t.holds (fun q => flat q.1 = some v)

/-- A walk from a heap, of which the answer alone is kept. -/
def afunH (P : Program) (E : Env) (sym : List Tmp) (lf f : Nat) (as : List AV) (h : AH) (n : Nat) : Tree AV := (afun P E sym (fun _ => none) lf f as h n).bind fun q => .leaf q.1

theorem givesH {P : Program} {E : Env} {sym : List Tmp} {lf f : Nat} {as : List AV} {h : AH} {n : Nat} {u : Tree AV} {v : Value} (e : (afunH P E sym lf f as h n).strict = u) (hu : u.holds (fun q => flat q = some v)) :
    GivesH (afun P E sym (fun _ => none) lf f as h n) v := ⟨Tree.holds_bind (Tree.holds_strict (by rw [show ((afun P E sym (fun _ => none) lf f as h n).bind fun q => Tree.leaf q.1).strict = u from e]; exact hu))⟩

def sl2 {α β γ : Type} (s1 s2 : SlA) (t1 t2 : TypeId) (A : CC α) (C : CC γ) (B : Cod β) (F : α → γ → β) : List AV → AH → Option (Bool × AV × AH)
  | [a, c], h => match s1.name a, s2.name c with
    | some i, some j => match blkDec A t1 h i, blkDec C t2 h j with
      | some x, some y => some (true, B.enc (F x y), [])
      | _, _ => none
    | _, _ => none
  | _, _ => none

/-- Likewise with an exact argument ahead. -/
def sl3 {α β γ δ : Type} (s1 s2 : SlA) (t1 t2 : TypeId) (D : Cod δ) (A : CC α) (C : CC γ) (B : Cod β) (F : δ → α → γ → β) : List AV → AH → Option (Bool × AV × AH)
  | [d, a, c], h => match D.dec d, s1.name a, s2.name c with
    | some z, some i, some j => match blkDec A t1 h i, blkDec C t2 h j with
      | some x, some y => some (true, B.enc (F z x y), [])
      | _, _ => none
    | _, _, _ => none
  | _, _ => none

theorem two_world {α γ : Type} {F : Fr} {ρ : Ren} {h : AH} {w : World} (hw : RW F ρ h w) {A : CC α} {C : CC γ} {t1 t2 : TypeId} {i j : Nat} {x : α} {y : γ} (h1 : blkDec A t1 h i = some x) (h2 : blkDec C t2 h j = some y)
    {s1 s2 : SlA} {u v : Value} (hu : Rv ρ (s1.at i) u) (hv : Rv ρ (s2.at j) v) :
    ∃ σ : Ren, RW (frameOf w) σ (twoAH A C t1 t2 x y) w ∧ Rv σ (s1.at 0) u ∧ Rv σ (s2.at 1) v ∧ ∀ id, 2 ≤ id → σ id = none := by
  obtain ⟨b, xs, fr, p1, p2, p3, p4, p5⟩ := blk_again hw h1
  obtain ⟨c, ys, gr, q1, q2, q3, q4, q5⟩ := blk_again hw h2
  let σ : Ren := ⟨fun id => if id = 0 then some b else if id = 1 then some c else none, fun id => if id = 0 then xs.size else ys.size, fun id => if id = 0 then ρ.base i else ρ.base j⟩
  have s0 : σ 0 = some b := rfl
  have s1' : σ 1 = some c := rfl
  obtain ⟨b', e1, k1⟩ := SlA.moved (σ := σ) (j := 0) hu
  obtain ⟨c', e2, k2⟩ := SlA.moved (σ := σ) (j := 1) hv
  rw [p1] at e1; simp at e1; subst e1
  rw [q1] at e2; simp at e2; subst e2
  refine ⟨σ, ⟨fun id B hB => ?_, fun id id' B B' d hB hB' hwr => ?_, fun _ _ h => h, rfl, rfl, rfl, hw.gw⟩, k1 s0 p3 rfl, k2 s1' q3 rfl, fun id hid => by show (if id = 0 then some b else if id = 1 then some c else none) = none; rw [if_neg (by omega), if_neg (by omega)]⟩
  · unfold twoAH at hB
    rw [AH.get_cons] at hB
    split at hB
    · rename_i e; subst e; simp at hB; subst hB
      exact ⟨b, _, s0, p2, .inl ⟨xs, fr, rfl, (fun h => by cases h), p4, fun k a v ha hv => p5 σ k a v ha hv⟩, (fun h => by cases h), rfl⟩
    · rw [AH.get_cons] at hB
      split at hB
      · rename_i e; subst e; simp at hB; subst hB
        exact ⟨c, _, s1', q2, .inl ⟨ys, gr, rfl, (fun h => by cases h), q4, fun k a v ha hv => q5 σ k a v ha hv⟩, (fun h => by cases h), rfl⟩
      · simp [AH.get] at hB
  · unfold twoAH at hB
    rw [AH.get_cons] at hB
    split at hB
    · simp at hB; subst hB; cases hwr
    · rw [AH.get_cons] at hB
      split at hB
      · simp at hB; subst hB; cases hwr
      · simp [AH.get] at hB

theorem blkDec_congr {α : Type} {C : CC α} {t : TypeId} {h h' : AH} {i : Nat} {x : α} (hh : ∀ B, h.get i = some B → h'.get i = some B) (hd : blkDec C t h i = some x) : blkDec C t h' i = some x := by
  unfold blkDec at hd ⊢
  split at hd
  · cases hd
  · rename_i B hB
    simp only [getC_mono hh hB]; exact hd

theorem SlA.known {ρ : Ren} {s : SlA} {i : Nat} {x : Value} (h : Rv ρ (s.at i) x) : ∃ b, ρ i = some b := by
  obtain ⟨b, h, _⟩ := SlA.moved (σ := ρ) (j := i) h
  exact ⟨b, h⟩

theorem sl2_ok {P : Program} {E : Env} {sym : List Tmp} {lf f : Nat} {tab : BTab} {c : Code} {fn : Func} (hE : EnvOk P E) (hm : P.follows .mixedOrders = true) (hf : P.funcs.toList[f]? = some fn) (hb : fn.body = some c)
    (hok : codeOk E c = true) (htab : TabOk P 2 tab c) {α β γ : Type} {A : CC α} {C : CC γ} {B : Cod β} {F : α → γ → β} {s1 s2 : SlA} {t1 t2 : TypeId}
    (hr : ∀ x y, GivesH (afun P E sym tab lf f [s1.at 0, s2.at 1] (twoAH A C t1 t2 x y) 2) (B.val (F x y))) : HeapOk P f (sl2 s1 s2 t1 t2 A C B F) := by
  have key : ∀ {as : List AV} {h : AH} {o : Bool × AV × AH}, sl2 s1 s2 t1 t2 A C B F as h = some o → ∃ i j x y, as = [s1.at i, s2.at j] ∧ blkDec A t1 h i = some x ∧ blkDec C t2 h j = some y ∧ o = (true, B.enc (F x y), []) := by
    intro as h o hg
    unfold sl2 at hg
    split at hg
    · rename_i a c' 
      split at hg
      · rename_i i j hi hj
        split at hg
        · rename_i x y hx hy
          simp at hg
          exact ⟨i, j, x, y, by rw [SlA.name_eq hi, SlA.name_eq hj], hx, hy, hg.symm⟩
        · cases hg
      · cases hg
    · cases hg
  have again : ∀ {as : List AV} {h h' : AH} {o : Bool × AV × AH}, sl2 s1 s2 t1 t2 A C B F as h = some o → (∀ i, i ∈ idsOf as → ∀ B, h.get i = some B → h'.get i = some B) → sl2 s1 s2 t1 t2 A C B F as h' = some o := by
    intro as h h' o hg hh
    unfold sl2 at hg ⊢
    split at hg
    · rename_i a c'
      split at hg
      · rename_i i j hi hj
        have ea := SlA.name_eq hi
        have ec := SlA.name_eq hj
        have hi' : i ∈ idsOf [a, c'] := by subst ea; cases s1 <;> simp [SlA.at, idsOf]
        have hj' : j ∈ idsOf [a, c'] := by
          subst ea; subst ec
          cases s1 <;> cases s2 <;> simp [SlA.at, idsOf]
        split at hg
        · rename_i x y hx hy
          simp only [blkDec_congr (hh i hi') hx, blkDec_congr (hh j hj') hy]; exact hg
        · cases hg
      · cases hg
    · cases hg
  refine ⟨?_, fun as h h' x hle hg => again hg (fun i _ B hB => hle i B hB), fun ρ as xs z b h x hx hz hg => again hg (fun i hi B hB => by
      rw [AH.get_cons, if_neg (fun e => hx.ids_ne hz i hi e.symm)] at hB; exact hB), fun as h c' r ups hg => ?_, fun as h h' x hh hg => again hg hh⟩
  · intro F' ρ as xs h r ups w hg hx hw
    obtain ⟨i, j, x, y, rfl, h1, h2, ho⟩ := key hg
    simp at ho
    obtain ⟨rfl, rfl⟩ := ho
    obtain ⟨u, xs', rfl, hu, hx'⟩ := hx.uncons
    obtain ⟨v, xs'', rfl, hv, hx''⟩ := hx'.uncons
    rw [hx''.unnil]
    obtain ⟨σ, g1, g2, g3, g4⟩ := two_world hw h1 h2 hu hv
    have := afun_calls hE hm hf hb hok htab (K := fun q _ => flat q = some (B.val (F x y))) (hr x y).out (F := frameOf w) (.cons g2 (.cons g3 .nil)) g1 g4
    refine Calls.mono this ?_
    rintro e w' ⟨v', q', h', ρ', rfl, hk, hrv, hrw, _⟩
    have := hrv.flat_eq hk
    subst this
    exact ⟨_, rfl, .of_flat (B.h1 _), hw.below hrw.to_below⟩
  · obtain ⟨i, j, x, y, _, _, _, ho⟩ := key hg
    simp at ho
    obtain ⟨_, _, rfl⟩ := ho
    simp

theorem sl3_ok {P : Program} {E : Env} {sym : List Tmp} {lf f : Nat} {tab : BTab} {c : Code} {fn : Func} (hE : EnvOk P E) (hm : P.follows .mixedOrders = true) (hf : P.funcs.toList[f]? = some fn) (hb : fn.body = some c)
    (hok : codeOk E c = true) (htab : TabOk P 2 tab c) {α β γ δ : Type} {D : Cod δ} {A : CC α} {C : CC γ} {B : Cod β} {F : δ → α → γ → β} {s1 s2 : SlA} {t1 t2 : TypeId}
    (hr : ∀ z x y, GivesH (afun P E sym tab lf f [D.enc z, s1.at 0, s2.at 1] (twoAH A C t1 t2 x y) 2) (B.val (F z x y))) : HeapOk P f (sl3 s1 s2 t1 t2 D A C B F) := by
  have key : ∀ {as : List AV} {h : AH} {o : Bool × AV × AH}, sl3 s1 s2 t1 t2 D A C B F as h = some o → ∃ d z i j x y, as = [d, s1.at i, s2.at j] ∧ D.dec d = some z ∧ blkDec A t1 h i = some x ∧ blkDec C t2 h j = some y ∧ o = (true, B.enc (F z x y), []) := by
    intro as h o hg
    unfold sl3 at hg
    split at hg
    · rename_i d a c'
      split at hg
      · rename_i z i j hz hi hj
        split at hg
        · rename_i x y hx hy
          simp at hg
          exact ⟨d, z, i, j, x, y, by rw [SlA.name_eq hi, SlA.name_eq hj], hz, hx, hy, hg.symm⟩
        · cases hg
      · cases hg
    · cases hg
  have more : ∀ (d : AV) (l : List AV) (i : Nat), i ∈ idsOf l → i ∈ idsOf (d :: l) := by
    intro d l i hi
    simp only [idsOf]
    split <;> simp [hi]
  have again : ∀ {as : List AV} {h h' : AH} {o : Bool × AV × AH}, sl3 s1 s2 t1 t2 D A C B F as h = some o → (∀ i, i ∈ idsOf as → ∀ B, h.get i = some B → h'.get i = some B) → sl3 s1 s2 t1 t2 D A C B F as h' = some o := by
    intro as h h' o hg hh
    unfold sl3 at hg ⊢
    split at hg
    · rename_i d a c'
      split at hg
      · rename_i z i j hz hi hj
        have ea := SlA.name_eq hi
        have ec := SlA.name_eq hj
        have hi' : i ∈ idsOf [d, a, c'] := more d _ i (by subst ea; cases s1 <;> simp [SlA.at, idsOf])
        have hj' : j ∈ idsOf [d, a, c'] := more d _ j (by
          subst ea; subst ec
          cases s1 <;> cases s2 <;> simp [SlA.at, idsOf])
        split at hg
        · rename_i x y hx hy
          simp only [blkDec_congr (hh i hi') hx, blkDec_congr (hh j hj') hy]; exact hg
        · cases hg
      · cases hg
    · cases hg
  refine ⟨?_, fun as h h' x hle hg => again hg (fun i _ B hB => hle i B hB), fun ρ as xs z b h x hx hz hg => again hg (fun i hi B hB => by
      rw [AH.get_cons, if_neg (fun e => hx.ids_ne hz i hi e.symm)] at hB; exact hB), fun as h c' r ups hg => ?_, fun as h h' x hh hg => again hg hh⟩
  · intro F' ρ as xs h r ups w hg hx hw
    obtain ⟨d, z, i, j, x, y, rfl, hz, h1, h2, ho⟩ := key hg
    simp at ho
    obtain ⟨rfl, rfl⟩ := ho
    obtain ⟨p, xs0, rfl, hp, hx0⟩ := hx.uncons
    obtain ⟨u, xs', rfl, hu, hx'⟩ := hx0.uncons
    obtain ⟨v, xs'', rfl, hv, hx''⟩ := hx'.uncons
    rw [hx''.unnil]
    obtain ⟨σ, g1, g2, g3, g4⟩ := two_world hw h1 h2 hu hv
    have hpv := D.h2 ρ _ _ _ hz hp
    subst hpv
    have := afun_calls hE hm hf hb hok htab (K := fun q _ => flat q = some (B.val (F z x y))) (hr z x y).out (F := frameOf w) (.cons (.of_flat (D.h1 z)) (.cons g2 (.cons g3 .nil))) g1 g4
    refine Calls.mono this ?_
    rintro e w' ⟨v', q', h', ρ', rfl, hk, hrv, hrw, _⟩
    have := hrv.flat_eq hk
    subst this
    exact ⟨_, rfl, .of_flat (B.h1 _), hw.below hrw.to_below⟩
  · obtain ⟨d, z, i, j, x, y, _, _, _, _, ho⟩ := key hg
    simp at ho
    obtain ⟨_, _, rfl⟩ := ho
    simp


/-! Functions that write one block that they are handed. -/

/-- A store into a block, other blocks may have come. -/
theorem RW.wrote {F : Fr} {ρ : Ren} {h : AH} {w w' : World} (r : RW F ρ h w) {id b : Nat} {B : Blk} (hb : h.get id = some B) (hρ : ρ id = some b) (hwr : B.wr = true)
    {xs : Array Value} (hx : w.heap[b]? = some (.cells xs B.ty (0, 0))) (cs' : List AV) (ys : Array Value)
    (hbz : ρ.base id = 0) (hsz : ys.size = xs.size) (hys : cs'.length ≤ ys.size) (hrel : ∀ (i : Nat) (a : AV) (x : Value), cs'[i]? = some a → ys[i]? = some x → Rv ρ a x)
    (h1 : w'.heap[b]? = some (.cells ys B.ty (0, 0))) (h2 : ∀ k o, k ≠ b → w.heap[k]? = some o → w'.heap[k]? = some o) (h3 : w'.os = w.os) (h4 : w'.tape = w.tape) (h5 : w'.output = w.output) :
    RW F ρ ((id, some ⟨B.wr, B.ty, cs'⟩) :: h) w' := by
  obtain ⟨b0, o0, hb0, ho0, hB0, hF0, hcn⟩ := r.blk id B hb
  rw [hρ] at hb0; simp at hb0; subst hb0
  rw [hx] at ho0; simp at ho0; subst ho0
  refine ⟨fun j C hj => ?_, fun j j' C C' c hj hj' hw hc hc' => ?_, fun k o hk => ?_, h3.trans r.os, h4.trans r.tape, h5.trans r.out, r.gc⟩
  · rw [AH.get_cons] at hj
    split at hj
    · rename_i e; subst e; simp at hj; subst hj
      exact ⟨b, _, hρ, h1, .inl ⟨ys, (0, 0), rfl, fun _ => ⟨rfl, hbz⟩, by rw [hbz]; simpa using hys, by rw [hbz]; simpa using hrel⟩, fun _ => hF0 hwr, by simp only [count] at hcn ⊢; rw [hsz]; exact hcn⟩
    · rename_i e
      obtain ⟨c, o, hc, ho, hC, hk⟩ := r.blk j C hj
      have hne : c ≠ b := fun ec => by subst ec; exact e (r.inj id j B C c hb hj hwr hρ hc)
      exact ⟨c, o, hc, h2 c o hne ho, hC, hk⟩
  · have get' : ∀ k C, AH.get ((id, some ⟨B.wr, B.ty, cs'⟩) :: h) k = some C → ∃ C0, h.get k = some C0 ∧ C0.wr = C.wr := by
      intro k C hk
      rw [AH.get_cons] at hk
      split at hk
      · rename_i e; subst e; simp at hk; subst hk; exact ⟨B, hb, rfl⟩
      · exact ⟨C, hk, rfl⟩
    obtain ⟨C0, hC0, hw0⟩ := get' j C hj
    obtain ⟨C1, hC1, hw1⟩ := get' j' C' hj'
    exact r.inj j j' C0 C1 c hC0 hC1 (by rw [hw0]; exact hw) hc hc'
  · have hne : k ≠ b := fun e => by subst e; rw [hF0 hwr] at hk; cases hk
    exact h2 k o hne (r.fr k o hk)

/-- The datum in a block that may be written. -/
def blkDecW {α : Type} (C : CC α) (t : TypeId) (h : AH) (i : Nat) : Option α :=
  match h.getC i with
  | none => none
  | some B => match B.wr && Nat.beq B.ty t with
    | false => none
    | true => C.dec B.cs

theorem blkDecW_congr {α : Type} {C : CC α} {t : TypeId} {h h' : AH} {i : Nat} {x : α} (hh : ∀ B, h.get i = some B → h'.get i = some B) (hd : blkDecW C t h i = some x) : blkDecW C t h' i = some x := by
  unfold blkDecW at hd ⊢
  split at hd
  · cases hd
  · rename_i B hB
    simp only [getC_mono hh hB]; exact hd

/-- The second argument's block is written, by the other arguments; nothing is handed back. -/
def wr4 {α β γ δ : Type} (t : TypeId) (D : Cod δ) (C : CC γ) (A : Cod α) (B : Cod β) (F : δ → γ → α → β → γ) : List AV → AH → Option (Bool × AV × AH)
  | [d, .ptr i 0, a, b], h => match D.dec d, blkDecW C t h i, A.dec a, B.dec b with
    | some z, some w, some x, some y => some (true, .tup [], [(i, some ⟨true, t, C.enc (F z w x y)⟩)])
    | _, _, _, _ => none
  | _, _ => none

/-- What is left in the first block. -/
def outW (t : TypeId) (q : AV × AH) : AV := match q.2.get 0 with
  | none => .any
  | some B => match B.wr && Nat.beq B.ty t with
    | true => .tup [q.1, .agg B.cs]
    | false => .any

theorem outW_eq {t : TypeId} {q : AV × AH} {a : AV} {cs : List AV} (h : outW t q = .tup [a, .agg cs]) : q.1 = a ∧ q.2.get 0 = some ⟨true, t, cs⟩ := by
  unfold outW at h
  split at h
  · cases h
  · rename_i B hB
    split at h
    · rename_i hc
      simp only [Bool.and_eq_true] at hc
      simp at h
      obtain ⟨h1, h2⟩ := h
      refine ⟨h1, ?_⟩
      rw [hB]
      obtain ⟨wr, ty, cs'⟩ := B
      simp at hc h2
      obtain ⟨e1, e2⟩ := hc
      subst e1; subst e2; subst h2
      rfl
    · cases h

/-- A walk that starts with a block to be written. -/
def afunW (P : Program) (E : Env) (sym : List Tmp) (lf f : Nat) (t : TypeId) (as : List AV) (cs : List AV) : Tree AV := (afun P E sym (fun _ => none) lf f as [(0, some ⟨true, t, cs⟩)] 1).bind fun q => .leaf (outW t q)

theorem wr4_ok {P : Program} {E : Env} {sym : List Tmp} {lf f : Nat} {c : Code} {fn : Func} (hE : EnvOk P E) (hm : P.follows .mixedOrders = true) (hf : P.funcs.toList[f]? = some fn) (hb : fn.body = some c)
    (hok : codeOk E c = true) {α β γ δ : Type} {t : TypeId} {D : Cod δ} {C : CC γ} {A : Cod α} {B : Cod β} {F : δ → γ → α → β → γ}
    (hr : ∀ z w x y, (afunW P E sym lf f t [D.enc z, .ptr 0 0, A.enc x, B.enc y] (C.enc w)).strict = .leaf (.tup [.tup [], .agg (C.enc (F z w x y))])) : HeapOk P f (wr4 t D C A B F) := by
  have key : ∀ {as : List AV} {h : AH} {o : Bool × AV × AH}, wr4 t D C A B F as h = some o → ∃ d i a b z w x y, as = [d, .ptr i 0, a, b] ∧ D.dec d = some z ∧ blkDecW C t h i = some w ∧ A.dec a = some x ∧ B.dec b = some y ∧ o = (true, .tup [], [(i, some ⟨true, t, C.enc (F z w x y)⟩)]) := by
    intro as h o hg
    unfold wr4 at hg
    split at hg
    · rename_i d i a b
      split at hg
      · rename_i z w x y h0 h1 h2 h3
        simp at hg
        exact ⟨d, i, a, b, z, w, x, y, rfl, h0, h1, h2, h3, hg.symm⟩
      · cases hg
    · cases hg
  have again : ∀ {as : List AV} {h h' : AH} {o : Bool × AV × AH}, wr4 t D C A B F as h = some o → (∀ i, i ∈ idsOf as → ∀ B, h.get i = some B → h'.get i = some B) → wr4 t D C A B F as h' = some o := by
    intro as h h' o hg hh
    obtain ⟨d, i, a, b, z, w, x, y, rfl, h0, h1, h2, h3, rfl⟩ := key hg
    have hi : i ∈ idsOf [d, .ptr i 0, a, b] := by
      simp only [idsOf]
      split <;> simp
    unfold wr4
    simp only [h0, blkDecW_congr (hh i hi) h1, h2, h3]
  refine ⟨?_, fun as h h' x hle hg => again hg (fun i _ B hB => hle i B hB), fun ρ as xs z b h x hx hz hg => again hg (fun i hi B hB => by
      rw [AH.get_cons, if_neg (fun e => hx.ids_ne hz i hi e.symm)] at hB; exact hB), fun as h c' r ups hg => ?_, fun as h h' x hh hg => again hg hh⟩
  · intro F' ρ as xs h r ups w hg hx hw
    obtain ⟨d, i, a, bb, z, w0, x, y, rfl, h0, h1, h2, h3, ho⟩ := key hg
    simp at ho
    obtain ⟨rfl, rfl⟩ := ho
    obtain ⟨v0, xs0, rfl, hv0, hx0⟩ := hx.uncons
    obtain ⟨v1, xs1, rfl, hv1, hx1⟩ := hx0.uncons
    obtain ⟨v2, xs2, rfl, hv2, hx2⟩ := hx1.uncons
    obtain ⟨v3, xs3, rfl, hv3, hx3⟩ := hx2.uncons
    rw [hx3.unnil]
    have e0 := D.h2 ρ _ _ _ h0 hv0
    have e2 := A.h2 ρ _ _ _ h2 hv2
    have e3 := B.h2 ρ _ _ _ h3 hv3
    subst e0; subst e2; subst e3
    unfold blkDecW at h1
    split at h1
    · cases h1
    rename_i Bk hBk
    split at h1
    · cases h1
    rename_i hc
    simp only [Bool.and_eq_true] at hc
    obtain ⟨c1, c2⟩ := hc
    have c2 := Nat.eq_of_beq_eq_true c2
    obtain ⟨b, o, p1, p2, ⟨cx, fr, rfl, p3, p4, p5⟩, p6, p7⟩ := hw.blkC hBk
    have pz := (p3 c1).2
    rw [(p3 c1).1, c2] at p2
    rw [pz] at p4 p5
    simp only [Nat.zero_add] at p4 p5
    have hpre := rvs_prefix (ρ := ρ) (cs := Bk.cs) (xs := cx.toList) (by simpa using p4) (fun i a x ha hx => p5 i a x ha (by simpa using hx))
    have hval := C.h2 ρ _ _ _ h1 hpre
    have hlen : (C.enc w0).length = Bk.cs.length := by
      have := (Rvs.of_flats (ρ := ρ) (C.h1 w0)).1
      rw [this, ← hval]; exact hpre.1.symm
    let F1 : Fr := ⟨fun k => if k = b then none else w.heap[k]?, w.os, w.tape, w.output⟩
    let σ : Ren := ⟨fun id => if id = 0 then some b else none, fun _ => cx.size, fun _ => 0⟩
    have hσ : σ 0 = some b := rfl
    have hgc : GF F1 := fun g cs e => by
      obtain ⟨xs, ty, fr, g1, g2⟩ := hw.gc g cs e
      refine ⟨xs, ty, fr, ?_, g2⟩
      show (if g = b then none else w.heap[g]?) = _
      rw [if_neg (fun e => by rw [e, p6 c1] at g1; cases g1)]
      exact hw.fr _ _ g1
    have hRW : RW F1 σ [(0, some ⟨true, t, C.enc w0⟩)] w := by
      refine ⟨fun id B hB => ?_, fun id id' B B' d hB hB' _ => ?_, fun k o hk => ?_, rfl, rfl, rfl, hgc⟩
      · rw [AH.get_cons] at hB
        split at hB
        · rename_i e; subst e; simp at hB; subst hB
          refine ⟨b, _, hσ, p2, .inl ⟨cx, (0, 0), rfl, fun _ => ⟨rfl, rfl⟩, by show 0 + (C.enc w0).length ≤ cx.size; rw [hlen, Nat.zero_add]; exact p4, fun j a v ha hv => ?_⟩, fun _ => if_pos rfl, rfl⟩
          rw [show σ.base 0 = 0 from rfl, Nat.zero_add] at hv
          have h8 := Rvs.of_flats (ρ := σ) (C.h1 w0)
          refine h8.2 j a v ha ?_
          rw [← hval, List.getElem?_take, if_pos (by rw [← hlen]; exact (List.getElem?_eq_some_iff.1 ha).1)]
          simpa using hv
        · simp [AH.get] at hB
      · have e : ∀ {k : Nat} {D : Blk}, AH.get [(0, some ⟨true, t, C.enc w0⟩)] k = some D → k = 0 := by
          intro k D hk
          rw [AH.get_cons] at hk
          split at hk
          · rename_i e; exact e.symm
          · simp [AH.get] at hk
        intro _ _
        rw [e hB, e hB']
      · have hk' : (if k = b then none else w.heap[k]?) = some o := hk
        split at hk'
        · cases hk'
        · exact hk'
    cases hv1 with
    | ptr hpb =>
    rw [p1] at hpb; simp at hpb; subst hpb
    rw [pz, Nat.zero_add]
    have hq0 : (afunW P E sym lf f t [D.enc z, .ptr 0 0, A.enc x, B.enc y] (C.enc w0)).holds (fun a => a = .tup [.tup [], .agg (C.enc (F z w0 x y))]) := Tree.holds_strict (by rw [hr]; exact (rfl : AV.tup [.tup [], .agg (C.enc (F z w0 x y))] = _))
    have hq1 : (afun P E sym (fun _ => none) lf f [D.enc z, .ptr 0 0, A.enc x, B.enc y] [(0, some ⟨true, t, C.enc w0⟩)] 1).holds (fun q : AV × AH => outW t q = .tup [.tup [], .agg (C.enc (F z w0 x y))]) := Tree.holds_bind (g := fun q => .leaf (outW t q)) hq0
    have hcalls := afun_calls hE hm hf hb hok (tabOk_none c) (K := fun q h' => q = .tup [] ∧ h'.get 0 = some ⟨true, t, C.enc (F z w0 x y)⟩)
      (Tree.holds_mono (fun q hq => outW_eq hq) hq1)
      (F := F1) (xs := [D.val z, .pointer (some ⟨b, 0, none⟩), A.val x, B.val y]) (.cons (.of_flat (D.h1 z)) (.cons (.ptr hσ) (.cons (.of_flat (A.h1 x)) (.cons (.of_flat (B.h1 y)) .nil)))) hRW (fun id hid => by show (if id = 0 then some b else none) = none; rw [if_neg (by omega)])
    refine Calls.mono hcalls ?_
    rintro e w' ⟨v, q, h', ρ', rfl, ⟨rfl, hget⟩, hrv, hrw, hsame⟩
    refine ⟨v, rfl, ?_, ?_⟩
    · obtain ⟨us, rfl, hus⟩ := hrv.tup_iff
      have := hus.unnil
      have e : us = #[] := by apply Array.ext'; simpa using this
      subst e
      exact .tup_mk .nil
    · obtain ⟨b', o', q1, q2, ⟨ys, fr', rfl, q3, q4, q5⟩, q6, q7⟩ := hrw.blkF hget (C.h1 _)
      obtain ⟨s1, s2⟩ := hsame 0 (by omega)
      rw [s1, hσ] at q1; simp at q1; subst q1
      rw [(q3 rfl).2, Nat.zero_add] at q4
      simp only [(q3 rfl).2, Nat.zero_add] at q5
      rw [(q3 rfl).1] at q2
      have q7 : ys.size = ρ'.cells 0 := q7
      rw [(s2 b hσ).1] at q7
      have hst := hw.wrote (w' := w') (getC_get hBk) p1 c1 (xs := cx) (by rw [c2]; exact p2) (C.enc (F z w0 x y)) ys pz q7 q4 (fun j a v ha hv => by
        have h8 := (Rvs.of_flats (ρ := ρ') (C.h1 (F z w0 x y)))
        have h9 := Rvs.of_flats (ρ := ρ) (C.h1 (F z w0 x y))
        have hlt : j < (C.enc (F z w0 x y)).length := (List.getElem?_eq_some_iff.1 ha).1
        obtain ⟨u, hu, hau⟩ := h9.getD ha
        have hr' : Rvs ρ' (C.enc (F z w0 x y)) (ys.toList.take (C.enc (F z w0 x y)).length) := rvs_prefix (by simpa using q4) (fun i a x ha hx => q5 i a x ha (by simpa using hx))
        have hfl := hr'.flats_eq (C.h1 (F z w0 x y))
        have : (ys.toList.take (C.enc (F z w0 x y)).length)[j]? = some v := by rw [List.getElem?_take, if_pos hlt]; simpa using hv
        rw [hfl, hu] at this
        simp at this; subst this
        exact hau) (by rw [c2]; exact q2) (fun k o hk hko => hrw.fr k o (by show (if k = b then none else w.heap[k]?) = some o; rw [if_neg hk]; exact hko)) hrw.os hrw.tape hrw.out
      rw [c1, c2] at hst
      exact hst
  · obtain ⟨d, i, a, b, z, w, x, y, rfl, h0, h1, h2, h3, ho⟩ := key hg
    simp at ho
    obtain ⟨_, _, rfl⟩ := ho
    intro p hp
    simp at hp; subst hp
    unfold blkDecW at h1
    split at h1
    · cases h1
    · rename_i Bk hBk; exact ⟨Bk, getC_get hBk⟩

/-- One way or another, by the form of the arguments. -/
def gIf (p : List AV → Bool) (g g' : List AV → AH → Option (Bool × AV × AH)) (as : List AV) (h : AH) : Option (Bool × AV × AH) := bif p as then g as h else g' as h

theorem gIf_ok {P : Program} {f : FuncId} {p : List AV → Bool} {g g' : List AV → AH → Option (Bool × AV × AH)} (h : HeapOk P f g) (k : HeapOk P f g') : HeapOk P f (gIf p g g') := by
  refine ⟨fun F ρ as xs hh r ups w hg hx hw => ?_, fun as hh h' x hle hg => ?_, fun ρ as xs z b hh x hx hz hg => ?_, fun as hh c r ups hg => ?_, fun as hh h' x hle hg => ?_⟩ <;> unfold gIf at hg <;> (try unfold gIf) <;> cases hp : p as <;> rw [hp] at hg <;> simp only [cond_true, cond_false] at hg ⊢
  · exact k.run F ρ as xs hh r ups w hg hx hw
  · exact h.run F ρ as xs hh r ups w hg hx hw
  · exact k.mono as hh h' x hle hg
  · exact h.mono as hh h' x hle hg
  · exact k.local_ ρ as xs z b hh x hx hz hg
  · exact h.local_ ρ as xs z b hh x hx hz hg
  · exact k.dom as hh c r ups hg
  · exact h.dom as hh c r ups hg
  · exact k.loc as hh h' x hle hg
  · exact h.loc as hh h' x hle hg

end Go.Rq

/- Functions that lay a slice; functions that read a slice whose length may be a variable. -/
namespace Go.Rq
open Go

abbrev LayTab := List (FuncId × (List AV → Nat → Option (Bool × AV × Blk)))

def lookLT : LayTab → FuncId → Option (List AV → Nat → Option (Bool × AV × Blk))
  | [], _ => none
  | (f, g) :: t, k => bif Nat.beq f k then some g else lookLT t k

theorem lookLT_mem : ∀ {ps : LayTab} {f : FuncId} {g}, lookLT ps f = some g → (f, g) ∈ ps
  | [], f, g, h => by simp [lookLT] at h
  | (k, q) :: t, f, g, h => by
    simp only [lookLT] at h
    cases hb : Nat.beq k f with
    | true => rw [hb] at h; simp at h; subst h; rw [Nat.eq_of_beq_eq_true hb]; simp
    | false => rw [hb] at h; exact List.mem_cons_of_mem _ (lookLT_mem h)

def TabLOk (P : Program) (ps : LayTab) : Prop := ∀ p ∈ ps, Enters P p.1 ∧ LayOk P p.1 p.2
theorem TabLOk.nil {P : Program} : TabLOk P [] := fun p h => by simp at h
theorem TabLOk.cons {P : Program} {f : FuncId} {g : List AV → Nat → Option (Bool × AV × Blk)} {t : LayTab} (h1 : Enters P f) (h : LayOk P f g) (r : TabLOk P t) : TabLOk P ((f, g) :: t) := by
  intro p hp
  rcases List.mem_cons.1 hp with rfl | hp
  · exact ⟨h1, h⟩
  · exact r p hp

/-- All kinds of tables; whether places may be variables. -/
def envL (eqs : List (TypeId × List Nat)) (ps : PureTab) (hs : HeapTab) (ls : LayTab) (wide : Bool) : Env := ⟨lookP ps, lookHT hs, lookE eqs, wide, true, [], [], lookLT ls, none, fun _ => none, false, [], 1⟩
theorem envL_ok {P : Program} {eqs : List (TypeId × List Nat)} {ps : PureTab} {hs : HeapTab} {ls : LayTab} {wide : Bool} (he : EqsOk P eqs) (hp : TabPOk P ps) (hh : TabHOk P hs) (hl : TabLOk P ls) : EnvOk P (envL eqs ps hs ls wide) :=
  ⟨fun _ _ h => he _ (lookE_mem h), fun _ _ h => hp _ (lookP_mem h), fun _ _ h => hh _ (lookHT_mem h), fun _ _ h => hl _ (lookLT_mem h), (fun _ _ h => by cases h), Nat.le_refl 1⟩

/-- A block that came from elsewhere is named. -/
theorem RW.adopt {F : Fr} {ρ : Ren} {h : AH} {w : World} (r : RW F ρ h w) {id b : Nat} (hid : ρ id = none) (hF : F.blocks b = none) (hne : ∀ j B, h.get j = some B → ρ j ≠ some b) (t : TypeId) (cs : List AV) {xs : Array Value}
    (hx : w.heap[b]? = some (.cells xs t (0, 0))) (hl : cs.length ≤ xs.size) (hr : ∀ (σ : Ren) (i : Nat) (a : AV) (x : Value), cs[i]? = some a → xs[i]? = some x → Rv σ a x) :
    RW F (ρ.upd id b xs.size) ((id, some ⟨true, t, cs⟩) :: h) w := by
  have hle := Ren.le_upd (b := b) (n := xs.size) hid
  refine ⟨fun j B hj => ?_, fun j j' B B' c hj hj' hw hc hc' => ?_, r.fr, r.os, r.tape, r.out, r.gc⟩
  · rw [AH.get_cons] at hj
    split at hj
    · rename_i e; subst e; simp at hj; subst hj
      exact ⟨b, _, Ren.upd_same _ _ _ _, hx, .inl ⟨xs, (0, 0), rfl, fun _ => ⟨rfl, Ren.upd_base _ _ _ _⟩, by rw [Ren.upd_base, Nat.zero_add]; exact hl, fun i a x ha hx' => hr _ i a x ha (by rw [Ren.upd_base, Nat.zero_add] at hx'; exact hx')⟩, fun _ => hF, by simp [count, Ren.upd_cells]⟩
    · obtain ⟨c, o, hc, ho, hB, hk⟩ := r.blk j B hj
      exact ⟨c, o, (hle _ _ hc).1, ho, hB.mono hle hc, hk.1, hk.2.trans (hle _ _ hc).2.1.symm⟩
  · have key : ∀ {k : Nat} {C : Blk}, AH.get ((id, some ⟨true, t, cs⟩) :: h) k = some C → k ≠ id → h.get k = some C := by
      intro k C hk hn
      rw [AH.get_cons, if_neg (fun e => hn e.symm)] at hk
      exact hk
    by_cases e1 : j = id
    · by_cases e2 : j' = id
      · rw [e1, e2]
      · subst e1
        rw [Ren.upd_same] at hc; simp at hc; subst hc
        rw [Ren.upd_ne _ e2] at hc'
        exact absurd hc' (hne _ _ (key hj' e2))
    · by_cases e2 : j' = id
      · subst e2
        rw [Ren.upd_same] at hc'; simp at hc'; subst hc'
        rw [Ren.upd_ne _ e1] at hc
        exact absurd hc (hne _ _ (key hj e1))
      · rw [Ren.upd_ne _ e1] at hc
        rw [Ren.upd_ne _ e2] at hc'
        exact r.inj j j' B B' c (key hj e1) (key hj' e2) hw hc hc'

/-- The argument is exact; a new slice of a new row is handed back. -/
def layS {α γ : Type} (A : Cod α) (t : TypeId) (C : CC γ) (L : α → Nat) (cap : Nat) (F : α → γ) : List AV → Nat → Option (Bool × AV × Blk)
  | [a], z => match A.dec a with
    | none => none
    | some x => some (true, .slc z 0 (L x) cap, ⟨true, t, C.enc (F x)⟩)
  | _, _ => none

/-- A slice that is handed back, and its row. -/
def outS (t : TypeId) (q : AV × AH) : AV := match q.1 with
  | .slc i 0 len cap => match q.2.get i with
    | none => .any
    | some B => match B.wr && Nat.beq B.ty t with
      | true => .tup [.slc 0 0 len cap, .agg B.cs]
      | false => .any
  | _ => .any

theorem outS_eq {t : TypeId} {q : AV × AH} {len cap : Nat} {cs : List AV} (h : outS t q = .tup [.slc 0 0 len cap, .agg cs]) : ∃ i, q.1 = .slc i 0 len cap ∧ q.2.get i = some ⟨true, t, cs⟩ := by
  unfold outS at h
  split at h
  · rename_i i len' cap' hq
    split at h
    · cases h
    · rename_i B hB
      split at h
      · rename_i hc
        simp only [Bool.and_eq_true] at hc
        simp at h
        obtain ⟨⟨rfl, rfl⟩, h2⟩ := h
        refine ⟨i, hq, ?_⟩
        rw [hB]
        obtain ⟨wr, ty, cs'⟩ := B
        simp at hc h2
        obtain ⟨e1, e2⟩ := hc
        subst e1; subst e2; subst h2
        rfl
      · cases h
  · cases h

def afunS (P : Program) (E : Env) (sym : List Tmp) (lf f : Nat) (t : TypeId) (as : List AV) : Tree AV := (afun P E sym (fun _ => none) lf f as [] 0).bind fun q => .leaf (outS t q)

theorem layS_ok {P : Program} {E : Env} {sym : List Tmp} {lf f : Nat} (X : Ctx P E sym (fun _ => none) lf f) {α γ : Type} {t : TypeId} {A : Cod α} {C : CC γ} {L : α → Nat} {cap : Nat} {F : α → γ}
    (hr : ∀ x, (afunS P E sym lf f t [A.enc x]).holds (fun a => a = .tup [.slc 0 0 (L x) cap, .agg (C.enc (F x))])) : LayOk P f (layS A t C L cap F) := by
  obtain ⟨fn, c, hf, hb, hok, htab⟩ := X.body
  have key : ∀ {as : List AV} {z : Nat} {o : Bool × AV × Blk}, layS A t C L cap F as z = some o → ∃ a x, as = [a] ∧ A.dec a = some x ∧ o = (true, .slc z 0 (L x) cap, ⟨true, t, C.enc (F x)⟩) := by
    intro as z o hg
    unfold layS at hg
    split at hg
    · rename_i a
      split at hg
      · cases hg
      · rename_i x hx
        simp at hg
        exact ⟨a, x, rfl, hx, hg.symm⟩
    · cases hg
  constructor
  · intro F' ρ as xs h z r Bz w hg hx hw hz
    obtain ⟨a, x, rfl, hd, ho⟩ := key hg
    simp at ho
    obtain ⟨rfl, rfl⟩ := ho
    obtain ⟨v, ys, rfl, hv, hx'⟩ := hx.uncons
    rw [hx'.unnil]
    have e0 := A.h2 ρ _ _ _ hd hv
    subst e0
    have hq := Tree.holds_bind (g := fun q => .leaf (outS t q)) (hr x)
    have := afun_calls X.env X.mixed hf hb hok htab (K := fun q h' => ∃ i, q = .slc i 0 (L x) cap ∧ h'.get i = some ⟨true, t, C.enc (F x)⟩)
      (Tree.holds_mono (fun q hq => outS_eq hq) hq) (F := frameOf w) (ρ := Ren.empty) (xs := [A.val x]) (w := w) (.cons (.of_flat (A.h1 x)) .nil) (RW.init w _ hw.gw) (fun _ _ => rfl)
    refine Calls.mono this ?_
    rintro e w' ⟨u, q, h', ρ', rfl, ⟨i, rfl, hget⟩, hrv, hrw, _⟩
    obtain ⟨b, o, p1, p2, ⟨cx, fr, rfl, p3, p4, p5⟩, p6, p7⟩ := hrw.blkF hget (C.h1 _)
    have pz := (p3 rfl).2
    rw [(p3 rfl).1] at p2
    rw [pz] at p4 p5
    simp only [Nat.zero_add] at p4 p5
    have hnew : w.heap[b]? = none := p6 rfl
    have hrel := rvs_prefix (ρ := ρ') (cs := C.enc (F x)) (xs := cx.toList) (by simpa using p4) (fun i a x ha hx => p5 i a x ha (by simpa using hx))
    have hval := hrel.flats_eq (C.h1 (F x))
    have hF : F'.blocks b = none := by
      cases hb : F'.blocks b with
      | none => rfl
      | some o => have := hw.fr b o hb; rw [hnew] at this; cases this
    cases hrv with
    | slc hsb =>
      rw [p1] at hsb; simp at hsb; subst hsb
      rw [pz]
      refine ⟨_, ρ.upd z b cx.size, rfl, Ren.le_upd hz, fun j hj => Ren.upd_ne ρ hj, .slcU, ?_⟩
      refine (hw.below hrw.to_below).adopt hz hF (fun j B hj e => ?_) t (C.enc (F x)) p2 p4 (fun σ j a v ha hv => ?_)
      · obtain ⟨b', o', q1, q2, _⟩ := hw.blk j B hj
        rw [q1] at e; simp at e; subst e
        rw [hnew] at q2; cases q2
      · have h8 := Rvs.of_flats (ρ := σ) (C.h1 (F x))
        refine h8.2 j a v ha ?_
        rw [← hval, List.getElem?_take, if_pos (List.getElem?_eq_some_iff.1 ha).1]
        simpa using hv

/-! A function that reads one slice, whose length may be a variable. -/

def slv {β γ δ : Type} (t : TypeId) (D : Cod δ) (C : CC γ) (B : Cod β) (ok : Nat → Bool) (F : δ → γ → Nat → β) : List AV → AH → Option (Bool × AV × AH)
  | [d, .slc i 0 len _], h => match D.dec d, blkDec C t h i with
    | some z, some x => some (ok len, B.enc (F z x len), [])
    | _, _ => none
  | _, _ => none

def oneAH {α : Type} (A : CC α) (t : TypeId) (x : α) : AH := [(0, some ⟨false, t, A.enc x⟩)]

theorem slv_ok {β γ δ : Type} {P : Program} {E : Env} {sym : List Tmp} {lf f : Nat} {tab : δ → γ → Nat → Nat → BTab} {c : Code} {fn : Func} (hE : EnvOk P E) (hm : P.follows .mixedOrders = true) (hf : P.funcs.toList[f]? = some fn) (hb : fn.body = some c)
    (hok : codeOk E c = true) {D : Cod δ} {C : CC γ} {B : Cod β} {F : δ → γ → Nat → β} {t : TypeId} {ok : Nat → Bool} (htab : ∀ z x len cap, ok len = true → TabOk P 1 (tab z x len cap) c)
    (hr : ∀ z x len cap, ok len = true → GivesH (afun P E sym (tab z x len cap) lf f [D.enc z, .slc 0 0 len cap] (oneAH C t x) 1) (B.val (F z x len))) : HeapOk P f (slv t D C B ok F) := by
  have key : ∀ {as : List AV} {h : AH} {o : Bool × AV × AH}, slv t D C B ok F as h = some o → ∃ d i len cap z x, as = [d, .slc i 0 len cap] ∧ D.dec d = some z ∧ blkDec C t h i = some x ∧ o = (ok len, B.enc (F z x len), []) := by
    intro as h o hg
    unfold slv at hg
    split at hg
    · rename_i d i len cap
      split at hg
      · rename_i z x hz hx
        simp at hg
        exact ⟨d, i, len, cap, z, x, rfl, hz, hx, hg.symm⟩
      · cases hg
    · cases hg
  have again : ∀ {as : List AV} {h h' : AH} {o : Bool × AV × AH}, slv t D C B ok F as h = some o → (∀ i, i ∈ idsOf as → ∀ B, h.get i = some B → h'.get i = some B) → slv t D C B ok F as h' = some o := by
    intro as h h' o hg hh
    obtain ⟨d, i, len, cap, z, x, rfl, hz, hx, rfl⟩ := key hg
    have hi : i ∈ idsOf [d, .slc i 0 len cap] := by
      simp only [idsOf]
      split <;> simp
    unfold slv
    simp only [hz, blkDec_congr (hh i hi) hx]
  refine ⟨?_, fun as h h' x hle hg => again hg (fun i _ B hB => hle i B hB), fun ρ as xs z b h x hx hz hg => again hg (fun i hi B hB => by
      rw [AH.get_cons, if_neg (fun e => hx.ids_ne hz i hi e.symm)] at hB; exact hB), fun as h c' r ups hg => ?_, fun as h h' x hh hg => again hg hh⟩
  · intro F' ρ as xs h r ups w hg hx hw
    obtain ⟨d, i, len, cap, z, x, rfl, hz, h1, ho⟩ := key hg
    simp at ho
    obtain ⟨hk, rfl, rfl⟩ := ho
    obtain ⟨p, xs0, rfl, hp, hx0⟩ := hx.uncons
    obtain ⟨u, xs', rfl, hu, hx'⟩ := hx0.uncons
    rw [hx'.unnil]
    have hpv := D.h2 ρ _ _ _ hz hp
    subst hpv
    obtain ⟨b, cx, fr, p1, p2, p3, p4, p5⟩ := blk_again hw h1
    let σ : Ren := ⟨fun id => if id = 0 then some b else none, fun _ => cx.size, fun _ => ρ.base i⟩
    have hσ : σ 0 = some b := rfl
    have hRW : RW (frameOf w) σ (oneAH C t x) w := by
      refine ⟨fun id B hB => ?_, fun id id' B B' d hB hB' hwr => ?_, fun _ _ h => h, rfl, rfl, rfl, hw.gw⟩
      · unfold oneAH at hB
        rw [AH.get_cons] at hB
        split at hB
        · rename_i e; subst e; simp at hB; subst hB
          exact ⟨b, _, hσ, p2, .inl ⟨cx, fr, rfl, (fun h => by cases h), p4, fun k a v ha hv => p5 σ k a v ha hv⟩, (fun h => by cases h), rfl⟩
        · simp [AH.get] at hB
      · unfold oneAH at hB
        rw [AH.get_cons] at hB
        split at hB
        · simp at hB; subst hB; cases hwr
        · simp [AH.get] at hB
    cases hu with
    | slc hsb =>
      rw [p1] at hsb; simp at hsb; subst hsb
      have := afun_calls hE hm hf hb hok (htab z x len cap hk) (K := fun q _ => flat q = some (B.val (F z x len))) (hr z x len cap hk).out (F := frameOf w) (.cons (.of_flat (D.h1 z)) (.cons (show Rv σ (.slc 0 0 len cap) (.slice (some ⟨b, ρ.base i + 0, none⟩) len cap) from Rv.slc (ρ := σ) hσ) .nil)) hRW (fun id hid => by show (if id = 0 then some b else none) = none; rw [if_neg (by omega)])
      refine Calls.mono this ?_
      rintro e w' ⟨v', q', h', ρ', rfl, hk', hrv, hrw, _⟩
      have := hrv.flat_eq hk'
      subst this
      exact ⟨_, rfl, .of_flat (B.h1 _), hw.below hrw.to_below⟩
  · obtain ⟨d, i, len, cap, z, x, _, _, _, ho⟩ := key hg
    simp at ho
    obtain ⟨_, _, rfl⟩ := ho
    simp
end Go.Rq
