/- Functions that only read the blocks that they are handed, gone through where they are called. -/
import Derived.Test.YtdbcjiggimppdaaRqP
namespace Go.Rq
open Go

def idsOf : List AV → List Nat
  | [] => []
  | a :: t => match a with
    | .ptr id _ => id :: idsOf t
    | .slc id _ _ _ => id :: idsOf t
    | .own id _ _ _ => id :: idsOf t
    | _ => idsOf t

def topOf : List Nat → Nat
  | [] => 0
  | i :: t => Nat.max (i + 1) (topOf t)

theorem topOf_lt : ∀ {l : List Nat} {i : Nat}, i ∈ l → i < topOf l
  | j :: t, i, h => by
    simp only [topOf]
    rcases List.mem_cons.1 h with rfl | h
    · exact Nat.lt_of_lt_of_le (Nat.lt_succ_self _) (Nat.le_max_left _ _)
    · exact Nat.lt_of_lt_of_le (topOf_lt h) (Nat.le_max_right _ _)

/-- The blocks named, to be read alone; they must name no blocks. -/
def viewH (h : AH) : List Nat → Option AH
  | [] => some []
  | i :: t => match AH.get h i with
    | none => none
    | some B => match viewH h t with
      | none => none
      | some l => bif allLt 0 B.cs then some ((i, some ⟨false, B.ty, B.cs⟩) :: l) else none

theorem viewH_get {h : AH} : ∀ {ids : List Nat} {l : AH}, viewH h ids = some l → ∀ id B, l.get id = some B →
    id ∈ ids ∧ ∃ B0, h.get id = some B0 ∧ B = ⟨false, B0.ty, B0.cs⟩ ∧ allLt 0 B0.cs = true
  | [], l, e, id, B, g => by simp [viewH] at e; subst e; simp [AH.get] at g
  | i :: t, l, e, id, B, g => by
    simp only [viewH] at e
    split at e
    · cases e
    · rename_i B0 hB0
      split at e
      · cases e
      · rename_i l' hl'
        cases hc : allLt 0 B0.cs with
        | false => rw [hc] at e; simp at e
        | true =>
          rw [hc] at e; simp at e; subst e
          rw [AH.get_cons] at g
          split at g
          · rename_i e; subst e; simp at g; subst g; exact ⟨by simp, B0, hB0, rfl, hc⟩
          · obtain ⟨h1, h2⟩ := viewH_get hl' id B g
            exact ⟨by simp [h1], h2⟩

theorem viewH_congr {h h' : AH} : ∀ {ids : List Nat} {l : AH}, (∀ i ∈ ids, ∀ B, h.get i = some B → h'.get i = some B) → viewH h ids = some l → viewH h' ids = some l
  | [], l, _, e => e
  | i :: t, l, k, e => by
    simp only [viewH] at e ⊢
    split at e
    · cases e
    · rename_i B0 hB0
      split at e
      · cases e
      · rename_i l' hl'
        rw [k i (by simp) B0 hB0, viewH_congr (fun j hj => k j (by simp [hj])) hl']
        exact e

theorem viewH_ok {F : Fr} {ρ : Ren} {h : AH} {w : World} (r : RW F ρ h w) {ids : List Nat} {l : AH} {n : Nat} (hv : viewH h ids = some l) (hn : ∀ i ∈ ids, i < n) :
    RW (frameOf w) (ρ.cut n) l w := by
  refine ⟨fun id B hB => ?_, fun id id' B B' b hB hB' hw => ?_, fun _ _ h => h, rfl, rfl, rfl⟩
  · obtain ⟨hi, B0, h1, rfl, h2⟩ := viewH_get hv id B hB
    obtain ⟨b, o, h3, h4, ⟨xs, fr, rfl, h5, h6, h7⟩, h8⟩ := r.blk id B0 h1
    refine ⟨b, _, by rw [Ren.cut_lt (hn id hi)]; exact h3, h4, ⟨xs, fr, rfl, (fun h => by cases h), h6, fun i a x ha hx => ?_⟩, (fun h => by cases h), h8.2⟩
    exact ((h7 i a x ha hx).lt (n := 0) (allLt_spec h2 a (List.mem_of_getElem? ha))).mono (fun j c hj => absurd (Ren.cut_some hj).1 (by omega))
  · obtain ⟨_, B0, _, rfl, _⟩ := viewH_get hv id B hB
    cases hw

def stripH : Tree (AV × AH) → Option AV
  | .leaf a => some a.1
  | .need true t => stripH t
  | _ => none

theorem stripH_holds : ∀ {t : Tree (AV × AH)} {r : AV}, stripH t = some r → t.holds (fun q => q.1 = r)
  | .leaf a, r, h => by simp [stripH] at h; exact h
  | .need true t, r, h => by simp only [stripH] at h; exact ⟨rfl, stripH_holds h⟩
  | .need false t, r, h => by simp [stripH] at h
  | .br _ _ _, r, h => by simp [stripH] at h
  | .same _ _ _, r, h => by simp [stripH] at h
  | .fail, r, h => by simp [stripH] at h

/-- A function that reads what it is handed, gone through where it is called: it must come to one exact answer. -/
def viewG (P : Program) (E : Env) (sym : List Tmp) (lf f : Nat) (as : List AV) (h : AH) : Option (Bool × AV × AH) :=
  match allLt (topOf (idsOf as)) as with
  | true => match viewH h (idsOf as) with
    | some h0 => match stripH (afun P E sym (fun _ => none) lf f as h0 (topOf (idsOf as))).strict with
      | some r => match isFlat r with
        | true => some (true, r, [])
        | false => none
      | none => none
    | none => none
  | false => none

theorem Rvs.ids_ne {ρ : Ren} {z : Nat} (hz : ρ z = none) : ∀ {as : List AV} {xs : List Value}, Rvs ρ as xs → ∀ i ∈ idsOf as, i ≠ z
  | [], xs, _, i, hi => by simp [idsOf] at hi
  | a :: t, xs, h, i, hi => by
    obtain ⟨x, ys, rfl, hx, ht⟩ := h.uncons
    simp only [idsOf] at hi
    split at hi
    · cases hx with
      | ptr hb =>
        rcases List.mem_cons.1 hi with rfl | hi
        · intro e; subst e; rw [hz] at hb; cases hb
        · exact ht.ids_ne hz i hi
    · cases hx with
      | slc hb =>
        rcases List.mem_cons.1 hi with rfl | hi
        · intro e; subst e; rw [hz] at hb; cases hb
        · exact ht.ids_ne hz i hi
    · cases hx with
      | own hb _ _ _ =>
        rcases List.mem_cons.1 hi with rfl | hi
        · intro e; subst e; rw [hz] at hb; cases hb
        · exact ht.ids_ne hz i hi
    · exact ht.ids_ne hz i hi

theorem Rvs.lt_all {ρ : Ren} {n : Nat} : ∀ {as : List AV} {xs : List Value}, Rvs ρ as xs → allLt n as = true → Rvs (ρ.cut n) as xs
  | [], xs, h, _ => by rw [h.unnil]; exact .nil
  | a :: t, xs, h, e => by
    obtain ⟨x, ys, rfl, hx, ht⟩ := h.uncons
    simp only [allLt, Bool.and_eq_true] at e
    exact .cons (hx.lt e.1) (ht.lt_all e.2)

theorem view_ok {P : Program} {E : Env} {sym : List Tmp} {lf f : Nat} (X : Ctx P E sym (fun _ => none) lf f) : HeapOk P f (viewG P E sym lf f) := by
  obtain ⟨fn, c, hf, hb, hok, htab⟩ := X.body
  refine ⟨?_, ?_, ?_, ?_⟩
  · intro F ρ as xs h r ups w hg hx hw
    unfold viewG at hg
    split at hg
    · rename_i hlt
      split at hg
      · rename_i h0 hv
        split at hg
        · rename_i q hq
          split at hg
          · rename_i hfr
            simp at hg
            obtain ⟨rfl, rfl⟩ := hg
            unfold isFlat at hfr
            split at hfr
            · rename_i y hy
              have := afun_calls X.env X.mixed hf hb hok (tabOk_none c) (K := fun q' _ => flat q' = some y)
                (Tree.holds_strict (Tree.holds_mono (fun a h => by rw [h]; exact hy) (stripH_holds hq))) (F := frameOf w)
                (hx.lt_all hlt) (viewH_ok hw hv (fun i hi => topOf_lt hi)) (fun id hid => Ren.cut_ge hid)
              refine Calls.mono this ?_
              rintro e w' ⟨v, q', h', ρ', rfl, hk, hrv, hrw, _⟩
              have := hrv.flat_eq hk
              subst this
              exact ⟨v, rfl, .of_flat hy, hw.below hrw.to_below⟩
            · cases hfr
          · cases hg
        · cases hg
      · cases hg
    · cases hg
  · intro as h h' x hle hg
    unfold viewG at hg ⊢
    split at hg
    · rename_i hlt
      split at hg
      · rename_i h0 hv
        simp only [viewH_congr (fun i _ B hB => hle i B hB) hv]
        exact hg
      · cases hg
    · cases hg
  · intro ρ as xs z b h x hx hz hg
    unfold viewG at hg ⊢
    split at hg
    · rename_i hlt
      split at hg
      · rename_i h0 hv
        have := viewH_congr (h' := h) (fun i hi B hB => by
          rw [AH.get_cons, if_neg (fun e => hx.ids_ne hz i hi e.symm)] at hB; exact hB) hv
        simp only [this]
        exact hg
      · cases hg
    · cases hg
  · intro as h c r ups hg
    unfold viewG at hg
    split at hg
    · split at hg
      · split at hg
        · split at hg
          · simp at hg
            obtain ⟨_, _, rfl⟩ := hg
            simp
          · cases hg
        · cases hg
      · cases hg
    · cases hg

/-- What a function comes to, whatever it is handed. -/
theorem any_calls {P : Program} {E : Env} {sym : List Tmp} {tab : BTab} {lf f : Nat} (X : Ctx P E sym tab lf f) {k : Nat} {y : Value}
    (h : (afunR P E sym tab lf f (List.replicate k .any)).holds (fun q => flat q = some y)) {xs : Array Value} (hk : xs.size = k) (w : World) :
    Calls P f xs w (fun e w' => e = .returned y ∧ RowKit.Below w.heap.size w w') := by
  obtain ⟨fn, c, hf, hb, hok, htab⟩ := X.body
  have hx : Rvs Ren.empty (List.replicate k .any) xs.toList := ⟨by simp [hk], fun i a x ha _ => by
    have : a = .any := by
      rw [List.getElem?_replicate] at ha
      split at ha
      · simpa using ha.symm
      · cases ha
    subst this
    exact .any x⟩
  have := afun_calls X.env X.mixed hf hb hok htab (K := fun q _ => flat q = some y) (Tree.holds_bind h) (F := frameOf w) (ρ := Ren.empty) (w := w) hx (RW.init w _) (fun _ _ => rfl)
  have e : xs.toList.toArray = xs := by simp
  rw [e] at this
  refine Calls.mono this ?_
  rintro e w' ⟨v, q, h', ρ', rfl, hk, hrv, hrw, _⟩
  have := hrv.flat_eq hk
  subst this
  exact ⟨rfl, hrw.to_below⟩

abbrev HeapTab := List (FuncId × (List AV → AH → Option (Bool × AV × AH)))

def lookHT : HeapTab → FuncId → Option (List AV → AH → Option (Bool × AV × AH))
  | [], _ => none
  | (f, g) :: t, k => bif Nat.beq f k then some g else lookHT t k

theorem lookHT_mem : ∀ {ps : HeapTab} {f : FuncId} {g}, lookHT ps f = some g → (f, g) ∈ ps
  | [], f, g, h => by simp [lookHT] at h
  | (k, q) :: t, f, g, h => by
    simp only [lookHT] at h
    cases hb : Nat.beq k f with
    | true => rw [hb] at h; simp at h; subst h; rw [Nat.eq_of_beq_eq_true hb]; simp
    | false => rw [hb] at h; exact List.mem_cons_of_mem _ (lookHT_mem h)

def TabHOk (P : Program) (ps : HeapTab) : Prop := ∀ p ∈ ps, Enters P p.1 ∧ HeapOk P p.1 p.2

theorem TabHOk.nil {P : Program} : TabHOk P [] := fun p h => by simp at h
theorem TabHOk.cons {P : Program} {f : FuncId} {g : List AV → AH → Option (Bool × AV × AH)} {t : HeapTab} (h1 : Enters P f) (h : HeapOk P f g) (r : TabHOk P t) : TabHOk P ((f, g) :: t) := by
  intro p hp
  rcases List.mem_cons.1 hp with rfl | hp
  · exact ⟨h1, h⟩
  · exact r p hp

def envS (eqs : List (TypeId × List Nat)) (ps : PureTab) (hs : HeapTab) (ss : List TypeId) : Env := ⟨lookP ps, lookHT hs, lookE eqs, false, true, ss⟩
def envH (eqs : List (TypeId × List Nat)) (ps : PureTab) (hs : HeapTab) : Env := envS eqs ps hs []

theorem envS_ok {P : Program} {eqs : List (TypeId × List Nat)} {ps : PureTab} {hs : HeapTab} {ss : List TypeId} (he : EqsOk P eqs) (hp : TabPOk P ps) (hh : TabHOk P hs) : EnvOk P (envS eqs ps hs ss) :=
  ⟨fun _ _ h => he _ (lookE_mem h), fun _ _ h => hp _ (lookP_mem h), fun _ _ h => hh _ (lookHT_mem h)⟩

theorem envH_ok {P : Program} {eqs : List (TypeId × List Nat)} {ps : PureTab} {hs : HeapTab} (he : EqsOk P eqs) (hp : TabPOk P ps) (hh : TabHOk P hs) : EnvOk P (envH eqs ps hs) :=
  ⟨fun _ _ h => he _ (lookE_mem h), fun _ _ h => hp _ (lookP_mem h), fun _ _ h => hh _ (lookHT_mem h)⟩

end Go.Rq
