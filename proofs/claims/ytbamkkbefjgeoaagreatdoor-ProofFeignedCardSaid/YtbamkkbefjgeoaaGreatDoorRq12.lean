/- Functions gone through where they are called, whose ways are brought together: each cell of the answer is told by the bools at which the ways part. -/
import Derived.Test.YtbamkkbefjgeoaaGreatDoorRq08
namespace Go.Rq
open Go

/-- A cell of two ways. -/
def mg0 (c : Bool) : AV → AV → Option AV
  | .v (.int k m), .v (.int k' n) => match decide (k = k') with
    | true => some (.v (.int k (bif c then m else n)))
    | false => none
  | .v (.bool a), .v (.bool b) => some (.v (.bool (bif c then a else b)))
  | .v (.bool a), .lit b => some (.v (.bool (bif c then a else b)))
  | .lit a, .v (.bool b) => some (.v (.bool (bif c then a else b)))
  | .lit a, .lit b => some (.v (.bool (bif c then a else b)))
  | .u x, .u y => some (.u (bif c then x else y))
  | .bit x, .bit y => some (.bit (bif c then x else y))
  | .u x, .bit y => some (.u (bif c then x else bitW y))
  | .bit x, .u y => some (.u (bif c then bitW x else y))
  | _, _ => none
theorem mg0_is {c : Bool} {a b z : AV} (h : mg0 c a b = some z) : scal z = (bif c then scal a else scal b) ∧ flatA z = (bif c then flatA a else flatA b) ∧ flat z = (bif c then flat a else flat b) := by
  unfold mg0 at h
  split at h
  · split at h
    · rename_i hk
      have hk := of_decide_eq_true hk
      subst hk
      simp only [Option.some.injEq] at h
      subst h
      cases c <;> exact ⟨rfl, rfl, rfl⟩
    · cases h
  all_goals first
    | (simp only [Option.some.injEq] at h; subst h; cases c <;> exact ⟨rfl, rfl, rfl⟩)
    | cases h
def mgs (c : Bool) : List AV → List AV → Option (List AV)
  | [], [] => some []
  | a :: s, b :: t => match mg0 c a b with
    | some z => match mgs c s t with
      | some l => some (z :: l)
      | none => none
    | none => none
  | _, _ => none
theorem mgs_is {c : Bool} : ∀ {s t l : List AV}, mgs c s t = some l → flats l = (bif c then flats s else flats t)
  | [], [], l, h => by
    simp only [mgs, Option.some.injEq] at h
    subst h
    cases c <;> rfl
  | a :: s, b :: t, l, h => by
    simp only [mgs] at h
    split at h
    · rename_i z hz
      split at h
      · rename_i r hr
        simp only [Option.some.injEq] at h
        subst h
        have h1 := (mg0_is hz).1
        have h2 := mgs_is hr
        cases c with
        | true =>
          simp only [cond_true] at h1 h2 ⊢
          simp only [flats, h1, h2]
        | false =>
          simp only [cond_false] at h1 h2 ⊢
          simp only [flats, h1, h2]
      · cases h
    · cases h
  | [], _ :: _, l, h => by simp [mgs] at h
  | _ :: _, [], l, h => by simp [mgs] at h
/-- A part of an answer. -/
def mg1 (c : Bool) : AV → AV → Option AV
  | .agg s, .agg t => match mgs c s t with
    | some l => some (.agg l)
    | none => none
  | a, b => mg0 c a b
theorem mg1_is {c : Bool} {a b z : AV} (h : mg1 c a b = some z) : flatA z = (bif c then flatA a else flatA b) ∧ flat z = (bif c then flat a else flat b) := by
  unfold mg1 at h
  split at h
  · split at h
    · rename_i l hl
      simp only [Option.some.injEq] at h
      subst h
      have h1 := mgs_is hl
      cases c with
      | true =>
        simp only [cond_true] at h1 ⊢
        simp only [flatA, flat, h1, and_self]
      | false =>
        simp only [cond_false] at h1 ⊢
        simp only [flatA, flat, h1, and_self]
    · cases h
  · exact (mg0_is h).2
def mgt (c : Bool) : List AV → List AV → Option (List AV)
  | [], [] => some []
  | a :: s, b :: t => match mg1 c a b with
    | some z => match mgt c s t with
      | some l => some (z :: l)
      | none => none
    | none => none
  | _, _ => none
theorem mgt_is {c : Bool} : ∀ {s t l : List AV}, mgt c s t = some l → flatsA l = (bif c then flatsA s else flatsA t)
  | [], [], l, h => by
    simp only [mgt, Option.some.injEq] at h
    subst h
    cases c <;> rfl
  | a :: s, b :: t, l, h => by
    simp only [mgt] at h
    split at h
    · rename_i z hz
      split at h
      · rename_i r hr
        simp only [Option.some.injEq] at h
        subst h
        have h1 := (mg1_is hz).1
        have h2 := mgt_is hr
        cases c with
        | true =>
          simp only [cond_true] at h1 h2 ⊢
          simp only [flatsA, h1, h2]
        | false =>
          simp only [cond_false] at h1 h2 ⊢
          simp only [flatsA, h1, h2]
      · cases h
    · cases h
  | [], _ :: _, l, h => by simp [mgt] at h
  | _ :: _, [], l, h => by simp [mgt] at h
/-- An answer of two ways. -/
def mg2 (c : Bool) : AV → AV → Option AV
  | .tup s, .tup t => match mgt c s t with
    | some l => some (.tup l)
    | none => none
  | a, b => mg1 c a b
theorem mg2_is {c : Bool} {a b z : AV} (h : mg2 c a b = some z) : flat z = (bif c then flat a else flat b) := by
  unfold mg2 at h
  split at h
  · split at h
    · rename_i l hl
      simp only [Option.some.injEq] at h
      subst h
      have h1 := mgt_is hl
      cases c with
      | true =>
        simp only [cond_true] at h1 ⊢
        simp only [flat, h1]
      | false =>
        simp only [cond_false] at h1 ⊢
        simp only [flat, h1]
    · cases h
  · exact (mg1_is h).2

/-- All ways brought together: when the bool holds, the answer is this one. -/
def mergeT : Tree AV → Option (Bool × AV)
  | .leaf a => some (true, a)
  | .need b t => match mergeT t with
    | some (p, x) => some (bif b then p else false, x)
    | none => none
  | .br b t f => match mergeT t with
    | some (p, x) => match mergeT f with
      | some (q, y) => match mg2 b x y with
        | some z => some (bif b then p else q, z)
        | none => none
      | none => some (bif b then p else false, x)
    | none => match mergeT f with
      | some (q, y) => some (bif b then false else q, y)
      | none => none
  | .same _ _ _ => none
  | .fail => none
/-- All ways brought together, where each comes to an answer. -/
def mergeS : Tree AV → Option AV
  | .leaf a => some a
  | .need b t => match b with
    | true => mergeS t
    | false => none
  | .br b t f => match mergeS t with
    | some x => match mergeS f with
      | some y => mg2 b x y
      | none => none
    | none => none
  | .same _ _ _ => none
  | .fail => none
theorem mergeS_holds : ∀ {t : Tree AV} {r : AV}, mergeS t = some r → t.holds (fun q => flat q = flat r)
  | .leaf a, r, h => by
    simp only [mergeS, Option.some.injEq] at h
    rw [← h]
    exact rfl
  | .need true t, r, h => by
    simp only [mergeS] at h
    exact ⟨rfl, mergeS_holds h⟩
  | .need false t, r, h => by simp [mergeS] at h
  | .br b t f, r, h => by
    simp only [mergeS] at h
    split at h
    · rename_i x hp
      split at h
      · rename_i y hq
        have hf := mg2_is h
        cases b with
        | true =>
          refine ⟨fun _ => Tree.holds_mono (fun a ha => ?_) (mergeS_holds hp), fun e => by cases e⟩
          rw [hf]; exact ha
        | false =>
          refine ⟨fun e => (by cases e), fun _ => Tree.holds_mono (fun a ha => ?_) (mergeS_holds hq)⟩
          rw [hf]; exact ha
      · cases h
    · cases h
  | .same _ _ _, r, h => by simp [mergeS] at h
  | .fail, r, h => by simp [mergeS] at h

/-- The answers alone. -/
def ansT : Tree (AV × AH) → Tree AV
  | .leaf a => .leaf a.1
  | .need b t => .need b (ansT t)
  | .br b t f => .br b (ansT t) (ansT f)
  | .same x y t => .same x y (ansT t)
  | .fail => .fail
theorem ansT_holds {K : AV → Prop} : ∀ {t : Tree (AV × AH)}, (ansT t).holds K → t.holds (fun q => K q.1)
  | .leaf _, h => h
  | .need _ _, h => ⟨h.1, ansT_holds h.2⟩
  | .br _ _ _, h => ⟨fun e => ansT_holds (h.1 e), fun e => ansT_holds (h.2 e)⟩
  | .same _ _ _, h => ⟨h.1, ansT_holds h.2⟩
  | .fail, h => h

/-- A function that reads what it is handed, gone through where it is called, its ways brought together. -/
def viewM (P : Program) (E : Env) (sym : List Tmp) (lf f : Nat) (as : List AV) (h : AH) : Option (Bool × AV × AH) :=
  match allLt (topOf (idsOf as)) as with
  | true => match viewH h (idsOf as) with
    | some h0 => match mergeT (ansT (afun P E sym (fun _ => none) lf f as h0 (topOf (idsOf as)))) with
      | some (c, r) => match isFlat r with
        | true => some (c, r, [])
        | false => none
      | none => none
    | none => none
  | false => none
/-- A function gone through where it is called, its ways brought together: each comes to an answer. -/
def inlineS (P : Program) (E : Env) (sym : List Tmp) (lf f : Nat) (as : List AV) : Option (Bool × AV) :=
  match allFlat as with
  | true => match mergeS (afunR P E sym (fun _ => none) lf f as) with
    | some r => match isFlat r with
      | true => some (true, r)
      | false => none
    | none => none
  | false => none
theorem inlineS_ok {P : Program} {E : Env} {sym : List Tmp} {lf f : Nat} (X : Ctx P E sym (fun _ => none) lf f) : PureOk P f (inlineS P E sym lf f) := by
  refine pure_core X fun as r hg => ?_
  unfold inlineS at hg
  split at hg
  · rename_i hfl
    split at hg
    · rename_i q hq
      split at hg
      · rename_i hfr
        simp only [Option.some.injEq, Prod.mk.injEq] at hg
        obtain rfl := hg.2
        unfold allFlat at hfl
        split at hfl
        · rename_i l hl
          unfold isFlat at hfr
          split at hfr
          · rename_i y hy
            exact ⟨as, l, fun ρ xs hx => hx.flatL_eq hl, hl, y, hy, Tree.holds_mono (fun a h => by rw [h]; exact hy) (mergeS_holds hq)⟩
          · cases hfr
        · cases hfl
      · cases hg
    · cases hg
  · cases hg

/-- A function that reads what it is handed, gone through where it is called, its ways brought together: each comes to an answer. -/
def viewS (P : Program) (E : Env) (sym : List Tmp) (lf f : Nat) (as : List AV) (h : AH) : Option (Bool × AV × AH) :=
  match allLt (topOf (idsOf as)) as with
  | true => match viewH h (idsOf as) with
    | some h0 => match mergeS (ansT (afun P E sym (fun _ => none) lf f as h0 (topOf (idsOf as)))) with
      | some r => match isFlat r with
        | true => some (true, r, [])
        | false => none
      | none => none
    | none => none
  | false => none
theorem viewS_ok {P : Program} {E : Env} {sym : List Tmp} {lf f : Nat} (X : Ctx P E sym (fun _ => none) lf f) : HeapOk P f (viewS P E sym lf f) := by
  obtain ⟨fn, c, hf, hb, hok, htab⟩ := X.body
  refine ⟨?_, ?_, ?_, ?_, ?_⟩
  rotate_left 4
  · intro as h h' x hle hg
    unfold viewS at hg ⊢
    split at hg
    · rename_i hlt
      split at hg
      · rename_i h0 hv
        simp only [viewH_congr hle hv]
        exact hg
      · cases hg
    · cases hg
  · intro F ρ as xs h r ups w hg hx hw
    unfold viewS at hg
    split at hg
    · rename_i hlt
      split at hg
      · rename_i h0 hv
        split at hg
        · rename_i q hq
          split at hg
          · rename_i hfr
            simp only [Option.some.injEq, Prod.mk.injEq] at hg
            obtain ⟨_, rfl, rfl⟩ := hg
            unfold isFlat at hfr
            split at hfr
            · rename_i y hy
              have := afun_calls X.env X.mixed hf hb hok (tabOk_none c) (K := fun q' _ => flat q' = some y)
                (Tree.holds_mono (fun a h => h.trans hy) (ansT_holds (K := fun a => flat a = flat q) (mergeS_holds hq))) (F := frameOf w)
                (hx.lt_all hlt) (viewH_ok hw hv (fun i hi => topOf_lt hi)) (fun id hid => Ren.cut_ge hid)
              refine Calls.mono this ?_
              rintro e w' ⟨v, q', h', ρ', rfl, hk, hrv, hrw, _⟩
              have := hrv.flat_eq hk
              subst this
              exact ⟨v, rfl, .of_flat hy, hw.below hrw.to_below⟩
            · cases hfr
          · cases hg
        · cases hg
      · cases hg
    · cases hg
  · intro as h h' x hle hg
    unfold viewS at hg ⊢
    split at hg
    · rename_i hlt
      split at hg
      · rename_i h0 hv
        simp only [viewH_congr (fun i _ B hB => hle i B hB) hv]
        exact hg
      · cases hg
    · cases hg
  · intro ρ as xs z b h x hx hz hg
    unfold viewS at hg ⊢
    split at hg
    · rename_i hlt
      split at hg
      · rename_i h0 hv
        have := viewH_congr (h' := h) (fun i hi B hB => by
          rw [AH.get_cons, if_neg (fun e => hx.ids_ne hz i hi e.symm)] at hB; exact hB) hv
        simp only [this]
        exact hg
      · cases hg
    · cases hg
  · intro as h c r ups hg
    unfold viewS at hg
    split at hg
    · split at hg
      · split at hg
        · split at hg
          · simp only [Option.some.injEq, Prod.mk.injEq] at hg
            obtain ⟨_, _, rfl⟩ := hg
            simp
          · cases hg
        · cases hg
      · cases hg
    · cases hg

/-! One way alone: the bools at which the ways part must be as told (true where nothing is told). -/
def pathT : List Bool → Tree AV → Option (Bool × AV)
  | _, .leaf a => some (true, a)
  | ds, .need b t => match pathT ds t with
    | some (p, x) => some (bif b then p else false, x)
    | none => none
  | [], .br b t _ => match pathT [] t with
    | some (p, x) => some (bif b then p else false, x)
    | none => none
  | true :: ds, .br b t _ => match pathT ds t with
    | some (p, x) => some (bif b then p else false, x)
    | none => none
  | false :: ds, .br b _ f => match pathT ds f with
    | some (p, x) => some (bif b then false else p, x)
    | none => none
  | _, .same _ _ _ => none
  | _, .fail => none
theorem path_holds : ∀ {ds : List Bool} {t : Tree AV} {c : Bool} {r : AV}, pathT ds t = some (c, r) → c = true → t.holds (fun q => q = r)
  | ds, .leaf a, c, r, h, _ => by
    have h : some (true, a) = some (c, r) := by cases ds <;> exact h
    simp only [Option.some.injEq, Prod.mk.injEq] at h
    exact h.2
  | ds, .need b t, c, r, h, hc => by
    have h : (match pathT ds t with
      | some (p, x) => some (bif b then p else false, x)
      | none => none) = some (c, r) := by cases ds <;> exact h
    split at h
    · rename_i p x hp
      simp only [Option.some.injEq, Prod.mk.injEq] at h
      obtain ⟨h1, rfl⟩ := h
      rw [hc] at h1
      cases b with
      | true => exact ⟨rfl, path_holds hp h1⟩
      | false => cases h1
    · cases h
  | [], .br b t f, c, r, h, hc => by
    simp only [pathT] at h
    split at h
    · rename_i p x hp
      simp only [Option.some.injEq, Prod.mk.injEq] at h
      obtain ⟨h1, rfl⟩ := h
      rw [hc] at h1
      cases b with
      | true => exact ⟨fun _ => path_holds hp h1, fun e => by cases e⟩
      | false => cases h1
    · cases h
  | true :: ds, .br b t f, c, r, h, hc => by
    simp only [pathT] at h
    split at h
    · rename_i p x hp
      simp only [Option.some.injEq, Prod.mk.injEq] at h
      obtain ⟨h1, rfl⟩ := h
      rw [hc] at h1
      cases b with
      | true => exact ⟨fun _ => path_holds hp h1, fun e => by cases e⟩
      | false => cases h1
    · cases h
  | false :: ds, .br b t f, c, r, h, hc => by
    simp only [pathT] at h
    split at h
    · rename_i p x hp
      simp only [Option.some.injEq, Prod.mk.injEq] at h
      obtain ⟨h1, rfl⟩ := h
      rw [hc] at h1
      cases b with
      | true => cases h1
      | false => exact ⟨fun e => (by cases e), fun _ => path_holds hp h1⟩
    · cases h
  | ds, .same _ _ _, c, r, h, _ => by
    have h : (none : Option (Bool × AV)) = some (c, r) := by cases ds <;> exact h
    cases h
  | ds, .fail, c, r, h, _ => by
    have h : (none : Option (Bool × AV)) = some (c, r) := by cases ds <;> exact h
    cases h

/-- A function that reads what it is handed, gone through where it is called, one way alone. -/
def viewP (ds : List Bool) (P : Program) (E : Env) (sym : List Tmp) (lf f : Nat) (as : List AV) (h : AH) : Option (Bool × AV × AH) :=
  match allLt (topOf (idsOf as)) as with
  | true => match viewH h (idsOf as) with
    | some h0 => match pathT ds (ansT (afun P E sym (fun _ => none) lf f as h0 (topOf (idsOf as)))) with
      | some (c, r) => match isFlat r with
        | true => some (c, r, [])
        | false => none
      | none => none
    | none => none
  | false => none
theorem viewP_ok {ds : List Bool} {P : Program} {E : Env} {sym : List Tmp} {lf f : Nat} (X : Ctx P E sym (fun _ => none) lf f) : HeapOk P f (viewP ds P E sym lf f) := by
  obtain ⟨fn, c, hf, hb, hok, htab⟩ := X.body
  refine ⟨?_, ?_, ?_, ?_, ?_⟩
  rotate_left 4
  · intro as h h' x hle hg
    unfold viewP at hg ⊢
    split at hg
    · rename_i hlt
      split at hg
      · rename_i h0 hv
        simp only [viewH_congr hle hv]
        exact hg
      · cases hg
    · cases hg
  · intro F ρ as xs h r ups w hg hx hw
    unfold viewP at hg
    split at hg
    · rename_i hlt
      split at hg
      · rename_i h0 hv
        split at hg
        · rename_i p q hq
          split at hg
          · rename_i hfr
            simp only [Option.some.injEq, Prod.mk.injEq] at hg
            obtain ⟨rfl, rfl, rfl⟩ := hg
            unfold isFlat at hfr
            split at hfr
            · rename_i y hy
              have := afun_calls X.env X.mixed hf hb hok (tabOk_none c) (K := fun q' _ => flat q' = some y)
                (Tree.holds_mono (fun a h => by rw [h]; exact hy) (ansT_holds (K := fun a => a = q) (path_holds hq rfl))) (F := frameOf w)
                (hx.lt_all hlt) (viewH_ok hw hv (fun i hi => topOf_lt hi)) (fun id hid => Ren.cut_ge hid)
              refine Calls.mono this ?_
              rintro e w' ⟨v, q', h', ρ', rfl, hk, hrv, hrw, _⟩
              have := hrv.flat_eq hk
              subst this
              exact ⟨v, rfl, .of_flat hy, hw.below hrw.to_below⟩
            · cases hfr
          · cases hg
        · cases hg
      · cases hg
    · cases hg
  · intro as h h' x hle hg
    unfold viewP at hg ⊢
    split at hg
    · rename_i hlt
      split at hg
      · rename_i h0 hv
        simp only [viewH_congr (fun i _ B hB => hle i B hB) hv]
        exact hg
      · cases hg
    · cases hg
  · intro ρ as xs z b h x hx hz hg
    unfold viewP at hg ⊢
    split at hg
    · rename_i hlt
      split at hg
      · rename_i h0 hv
        have := viewH_congr (h' := h) (fun i hi B hB => by
          rw [AH.get_cons, if_neg (fun e => hx.ids_ne hz i hi e.symm)] at hB; exact hB) hv
        simp only [this]
        exact hg
      · cases hg
    · cases hg
  · intro as h c r ups hg
    unfold viewP at hg
    split at hg
    · split at hg
      · split at hg
        · split at hg
          · simp only [Option.some.injEq, Prod.mk.injEq] at hg
            obtain ⟨_, _, rfl⟩ := hg
            simp
          · cases hg
        · cases hg
      · cases hg
    · cases hg
end Go.Rq

/- A suite's name, keys: what tells them. -/
namespace Go.Rq
open Go

/-- A suite's name: the great one, the little one, the middle one, or none. -/
inductive Sx where
  | gr
  | li
  | mi
  | up (n : Nat)
  | neg (n : Nat)
def Sx.int : Sx → Int
  | .gr => 0
  | .li => 1
  | .mi => 2
  | .up n => Int.ofNat (n + 3)
  | .neg n => Int.negSucc n
def Sx.of : Int → Sx
  | .ofNat 0 => .gr
  | .ofNat 1 => .li
  | .ofNat 2 => .mi
  | .ofNat (n + 3) => .up n
  | .negSucc n => .neg n
theorem Sx.int_of : ∀ i : Int, (Sx.of i).int = i
  | .ofNat 0 => rfl
  | .ofNat 1 => rfl
  | .ofNat 2 => rfl
  | .ofNat (_ + 3) => rfl
  | .negSucc _ => rfl
theorem Sx.of_int : ∀ s : Sx, Sx.of s.int = s
  | .gr => rfl
  | .li => rfl
  | .mi => rfl
  | .up _ => rfl
  | .neg _ => rfl
theorem Sx.int_inj {s t : Sx} (h : s.int = t.int) : s = t := by rw [← Sx.of_int s, h, Sx.of_int]
def cSx : CC Sx where
  n := 1
  enc s := [.v (.int .i64 s.int)]
  dec l := match (cInt .i64).dec l with
    | some i => some (Sx.of i)
    | none => none
  val s := [.int .i64 s.int]
  len _ := rfl
  h1 _ := rfl
  h2 ρ l vs x h r := by
    split at h
    · rename_i i hi
      simp only [Option.some.injEq] at h
      subst h
      rw [Sx.int_of]
      exact (cInt .i64).h2 ρ _ _ _ hi r
    · cases h
def kSx : Cod Sx where
  enc s := .v (.int .i64 s.int)
  dec a := match (kInt .i64).dec a with
    | some i => some (Sx.of i)
    | none => none
  val s := .int .i64 s.int
  h1 _ := rfl
  h2 ρ a v x h r := by
    split at h
    · rename_i i hi
      simp only [Option.some.injEq] at h
      subst h
      rw [Sx.int_of]
      exact (kInt .i64).h2 ρ _ _ _ hi r
    · cases h
/-- A point of the first curve, a little point, a key. -/
abbrev Px : Type := W6 × (W6 × Bool)
abbrev Lx : Type := BitVec 64 × (BitVec 64 × Bool)
abbrev Kx : Type := Sx × (Px × Lx)
def cPx : CC Px := CC.prod c6 (CC.prod c6 cBool)
def cLx : CC Lx := CC.prod cU (CC.prod cU cBool)
def cKx : CC Kx := CC.prod cSx (CC.prod cPx cLx)
def zPx : Px := (⟨0#64, 0#64, 0#64, 0#64, 0#64, 0#64⟩, ⟨0#64, 0#64, 0#64, 0#64, 0#64, 0#64⟩, false)
def zLx : Lx := (0#64, 0#64, false)
def zKx : Kx := (.gr, zPx, zLx)

/-- A contract's run out of its ways brought together. -/
def valS (t : Tree AV) : Option Value := match mergeS t with
  | some r => flat r
  | none => none
theorem givesV {v : Value} {t : Tree AV} (h : valS t = some v) : Gives t v := by
  unfold valS at h
  split at h
  · rename_i r hr
    exact ⟨Tree.holds_mono (fun a ha => ha.trans h) (mergeS_holds hr)⟩
  · cases h
/-- A contract's run out of one way, under what it asks. -/
def valP (ds : List Bool) (t : Tree AV) : Option (Bool × Option Value) := match pathT ds t with
  | some (c, r) => some (c, flat r)
  | none => none
theorem givesP {ds : List Bool} {c : Bool} {v : Value} {t : Tree AV} (h : valP ds t = some (c, some v)) (hc : c = true) : Gives t v := by
  unfold valP at h
  split at h
  · rename_i q r hr
    simp only [Option.some.injEq, Prod.mk.injEq] at h
    obtain ⟨rfl, hv⟩ := h
    exact ⟨Tree.holds_mono (fun a ha => by rw [ha]; exact hv) (path_holds hr hc)⟩
  · cases h

/-! Contracts under a condition. -/
def fnQ1 {α β : Type} (A : Cod α) (B : Cod β) (Q : α → Bool) (F : α → β) : List AV → Option (Bool × AV)
  | [a] => match A.dec a with
    | some x => some (Q x, B.enc (F x))
    | none => none
  | _ => none
def fnQ2 {α γ β : Type} (A : Cod α) (C : Cod γ) (B : Cod β) (Q : α → γ → Bool) (F : α → γ → β) : List AV → Option (Bool × AV)
  | [a, c] => match A.dec a, C.dec c with
    | some x, some y => some (Q x y, B.enc (F x y))
    | _, _ => none
  | _ => none
def fnQ3 {α γ δ β : Type} (A : Cod α) (C : Cod γ) (D : Cod δ) (B : Cod β) (Q : α → γ → δ → Bool) (F : α → γ → δ → β) : List AV → Option (Bool × AV)
  | [a, c, d] => match A.dec a, C.dec c, D.dec d with
    | some x, some y, some z => some (Q x y z, B.enc (F x y z))
    | _, _, _ => none
  | _ => none
section
variable {P : Program} {E : Env} {sym : List Tmp} {tab : BTab} {lf f : Nat} {α β γ δ : Type} {A : Cod α} {B : Cod β} {C : Cod γ} {D : Cod δ}
theorem pureQ2 (X : Ctx P E sym tab lf f) {Q : α → γ → Bool} {F : α → γ → β} (h : ∀ x y, Q x y = true → Gives (afunR P E sym tab lf f [A.enc x, C.enc y]) (B.val (F x y))) : PureOk P f (fnQ2 A C B Q F) := by
  refine pure_core X fun as r hg => ?_
  unfold fnQ2 at hg
  split at hg
  · rename_i a c
    split at hg
    · rename_i x y hx hy
      simp only [Option.some.injEq, Prod.mk.injEq] at hg
      obtain ⟨hq, rfl⟩ := hg
      refine ⟨[A.enc x, C.enc y], [A.val x, C.val y], fun ρ xs hxs => ?_, by simp [flatL, A.h1, C.h1], _, B.h1 _, (h x y hq).out⟩
      obtain ⟨v, ys, rfl, h1, h2⟩ := hxs.uncons
      obtain ⟨w, zs, rfl, h3, h4⟩ := h2.uncons
      rw [h4.unnil, A.h2 ρ _ _ _ hx h1, C.h2 ρ _ _ _ hy h3]
    · cases hg
  · cases hg
theorem pureQ3 (X : Ctx P E sym tab lf f) {Q : α → γ → δ → Bool} {F : α → γ → δ → β} (h : ∀ x y z, Q x y z = true → Gives (afunR P E sym tab lf f [A.enc x, C.enc y, D.enc z]) (B.val (F x y z))) : PureOk P f (fnQ3 A C D B Q F) := by
  refine pure_core X fun as r hg => ?_
  unfold fnQ3 at hg
  split at hg
  · rename_i a c d
    split at hg
    · rename_i x y z hx hy hz
      simp only [Option.some.injEq, Prod.mk.injEq] at hg
      obtain ⟨hq, rfl⟩ := hg
      refine ⟨[A.enc x, C.enc y, D.enc z], [A.val x, C.val y, D.val z], fun ρ xs hxs => ?_, by simp [flatL, A.h1, C.h1, D.h1], _, B.h1 _, (h x y z hq).out⟩
      obtain ⟨v, ys, rfl, h1, h2⟩ := hxs.uncons
      obtain ⟨w, zs, rfl, h3, h4⟩ := h2.uncons
      obtain ⟨u, us, rfl, h5, h6⟩ := h4.uncons
      rw [h6.unnil, A.h2 ρ _ _ _ hx h1, C.h2 ρ _ _ _ hy h3, D.h2 ρ _ _ _ hz h5]
    · cases hg
  · cases hg
end
end Go.Rq

/- Keys whose suite's name is any number. -/
namespace Go.Rq
open Go

abbrev Kz : Type := Int × (Px × Lx)
def cKz : CC Kz := CC.prod (cInt .i64) (CC.prod cPx cLx)
def toKx (k : Kz) : Kx := (Sx.of k.1, k.2)
def toKz (k : Kx) : Kz := (k.1.int, k.2)
theorem decSx (l : List AV) : cSx.dec l = ((cInt .i64).dec l).map Sx.of := by
  have e : cSx.dec l = (match (cInt .i64).dec l with
    | some i => some (Sx.of i)
    | none => none) := rfl
  rw [e]
  cases (cInt .i64).dec l <;> rfl
theorem prodDec {α β : Type} (A : CC α) (B : CC β) (l : List AV) : (CC.prod A B).dec l = (A.dec (l.take A.n)).bind fun x => (B.dec (l.drop A.n)).map fun y => (x, y) := by
  simp only [CC.prod]
  generalize A.dec (l.take A.n) = x
  generalize B.dec (l.drop A.n) = y
  cases x <;> cases y <;> rfl
theorem decKx (l : List AV) : cKx.dec l = (cKz.dec l).map toKx := by
  unfold cKx cKz
  rw [prodDec, prodDec (cInt .i64), decSx]
  have e : cSx.n = (cInt .i64).n := rfl
  rw [e]
  generalize (cInt .i64).dec (l.take (cInt .i64).n) = x
  generalize (CC.prod cPx cLx).dec (l.drop (cInt .i64).n) = y
  cases x <;> cases y <;> rfl
theorem decK (a : AV) : cKx.agg.dec a = (cKz.agg.dec a).map toKx := by
  simp only [CC.agg]
  cases aggOf a with
  | none => rfl
  | some l => exact decKx l
def kKzE : Cod (Kz × Int) := kTup cKz.agg (kInt .i64) (fun x => by simp only [CC.agg, flatA, cKz.h1]) (fun _ => rfl)
/-- A contract by suites' names, over keys whose suite's name is any number. -/
theorem fnK1 {β β' : Type} {B : Cod β} {B' : Cod β'} {F : Kx → β} {ψ : β → β'} (hB : ∀ y, B.enc y = B'.enc (ψ y)) : fn1 cKx.agg B F = fn1 cKz.agg B' (fun a => ψ (F (toKx a))) := by
  funext args
  unfold fn1
  split
  · rename_i a
    rw [decK]
    cases cKz.agg.dec a with
    | none => rfl
    | some x => simp only [Option.map, hB]
  · rfl
theorem fnK1c {γ β β' : Type} {D : Cod γ} {B : Cod β} {B' : Cod β'} {F : Kx → γ → β} {ψ : β → β'} (hB : ∀ y, B.enc y = B'.enc (ψ y)) : fn2 cKx.agg D B F = fn2 cKz.agg D B' (fun a d => ψ (F (toKx a) d)) := by
  funext args
  unfold fn2
  split
  · rename_i a d
    rw [decK]
    cases cKz.agg.dec a with
    | none => rfl
    | some x => cases D.dec d <;> simp only [Option.map, hB]
  · rfl
theorem fnK2 {β β' : Type} {B : Cod β} {B' : Cod β'} {F : Kx → Kx → β} {ψ : β → β'} (hB : ∀ y, B.enc y = B'.enc (ψ y)) : fn2 cKx.agg cKx.agg B F = fn2 cKz.agg cKz.agg B' (fun a b => ψ (F (toKx a) (toKx b))) := by
  funext args
  unfold fn2
  split
  · rename_i a b
    rw [decK, decK]
    cases cKz.agg.dec a with
    | none => rfl
    | some x => cases cKz.agg.dec b <;> simp only [Option.map, hB]
  · rfl

/-! Contracts of four and five arguments. -/
def fn4 {α γ δ ε β : Type} (A : Cod α) (C : Cod γ) (D : Cod δ) (G : Cod ε) (B : Cod β) (F : α → γ → δ → ε → β) : List AV → Option (Bool × AV)
  | [a, c, d, g] => match A.dec a, C.dec c, D.dec d, G.dec g with
    | some x, some y, some z, some u => some (true, B.enc (F x y z u))
    | _, _, _, _ => none
  | _ => none
def fn5 {α γ δ ε ζ β : Type} (A : Cod α) (C : Cod γ) (D : Cod δ) (G : Cod ε) (H : Cod ζ) (B : Cod β) (F : α → γ → δ → ε → ζ → β) : List AV → Option (Bool × AV)
  | [a, c, d, g, h] => match A.dec a, C.dec c, D.dec d, G.dec g, H.dec h with
    | some x, some y, some z, some u, some v => some (true, B.enc (F x y z u v))
    | _, _, _, _, _ => none
  | _ => none
section
variable {P : Program} {E : Env} {sym : List Tmp} {tab : BTab} {lf f : Nat} {α β γ δ ε ζ : Type} {A : Cod α} {B : Cod β} {C : Cod γ} {D : Cod δ} {G : Cod ε} {H : Cod ζ}
theorem pure4 (X : Ctx P E sym tab lf f) {F : α → γ → δ → ε → β} (h : ∀ x y z u, Gives (afunR P E sym tab lf f [A.enc x, C.enc y, D.enc z, G.enc u]) (B.val (F x y z u))) : PureOk P f (fn4 A C D G B F) := by
  refine pure_core X fun as r hg => ?_
  unfold fn4 at hg
  split at hg
  · rename_i a c d g
    split at hg
    · rename_i x y z u hx hy hz hu
      simp only [Option.some.injEq, Prod.mk.injEq, true_and] at hg
      subst hg
      refine ⟨[A.enc x, C.enc y, D.enc z, G.enc u], [A.val x, C.val y, D.val z, G.val u], fun ρ xs hxs => ?_, by simp [flatL, A.h1, C.h1, D.h1, G.h1], _, B.h1 _, (h x y z u).out⟩
      obtain ⟨v1, l1, rfl, h1, k1⟩ := hxs.uncons
      obtain ⟨v2, l2, rfl, h2, k2⟩ := k1.uncons
      obtain ⟨v3, l3, rfl, h3, k3⟩ := k2.uncons
      obtain ⟨v4, l4, rfl, h4, k4⟩ := k3.uncons
      rw [k4.unnil, A.h2 ρ _ _ _ hx h1, C.h2 ρ _ _ _ hy h2, D.h2 ρ _ _ _ hz h3, G.h2 ρ _ _ _ hu h4]
    · cases hg
  · cases hg
theorem pure5 (X : Ctx P E sym tab lf f) {F : α → γ → δ → ε → ζ → β} (h : ∀ x y z u v, Gives (afunR P E sym tab lf f [A.enc x, C.enc y, D.enc z, G.enc u, H.enc v]) (B.val (F x y z u v))) : PureOk P f (fn5 A C D G H B F) := by
  refine pure_core X fun as r hg => ?_
  unfold fn5 at hg
  split at hg
  · rename_i a c d g q
    split at hg
    · rename_i x y z u v hx hy hz hu hv
      simp only [Option.some.injEq, Prod.mk.injEq, true_and] at hg
      subst hg
      refine ⟨[A.enc x, C.enc y, D.enc z, G.enc u, H.enc v], [A.val x, C.val y, D.val z, G.val u, H.val v], fun ρ xs hxs => ?_, by simp [flatL, A.h1, C.h1, D.h1, G.h1, H.h1], _, B.h1 _, (h x y z u v).out⟩
      obtain ⟨v1, l1, rfl, h1, k1⟩ := hxs.uncons
      obtain ⟨v2, l2, rfl, h2, k2⟩ := k1.uncons
      obtain ⟨v3, l3, rfl, h3, k3⟩ := k2.uncons
      obtain ⟨v4, l4, rfl, h4, k4⟩ := k3.uncons
      obtain ⟨v5, l5, rfl, h5, k5⟩ := k4.uncons
      rw [k5.unnil, A.h2 ρ _ _ _ hx h1, C.h2 ρ _ _ _ hy h2, D.h2 ρ _ _ _ hz h3, G.h2 ρ _ _ _ hu h4, H.h2 ρ _ _ _ hv h5]
    · cases hg
  · cases hg
end
end Go.Rq

/- A commutative ring of our own, and a normal form of what is reckoned in it: two expressions of one normal form are equal. -/
namespace Go.Rq

class Rg (K : Type) extends Add K, Mul K, Neg K, Sub K, Zero K, One K where
  add_assoc : ∀ x y z : K, x + y + z = x + (y + z)
  add_comm : ∀ x y : K, x + y = y + x
  add_zero : ∀ x : K, x + 0 = x
  neg_add : ∀ x : K, -x + x = 0
  mul_assoc : ∀ x y z : K, x * y * z = x * (y * z)
  mul_comm : ∀ x y : K, x * y = y * x
  mul_one : ∀ x : K, x * 1 = x
  mul_add : ∀ x y z : K, x * (y + z) = x * y + x * z
  sub_eq : ∀ x y : K, x - y = x + -y

section
variable {K : Type} [Rg K]

theorem rg_zero_add (x : K) : 0 + x = x := by rw [Rg.add_comm, Rg.add_zero]
theorem rg_add_neg (x : K) : x + -x = 0 := by rw [Rg.add_comm, Rg.neg_add]
theorem rg_cancel {x y z : K} (h : x + z = y + z) : x = y := by
  have e : x + z + -z = y + z + -z := by rw [h]
  rw [Rg.add_assoc, Rg.add_assoc, rg_add_neg, Rg.add_zero, Rg.add_zero] at e
  exact e
theorem rg_neg_of {x y : K} (h : x + y = 0) : x = -y := rg_cancel (z := y) (by rw [h, Rg.neg_add])
theorem rg_mul_zero (x : K) : x * 0 = 0 := by
  have e : x * 0 + x * 0 = 0 + x * 0 := by rw [← Rg.mul_add, Rg.add_zero, rg_zero_add]
  exact rg_cancel e
theorem rg_zero_mul (x : K) : 0 * x = 0 := by rw [Rg.mul_comm, rg_mul_zero]
theorem rg_one_mul (x : K) : 1 * x = x := by rw [Rg.mul_comm, Rg.mul_one]
theorem rg_add_mul (x y z : K) : (x + y) * z = x * z + y * z := by rw [Rg.mul_comm, Rg.mul_add, Rg.mul_comm z x, Rg.mul_comm z y]
theorem rg_neg_zero : -(0 : K) = 0 := by have e := Rg.neg_add (0 : K); rw [Rg.add_zero] at e; exact e
theorem rg_neg_neg (x : K) : - -x = x := (rg_neg_of (rg_add_neg x)).symm
theorem rg_neg_mul (x y : K) : -x * y = -(x * y) := rg_neg_of (by rw [← rg_add_mul, Rg.neg_add, rg_zero_mul])
theorem rg_mul_neg (x y : K) : x * -y = -(x * y) := by rw [Rg.mul_comm, rg_neg_mul, Rg.mul_comm]
theorem rg_four (a b c d : K) : a + b + (c + d) = a + c + (b + d) := by
  rw [Rg.add_assoc, Rg.add_assoc, ← Rg.add_assoc b, ← Rg.add_assoc c, Rg.add_comm b c]
theorem rg_neg_sum (x y : K) : -(x + y) = -x + -y := (rg_neg_of (by rw [rg_four, Rg.neg_add, Rg.neg_add, Rg.add_zero])).symm
theorem rg_sub_eq {x y : K} (h : x - y = 0) : x = y := by
  rw [Rg.sub_eq] at h
  rw [rg_neg_of h, rg_neg_neg]
theorem rg_sub_self {x y : K} (h : x = y) : x - y = 0 := by rw [h, Rg.sub_eq, rg_add_neg]

/-! Whole numbers. -/
def zn : Nat → K
  | 0 => 0
  | n + 1 => zn n + 1
theorem zn_add (m : Nat) : ∀ n : Nat, (zn (m + n) : K) = zn m + zn n
  | 0 => (Rg.add_zero _).symm
  | n + 1 => by
    show (zn (m + n) : K) + 1 = zn m + (zn n + 1)
    rw [zn_add m n, Rg.add_assoc]
theorem zn_mul (m : Nat) : ∀ n : Nat, (zn (m * n) : K) = zn m * zn n
  | 0 => (rg_mul_zero _).symm
  | n + 1 => by
    rw [Nat.mul_succ, zn_add, zn_mul m n]
    show _ = (zn m : K) * (zn n + 1)
    rw [Rg.mul_add, Rg.mul_one]
def zc (z : Int) : K := zn z.toNat + -zn (-z).toNat
theorem zc_of {z : Int} {m n : Nat} (h : z + n = m) : (zc z : K) = zn m + -zn n := by
  have e : z.toNat + n = m + (-z).toNat := by omega
  have e2 : (zn z.toNat : K) + zn n = zn m + zn (-z).toNat := by rw [← zn_add, e, zn_add]
  unfold zc
  apply rg_cancel (z := zn (-z).toNat + zn n)
  rw [Rg.add_assoc, ← Rg.add_assoc (-zn _), Rg.neg_add, rg_zero_add, e2, Rg.add_comm (zn (-z).toNat) (zn n), Rg.add_assoc, ← Rg.add_assoc (-zn _), Rg.neg_add, rg_zero_add]
theorem zc_split (z : Int) : z + ((-z).toNat : Nat) = (z.toNat : Nat) := by omega
theorem zc_add (a b : Int) : (zc (a + b) : K) = zc a + zc b := by
  have e : (a + b) + (((-a).toNat + (-b).toNat : Nat) : Int) = ((a.toNat + b.toNat : Nat) : Int) := by omega
  rw [zc_of e, zn_add, zn_add, rg_neg_sum, rg_four]
  rfl
theorem zc_neg (a : Int) : (zc (-a) : K) = -zc a := by
  unfold zc
  rw [rg_neg_sum, rg_neg_neg, Int.neg_neg, Rg.add_comm]
theorem zc_mul (a b : Int) : (zc (a * b) : K) = zc a * zc b := by
  have h1 := zc_split a
  have h2 := zc_split b
  have e : a * b + ((a.toNat * (-b).toNat + (-a).toNat * b.toNat : Nat) : Int) = ((a.toNat * b.toNat + (-a).toNat * (-b).toNat : Nat) : Int) := by
    rw [Int.natCast_add, Int.natCast_add, Int.natCast_mul, Int.natCast_mul, Int.natCast_mul, Int.natCast_mul, ← h1, ← h2]
    grind
  rw [zc_of e, zn_add, zn_add, zn_mul, zn_mul, zn_mul, zn_mul]
  unfold zc
  rw [Rg.mul_add, rg_add_mul, rg_add_mul, rg_neg_mul, rg_mul_neg, rg_neg_mul, rg_mul_neg, rg_neg_neg, rg_neg_sum]
  rw [Rg.add_comm (-(zn a.toNat * zn (-b).toNat)) (-(zn (-a).toNat * zn b.toNat)), rg_four, Rg.add_comm (zn (-a).toNat * zn (-b).toNat)]
theorem zc_zero : (zc 0 : K) = 0 := rg_add_neg _
theorem zc_one : (zc 1 : K) = 1 := by
  show (0 : K) + 1 + -0 = 1
  rw [rg_zero_add, rg_neg_zero, Rg.add_zero]

/-! What is reckoned, by the first of the list's elements: p + x * q, where p does without x. -/
end
inductive Pl
  | c (z : Int)
  | h (p q : Pl)

/-- p + x * q, shorter where q is nought. -/
def Pl.mk : Pl → Pl → Pl
  | .c z, .c w => bif w == 0 then .c z else .h (.c z) (.c w)
  | .h p q, r => .h (.h p q) r
  | .c z, .h p q => .h (.c z) (.h p q)
def Pl.addC (a : Int) : Pl → Pl
  | .c b => .c (a + b)
  | .h p q => .h (p.addC a) q
def Pl.add : Pl → Pl → Pl
  | .c a, r => r.addC a
  | .h p q, .c b => .h (p.addC b) q
  | .h p q, .h p' q' => .mk (p.add p') (q.add q')
def Pl.scale (a : Int) : Pl → Pl
  | .c b => .c (a * b)
  | .h p q => .h (p.scale a) (q.scale a)
def Pl.low (f : Pl → Pl) : Pl → Pl
  | .c b => .mk (f (.c b)) (.c 0)
  | .h p q => .mk (f p) (q.low f)
def Pl.mul : Pl → Pl → Pl
  | .c a, r => bif a == 0 then .c 0 else r.scale a
  | .h p q, r => (r.low p.mul).add (.mk (.c 0) (q.mul r))
def Pl.neg (p : Pl) : Pl := p.scale (-1)
def Pl.isZ : Pl → Bool
  | .c z => z == 0
  | .h p q => p.isZ && q.isZ

section
variable {K : Type} [Rg K]
def ev : Pl → List K → K
  | .c z, _ => zc z
  | .h p _, [] => ev p []
  | .h p q, x :: r => ev p r + x * ev q (x :: r)

theorem ev_c (z : Int) (r : List K) : ev (.c z) r = zc z := by cases r <;> rfl
theorem ev_mk : ∀ (p q : Pl) (r : List K), ev (p.mk q) r = ev (.h p q) r
  | .c z, .c w, r => by
    rw [Pl.mk]
    cases hw : w == 0 with
    | false => rfl
    | true =>
      have e : w = 0 := by simpa using hw
      subst e
      rw [cond_true]
      cases r with
      | nil => rfl
      | cons x r =>
        show zc z = ev (.c z) r + x * zc 0
        rw [ev_c, zc_zero, rg_mul_zero, Rg.add_zero]
  | .h _ _, _, _ => rfl
  | .c _, .h _ _, _ => rfl
theorem ev_addC (a : Int) : ∀ (p : Pl) (r : List K), ev (p.addC a) r = zc a + ev p r
  | .c b, r => by rw [Pl.addC, ev_c, ev_c, zc_add]
  | .h p q, [] => ev_addC a p []
  | .h p q, x :: r => by
    show ev (p.addC a) r + x * ev q (x :: r) = zc a + (ev p r + x * ev q (x :: r))
    rw [ev_addC a p r, Rg.add_assoc]
theorem ev_add : ∀ (p q : Pl) (r : List K), ev (p.add q) r = ev p r + ev q r
  | .c a, q, r => by rw [Pl.add, ev_addC, ev_c]
  | .h p q, .c b, [] => by
    show ev (p.addC b) [] = ev p [] + zc b
    rw [ev_addC, Rg.add_comm]
  | .h p q, .c b, x :: r => by
    show ev (p.addC b) r + x * ev q (x :: r) = ev p r + x * ev q (x :: r) + zc b
    rw [ev_addC, Rg.add_comm (zc b), Rg.add_assoc, Rg.add_assoc, Rg.add_comm (zc b)]
  | .h p q, .h p' q', [] => (ev_mk _ _ _).trans (ev_add p p' [])
  | .h p q, .h p' q', x :: r => by
    refine (ev_mk _ _ _).trans ?_
    show ev (p.add p') r + x * ev (q.add q') (x :: r) = ev p r + x * ev q (x :: r) + (ev p' r + x * ev q' (x :: r))
    rw [ev_add p p' r, ev_add q q' (x :: r), Rg.mul_add, rg_four]
theorem ev_scale (a : Int) : ∀ (p : Pl) (r : List K), ev (p.scale a) r = zc a * ev p r
  | .c b, r => by rw [Pl.scale, ev_c, ev_c, zc_mul]
  | .h p q, [] => ev_scale a p []
  | .h p q, x :: r => by
    show ev (p.scale a) r + x * ev (q.scale a) (x :: r) = zc a * (ev p r + x * ev q (x :: r))
    rw [ev_scale a p r, ev_scale a q (x :: r), Rg.mul_add, ← Rg.mul_assoc, ← Rg.mul_assoc, Rg.mul_comm x]
theorem ev_low0 {f : Pl → Pl} {P : K} (hf : ∀ s, ev (f s) ([] : List K) = P * ev s []) : ∀ s : Pl, ev (s.low f) ([] : List K) = P * ev s []
  | .c b => (ev_mk _ _ _).trans (hf (.c b))
  | .h p _ => (ev_mk _ _ _).trans (hf p)
theorem ev_low {f : Pl → Pl} {P : K} {r : List K} (hf : ∀ s, ev (f s) r = P * ev s r) (x : K) : ∀ s : Pl, ev (s.low f) (x :: r) = P * ev s (x :: r)
  | .c b => by
    refine (ev_mk _ _ _).trans ?_
    show ev (f (.c b)) r + x * zc 0 = P * zc b
    rw [hf, ev_c, zc_zero, rg_mul_zero, Rg.add_zero]
  | .h p q => by
    refine (ev_mk _ _ _).trans ?_
    show ev (f p) r + x * ev (q.low f) (x :: r) = P * (ev p r + x * ev q (x :: r))
    rw [hf, ev_low hf x q, Rg.mul_add, ← Rg.mul_assoc, ← Rg.mul_assoc, Rg.mul_comm x]
theorem ev_mul : ∀ (p s : Pl) (r : List K), ev (p.mul s) r = ev p r * ev s r
  | .c a, s, r => by
    rw [Pl.mul]
    cases ha : a == 0 with
    | false => rw [cond_false, ev_scale, ev_c]
    | true =>
      have e : a = 0 := by simpa using ha
      rw [cond_true, e, ev_c, zc_zero, rg_zero_mul]
  | .h p q, s, [] => by
    show ev ((s.low p.mul).add (.mk (.c 0) (q.mul s))) [] = ev p [] * ev s []
    rw [ev_add, ev_mk, ev_low0 (fun s => ev_mul p s [])]
    show _ + zc 0 = _
    rw [zc_zero, Rg.add_zero]
  | .h p q, s, x :: r => by
    show ev ((s.low p.mul).add (.mk (.c 0) (q.mul s))) (x :: r) = (ev p r + x * ev q (x :: r)) * ev s (x :: r)
    rw [ev_add, ev_mk, ev_low (fun s => ev_mul p s r)]
    show _ + (ev (.c 0) r + x * ev (q.mul s) (x :: r)) = _
    rw [ev_c, zc_zero, rg_zero_add, ev_mul q s (x :: r), rg_add_mul, Rg.mul_assoc]
theorem ev_neg (p : Pl) (r : List K) : ev p.neg r = -ev p r := by
  rw [Pl.neg, ev_scale, zc_neg, zc_one, rg_neg_mul, rg_one_mul]
theorem ev_isZ : ∀ (p : Pl) (r : List K), p.isZ = true → ev p r = 0
  | .c z, r, h => by
    have e : z = 0 := by simpa [Pl.isZ] using h
    rw [ev_c, e, zc_zero]
  | .h p _, [], h => ev_isZ p [] (Bool.and_eq_true_iff.1 h).1
  | .h p q, x :: r, h => by
    obtain ⟨h1, h2⟩ := Bool.and_eq_true_iff.1 h
    show ev p r + x * ev q (x :: r) = 0
    rw [ev_isZ p r h1, ev_isZ q (x :: r) h2, rg_mul_zero, Rg.add_zero]

/-! The form of an expression, found by its shape; the list has its letters. -/
class Vx (r : List K) (x : K) (p : outParam Pl) : Prop where
  ok : ev p r = x
class Rf (r : List K) (x : K) (p : outParam Pl) : Prop where
  ok : ev p r = x

instance vxT {r : List K} {x y : K} {p : Pl} [h : Vx r x p] : Vx (y :: r) x (.h p (.c 0)) where
  ok := by
    show ev p r + y * zc 0 = x
    rw [h.ok, zc_zero, rg_mul_zero, Rg.add_zero]
instance vxH {r : List K} {x : K} : Vx (x :: r) x (.h (.c 0) (.c 1)) where
  ok := by
    show ev (.c 0) r + x * zc 1 = x
    rw [ev_c, zc_zero, zc_one, Rg.mul_one, rg_zero_add]
instance rfV {r : List K} {x : K} {p : Pl} [h : Vx r x p] : Rf r x p where
  ok := h.ok
instance rfZero {r : List K} : Rf r 0 (.c 0) where
  ok := by rw [ev_c, zc_zero]
instance rfOne {r : List K} : Rf r 1 (.c 1) where
  ok := by rw [ev_c, zc_one]
instance rfNeg {r : List K} {x : K} {p : Pl} [h : Rf r x p] : Rf r (-x) p.neg where
  ok := by rw [ev_neg, h.ok]
instance rfSub {r : List K} {x y : K} {p q : Pl} [h : Rf r x p] [k : Rf r y q] : Rf r (x - y) (p.add q.neg) where
  ok := by rw [ev_add, ev_neg, h.ok, k.ok, Rg.sub_eq]
instance rfMul {r : List K} {x y : K} {p q : Pl} [h : Rf r x p] [k : Rf r y q] : Rf r (x * y) (p.mul q) where
  ok := by rw [ev_mul, h.ok, k.ok]
instance rfAdd {r : List K} {x y : K} {p q : Pl} [h : Rf r x p] [k : Rf r y q] : Rf r (x + y) (p.add q) where
  ok := by rw [ev_add, h.ok, k.ok]

/-- Two expressions of one form. -/
theorem rg (r : List K) {x y : K} {p q : Pl} [h : Rf r x p] [k : Rf r y q] (e : (p.add q.neg).isZ = true := by decide +kernel) : x = y :=
  rg_sub_eq (by
    have z := ev_isZ (p.add q.neg) r e
    rw [ev_add, ev_neg, h.ok, k.ok, ← Rg.sub_eq] at z
    exact z)
/-- The difference is a multiple of a known equation's. -/
theorem rg1 (r : List K) {x y a b : K} (u : a = b) (c : K) {p q s t w : Pl} [h : Rf r x p] [k : Rf r y q] [ha : Rf r a s] [hb : Rf r b t] [hc : Rf r c w]
    (e : ((p.add q.neg).add (w.mul (s.add t.neg)).neg).isZ = true := by decide +kernel) : x = y :=
  rg_sub_eq (by
    have z := ev_isZ _ r e
    rw [ev_add, ev_add, ev_neg, ev_neg, ev_mul, ev_add, ev_neg, h.ok, k.ok, ha.ok, hb.ok, hc.ok, ← Rg.sub_eq, ← Rg.sub_eq, ← Rg.sub_eq, rg_sub_self u, rg_mul_zero, Rg.sub_eq _ (0 : K), rg_neg_zero, Rg.add_zero] at z
    exact z)
theorem rg_eq0 {a b : K} (u : a = b) (c : K) : c * (a - b) = 0 := by rw [rg_sub_self u, rg_mul_zero]
theorem rg_sum0 {a b : K} (h : a = 0) (k : b = 0) : a + b = 0 := by rw [h, k, Rg.add_zero]
/-- Of two, of three, of four. -/
theorem rg2 (r : List K) {x y a b a' b' : K} (u : a = b) (c : K) (v : a' = b') (d : K) {p q s : Pl} [Rf r x p] [Rf r y q] [Rf r (c * (a - b) + d * (a' - b')) s]
    (e : (((p.add q.neg).add ((Pl.c 1).mul (s.add (Pl.c 0).neg)).neg)).isZ = true := by decide +kernel) : x = y :=
  rg1 r (rg_sum0 (rg_eq0 u c) (rg_eq0 v d)) 1 e
theorem rg3 (r : List K) {x y a b a' b' a2 b2 : K} (u : a = b) (c : K) (v : a' = b') (d : K) (w : a2 = b2) (f : K) {p q s : Pl} [Rf r x p] [Rf r y q] [Rf r (c * (a - b) + d * (a' - b') + f * (a2 - b2)) s]
    (e : (((p.add q.neg).add ((Pl.c 1).mul (s.add (Pl.c 0).neg)).neg)).isZ = true := by decide +kernel) : x = y :=
  rg1 r (rg_sum0 (rg_sum0 (rg_eq0 u c) (rg_eq0 v d)) (rg_eq0 w f)) 1 e

end
end Go.Rq

/- Points of a curve over any field: the formulas of three elements by the program and by the reference; sums by the slope. -/
namespace Go.Rq
set_option synthInstance.maxSize 100000
set_option synthInstance.maxHeartbeats 400000

/-- What is asked of a field: inverses, and that two is not nought. -/
structure Fd (K : Type) [Rg K] (iv : K → K) (e : K → K → Bool) : Prop where
  inv : ∀ {x : K}, x ≠ 0 → x * iv x = 1
  one : (1 : K) ≠ 0
  two : ∀ {y : K}, y + y = 0 → y = 0
  eq : ∀ {x y : K}, e x y = true ↔ x = y

section
variable {K : Type} [Rg K] {iv : K → K} {e : K → K → Bool}

def foK (iv : K → K) : FO K := ⟨fun a b => a + b, fun a b => a - b, fun a b => a * b, fun a => -a, iv, fun a => a, fun a => a, 1, 0⟩

theorem Fd.ne (F : Fd K iv e) {x y : K} (h : x ≠ y) : e x y = false := by
  cases hb : e x y with
  | false => rfl
  | true => exact absurd (F.eq.1 hb) h
theorem Fd.refl (F : Fd K iv e) (x : K) : e x x = true := F.eq.2 rfl
theorem Fd.zero_or (F : Fd K iv e) {x y : K} (h : x * y = 0) : x = 0 ∨ y = 0 := by
  by_cases hx : x = 0
  · exact .inl hx
  · right
    have := F.inv hx
    exact rg2 [x, y, iv x] this (-y) h (iv x)

/-- A small number of times, as the reference reckons it. -/
def tmK (a : K) : Nat → K
  | 0 => 0
  | k + 1 => tmK a k + a

def noneJ : Jp K := ⟨0, 0, 0⟩
def dblF (p : Jp K) : Jp K :=
  let yy := p.y * p.y
  let s := tmK (p.x * yy) 4
  let m := tmK (p.x * p.x) 3
  let x := m * m - tmK s 2
  ⟨x, m * (s - x) - tmK (yy * yy) 8, tmK (p.y * p.z) 2⟩
def dblK (e : K → K → Bool) (p : Jp K) : Jp K := bif e p.z 0 then noneJ else bif e p.y 0 then noneJ else dblF p
def hK (p u : Jp K) : K := u.x * (p.z * p.z) - p.x
def kK (p u : Jp K) : K := u.y * ((p.z * p.z) * p.z) - p.y
def addF (p u : Jp K) : Jp K :=
  let h := hK p u
  let k := kK p u
  let hh := h * h
  let hhh := hh * h
  let v := p.x * hh
  let x := (k * k - hhh) - tmK v 2
  ⟨x, k * (v - x) - p.y * hhh, p.z * h⟩
def addK (e : K → K → Bool) (p u : Jp K) : Jp K := bif e p.z 0 then u else bif e (hK p u) 0 then (bif e (kK p u) 0 then dblK e p else noneJ) else addF p u

/-- The same point: both none, or all alike. -/
def Jeq (p q : Jp K) : Prop := (p.z = 0 ∧ q.z = 0) ∨ p = q
theorem Jeq.refl (p : Jp K) : Jeq p p := .inr rfl
theorem Jeq.symm {p q : Jp K} (h : Jeq p q) : Jeq q p := by
  rcases h with ⟨a, b⟩ | rfl
  · exact .inl ⟨b, a⟩
  · exact .inr rfl
theorem Jeq.trans {p q r : Jp K} (h : Jeq p q) (k : Jeq q r) : Jeq p r := by
  rcases h with ⟨a, b⟩ | rfl
  · rcases k with ⟨c, d⟩ | rfl
    · exact .inl ⟨a, d⟩
    · exact .inl ⟨a, b⟩
  · exact k

theorem Jp.ext3 {V : Type} {p q : Jp V} (hx : p.x = q.x) (hy : p.y = q.y) (hz : p.z = q.z) : p = q := by
  obtain ⟨a, b, c⟩ := p; obtain ⟨d, f, g⟩ := q
  simp at hx hy hz; subst hx hy hz; rfl

theorem twice_z (p : Jp K) : (twiceJ (foK iv) p).z = p.y * p.z + p.y * p.z := rfl

theorem twice_dbl (F : Fd K iv e) {p q : Jp K} (h : Jeq p q) : Jeq (twiceJ (foK iv) p) (dblK e q) := by
  have none_z : ∀ {p : Jp K}, p.z = 0 → (twiceJ (foK iv) p).z = 0 := fun {p} hz => by rw [twice_z, hz]; exact rg [p.y]
  rcases h with ⟨a, b⟩ | rfl
  · refine .inl ⟨none_z a, ?_⟩
    unfold dblK
    rw [F.eq.2 b]; rfl
  · unfold dblK
    by_cases hz : p.z = 0
    · rw [F.eq.2 hz]; exact .inl ⟨none_z hz, rfl⟩
    · rw [F.ne hz]
      by_cases hy : p.y = 0
      · rw [F.eq.2 hy]
        exact .inl ⟨by rw [twice_z, hy]; exact rg [p.z], rfl⟩
      · rw [F.ne hy]
        refine .inr (Jp.ext3 ?_ ?_ ?_)
        · simp only [twiceJ, foK, dblF, tmK, cond_false]; exact rg [p.x, p.y, p.z]
        · simp only [twiceJ, foK, dblF, tmK, cond_false]; exact rg [p.x, p.y, p.z]
        · simp only [twiceJ, foK, dblF, tmK, cond_false]; exact rg [p.x, p.y, p.z]

theorem sum_add (F : Fd K iv e) {f : Fl K} {p q u : Jp K} (h : Jeq p q) (hu : u.z = 1) : Jeq (sumE (foK iv) e f p u) (addK e q u) := by
  have hu0 : u.z ≠ 0 := by rw [hu]; exact F.one
  have zs : ∀ {p : Jp K}, p.z = 0 → sumE (foK iv) e f p u = u := fun {p} hz => by
    unfold sumE
    rw [show (foK iv).zero = (0 : K) from rfl, F.eq.2 hz]; rfl
  have za : ∀ {p : Jp K}, p.z = 0 → addK e p u = u := fun {p} hz => by
    unfold addK
    rw [F.eq.2 hz]; rfl
  rcases h with ⟨a, b⟩ | rfl
  · rw [zs a, za b]; exact .refl _
  · by_cases hz : p.z = 0
    · rw [zs hz, za hz]; exact .refl _
    · unfold sumE addK
      rw [show (foK iv).zero = (0 : K) from rfl, F.ne hz, F.ne hu0]
      have e1 : u.x * (p.z * p.z) - p.x * (1 * 1) = hK p u := by unfold hK; exact rg [p.x, p.z, u.x]
      have e2 : u.y * (p.z * p.z * p.z) - p.y * (1 * 1 * 1) = kK p u := by unfold kK; exact rg [p.y, p.z, u.y]
      rw [show hJ (foK iv) p u = hK p u by simp only [hJ, foK, hu]; exact e1, show rJ (foK iv) p u = kK p u by simp only [rJ, foK, hu]; exact e2]
      simp only [cond_false]
      cases e (hK p u) 0
      · refine .inr (Jp.ext3 ?_ ?_ ?_)
        · simp only [sumJ, foK, addF, tmK, hu, e1, e2, cond_false]; exact rg [p.x, hK p u, kK p u]
        · simp only [sumJ, foK, addF, tmK, hu, e1, e2, cond_false]; exact rg [p.x, p.y, hK p u, kK p u]
        · simp only [sumJ, foK, addF, hu, e1, cond_false]; exact rg [p.z, hK p u]
      · cases e (kK p u) 0
        · exact .inl ⟨rfl, rfl⟩
        · exact twice_dbl F (.refl p)

/-- A multiple by the reference, from bit k - 1 down. -/
def multK (e : K → K → Bool) (b : Nat → Bool) (p : Jp K) : Nat → Jp K → Jp K
  | 0, o => o
  | k + 1, o => multK e b p k (bif b k then addK e (dblK e o) p else dblK e o)

/-- Likewise by the program. -/
def runK (iv : K → K) (e : K → K → Bool) (f : Fl K) (b : Nat → Bool) (p : Jp K) : Nat → Jp K → Jp K
  | 0, o => o
  | k + 1, o => runK iv e f b p k (bif b k then sumE (foK iv) e f (twiceJ (foK iv) o) p else twiceJ (foK iv) o)

theorem run_mult (F : Fd K iv e) {f : Fl K} {b : Nat → Bool} {p : Jp K} (hp : p.z = 1) : ∀ (k : Nat) {u v : Jp K}, Jeq u v → Jeq (runK iv e f b p k u) (multK e b p k v)
  | 0, u, v, h => h
  | k + 1, u, v, h => by
    simp only [runK, multK]
    apply run_mult F hp k
    cases b k
    · exact twice_dbl F h
    · exact sum_add F (twice_dbl F h) hp

theorem mult_noughts (F : Fd K iv e) {b : Nat → Bool} {p : Jp K} {l : Nat} (hb : ∀ i, l ≤ i → b i = false) : ∀ (k : Nat) {v : Jp K}, v.z = 0 → ∃ v' : Jp K, v'.z = 0 ∧ multK e b p (l + k) v = multK e b p l v'
  | 0, v, hv => ⟨v, hv, rfl⟩
  | k + 1, v, hv => by
    have : multK e b p (l + (k + 1)) v = multK e b p (l + k) (dblK e v) := by
      rw [← Nat.add_assoc]
      simp only [multK]
      rw [hb (l + k) (by omega)]
      rfl
    rw [this]
    refine mult_noughts F hb k ?_
    unfold dblK
    rw [F.eq.2 hv]; rfl

/-- However many noughts are ahead: the same multiple. -/
theorem run_mult2 (F : Fd K iv e) {f : Fl K} {b : Nat → Bool} {p : Jp K} (hp : p.z = 1) {l l2 : Nat} (hb : ∀ i, l ≤ i → b i = false) (hb2 : ∀ i, l2 ≤ i → b i = false) {u v : Jp K} (hu : u.z = 0) (hv : v.z = 0) :
    Jeq (runK iv e f b p l u) (multK e b p l2 v) := by
  have any : ∀ {m : Nat} {x y : Jp K}, x.z = 0 → y.z = 0 → Jeq (multK e b p m x) (multK e b p m y) := fun {m x y} hx hy =>
    (run_mult F (f := f) hp m (u := x) (v := x) (.refl x)).symm.trans (run_mult F (f := f) hp m (.inl ⟨hx, hy⟩))
  obtain ⟨v1, h1, e1⟩ := mult_noughts F hb (p := p) l2 (v := v) hv
  obtain ⟨v2, h2, e2⟩ := mult_noughts F hb2 (p := p) l (v := v) hv
  have a1 : Jeq (runK iv e f b p l u) (multK e b p l v1) := run_mult F hp l (.inl ⟨hu, h1⟩)
  rw [← e1, Nat.add_comm, e2] at a1
  exact a1.trans (any h2 hv)

/-- The two elements, as the reference tells them. -/
def lowK (iv : K → K) (e : K → K → Bool) (p : Jp K) : Ap K := bif e p.z 0 then ⟨0, 0, true⟩ else ⟨p.x * (iv p.z * iv p.z), p.y * ((iv p.z * iv p.z) * iv p.z), false⟩
theorem low_eq (F : Fd K iv e) {p q : Jp K} (h : Jeq p q) : lowerE (foK iv) e p = lowK iv e q := by
  unfold lowerE lowK
  rw [show (foK iv).zero = (0 : K) from rfl]
  rcases h with ⟨a, b⟩ | rfl
  · rw [F.eq.2 a, F.eq.2 b]; rfl
  · rfl

/-! Sums by the slope. -/
def eqA (e : K → K → Bool) (a b : Ap K) : Bool := e a.x b.x && (e a.y b.y && (a.zero == b.zero))
def negK (a : Ap K) : Ap K := ⟨a.x, -a.y, a.zero⟩
def chordK (a b : Ap K) (m : K) : Ap K :=
  let x := m * m - a.x - b.x
  ⟨x, m * (a.x - x) - a.y, false⟩
def slope1K (iv : K → K) (a : Ap K) : K := (a.x * a.x + a.x * a.x + a.x * a.x) * iv (a.y + a.y)
def slope2K (iv : K → K) (a b : Ap K) : K := (b.y - a.y) * iv (b.x - a.x)
def sumA (iv : K → K) (e : K → K → Bool) (a b : Ap K) : Ap K := bif a.zero then b else bif b.zero then a else bif eqA e a (negK b) then ⟨0, 0, true⟩ else bif eqA e a b then chordK a b (slope1K iv a) else chordK a b (slope2K iv a b)

theorem Ap.ext3 {V : Type} {p q : Ap V} (hx : p.x = q.x) (hy : p.y = q.y) (hz : p.zero = q.zero) : p = q := by
  obtain ⟨a, b, c⟩ := p; obtain ⟨d, f, g⟩ := q
  simp at hx hy hz; subst hx hy hz; rfl

theorem raise_low (F : Fd K iv e) {f : Fl K} (hf : f.one = 1) {a : Ap K} (ha : a.zero = true → a = ⟨0, 0, true⟩) : lowerE (foK iv) e (raiseJ (foK iv) f a) = a := by
  unfold raiseJ lowerE
  cases hz : a.zero with
  | true =>
    rw [ha hz]
    simp only [cond_true]
    rw [show (foK iv).zero = (0 : K) from rfl, F.refl]; rfl
  | false =>
    simp only [cond_false]
    rw [show (foK iv).zero = (0 : K) from rfl, hf, F.ne F.one]
    have h1 : iv (1 : K) = 1 := by have := F.inv F.one; exact rg1 [iv 1] this 1
    refine Ap.ext3 ?_ ?_ hz.symm
    · simp only [lowerJ, foK, cond_false, h1]; exact rg [a.x]
    · simp only [lowerJ, foK, cond_false, h1]; exact rg [a.y]

theorem sum_slope (F : Fd K iv e) {f : Fl K} (hf : f.one = 1) {a b : Ap K} (ha : a.zero = true → a = ⟨0, 0, true⟩) (hb : b.zero = true → b = ⟨0, 0, true⟩)
    (hca : a.zero = false → a.y * a.y = a.x * a.x * a.x + f.b) (hcb : b.zero = false → b.y * b.y = b.x * b.x * b.x + f.b) :
    lowerE (foK iv) e (sumE (foK iv) e f (raiseJ (foK iv) f a) (raiseJ (foK iv) f b)) = sumA iv e a b := by
  have z0 : (foK iv).zero = (0 : K) := rfl
  have rz : ∀ {a : Ap K}, a.zero = true → (raiseJ (foK iv) f a).z = 0 := fun {a} h => by unfold raiseJ; rw [h]; rfl
  have rn : ∀ {a : Ap K}, a.zero = false → raiseJ (foK iv) f a = ⟨a.x, a.y, 1⟩ := fun {a} h => by unfold raiseJ; rw [h, hf]; rfl
  unfold sumA
  cases hza : a.zero with
  | true =>
    have : sumE (foK iv) e f (raiseJ (foK iv) f a) (raiseJ (foK iv) f b) = raiseJ (foK iv) f b := by
      unfold sumE
      rw [z0, F.eq.2 (rz hza)]; rfl
    rw [this, raise_low F hf hb]; rfl
  | false =>
    cases hzb : b.zero with
    | true =>
      have : sumE (foK iv) e f (raiseJ (foK iv) f a) (raiseJ (foK iv) f b) = raiseJ (foK iv) f a := by
        unfold sumE
        rw [z0, F.eq.2 (rz hzb), rn hza]
        show (bif e (1 : K) 0 then _ else _) = _
        rw [F.ne F.one]; rfl
      rw [this, raise_low F hf ha]; rfl
    | false =>
      rw [rn hza, rn hzb]
      have ca := hca hza
      have cb := hcb hzb
      obtain ⟨x1, y1, za⟩ := a
      obtain ⟨x2, y2, zb⟩ := b
      simp only at hza hzb ca cb
      subst hza hzb
      simp only [cond_false]
      have hj : hJ (foK iv) ⟨x1, y1, 1⟩ ⟨x2, y2, 1⟩ = x2 - x1 := by simp only [hJ, foK]; exact rg [x1, y1, x2, y2]
      have rj : rJ (foK iv) ⟨x1, y1, 1⟩ ⟨x2, y2, 1⟩ = y2 - y1 := by simp only [rJ, foK]; exact rg [x1, y1, x2, y2]
      have s0 : sumE (foK iv) e f ⟨x1, y1, 1⟩ ⟨x2, y2, 1⟩ = bif e (x2 - x1) 0 then (bif e (y2 - y1) 0 then twiceJ (foK iv) ⟨x1, y1, 1⟩ else ⟨f.one, f.one, (foK iv).zero⟩) else sumJ (foK iv) ⟨x1, y1, 1⟩ ⟨x2, y2, 1⟩ := by
        unfold sumE
        rw [hj, rj, z0]
        show (bif e (1 : K) 0 then _ else bif e (1 : K) 0 then _ else _) = _
        rw [F.ne F.one]; rfl
      rw [s0]
      by_cases hx : x1 = x2
      · subst hx
        rw [show e (x1 - x1) 0 = true from F.eq.2 (rg [x1])]
        simp only [cond_true]
        by_cases hn : y1 = -y2
        · have h1 : eqA e (⟨x1, y1, false⟩ : Ap K) (negK ⟨x1, y2, false⟩) = true := by
            simp [eqA, negK, F.refl, F.eq.2 hn]
          rw [h1, cond_true]
          by_cases hy : y2 - y1 = 0
          · rw [F.eq.2 hy, cond_true]
            have hy0 : y1 = 0 := F.two (rg2 [y1, y2] hn 1 hy (-1))
            subst hy0
            unfold lowerE
            rw [z0, show e (twiceJ (foK iv) ⟨x1, 0, 1⟩).z 0 = true from F.eq.2 (by rw [twice_z]; exact rg ([] : List K))]; rfl
          · rw [F.ne hy, cond_false]
            unfold lowerE
            rw [z0]
            show (bif e (0 : K) 0 then _ else _) = _
            rw [F.refl]; rfl
        · have hs : (y1 - y2) * (y1 + y2) = 0 := rg2 [x1, y1, y2, f.b] ca 1 cb (-1)
          have hy : y1 = y2 := by
            rcases F.zero_or hs with h | h
            · exact rg1 [y1, y2] h 1
            · exact absurd (rg1 [y1, y2] h 1) hn
          subst hy
          have h1 : eqA e (⟨x1, y1, false⟩ : Ap K) (negK ⟨x1, y1, false⟩) = false := by
            simp [eqA, negK, F.ne hn]
          have h2 : eqA e (⟨x1, y1, false⟩ : Ap K) ⟨x1, y1, false⟩ = true := by simp [eqA, F.refl]
          rw [h1, h2, show e (y1 - y1) 0 = true from F.eq.2 (rg [y1])]
          simp only [cond_true, cond_false]
          have hz : y1 + y1 ≠ 0 := fun h => hn (rg1 [y1] h 1)
          have hi := F.inv hz
          generalize hiv : iv (y1 + y1) = i at hi
          have hzz : (twiceJ (foK iv) ⟨x1, y1, 1⟩).z = y1 + y1 := by rw [twice_z]; exact rg [y1]
          unfold lowerE
          rw [z0, hzz, F.ne hz, cond_false]
          refine Ap.ext3 ?_ ?_ rfl
          · simp only [lowerJ]
            rw [hzz]
            simp only [foK, twiceJ, chordK, slope1K, hiv]
            exact rg1 [x1, y1, i] hi (-((x1 + x1) * ((y1 + y1) * i + 1)))
          · simp only [lowerJ]
            rw [hzz]
            simp only [foK, twiceJ, chordK, slope1K, hiv]
            exact rg1 [x1, y1, i] hi ((x1 * x1 + x1 * x1 + x1 * x1) * i * (x1 + x1 + x1) * ((y1 + y1) * i + 1) - y1 * ((y1 + y1) * i * ((y1 + y1) * i) + (y1 + y1) * i + 1))
      · have hz : x2 - x1 ≠ 0 := fun h => hx (rg1 [x1, x2] h (-1))
        have h1 : eqA e (⟨x1, y1, false⟩ : Ap K) (negK ⟨x2, y2, false⟩) = false := by simp [eqA, negK, F.ne hx]
        have h2 : eqA e (⟨x1, y1, false⟩ : Ap K) ⟨x2, y2, false⟩ = false := by simp [eqA, F.ne hx]
        rw [h1, h2, F.ne hz]
        simp only [cond_false]
        have hi := F.inv hz
        generalize hiv : iv (x2 - x1) = i at hi
        have hzz : (sumJ (foK iv) ⟨x1, y1, 1⟩ ⟨x2, y2, 1⟩).z = x2 - x1 := by simp only [sumJ, foK]; exact rg [x1, y1, x2, y2]
        unfold lowerE
        rw [z0, hzz, F.ne hz, cond_false]
        refine Ap.ext3 ?_ ?_ rfl
        · simp only [lowerJ]
          rw [hzz]
          simp only [foK, sumJ, chordK, slope2K, hiv]
          exact rg1 [x1, y1, x2, y2, i] hi (-((x1 + x2) * ((x2 - x1) * i + 1)))
        · simp only [lowerJ]
          rw [hzz]
          simp only [foK, sumJ, chordK, slope2K, hiv]
          exact rg1 [x1, y1, x2, y2, i] hi ((y2 - y1) * i * (x1 + x1 + x2) * ((x2 - x1) * i + 1) - y1 * ((x2 - x1) * i * ((x2 - x1) * i) + (x2 - x1) * i + 1))
end
end Go.Rq
