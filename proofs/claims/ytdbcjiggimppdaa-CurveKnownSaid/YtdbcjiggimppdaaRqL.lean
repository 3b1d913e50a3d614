/- Code, gone through by the abstract machine. -/
import Derived.Test.YtdbcjiggimppdaaRqK
namespace Go.Rq
open Go

structure XS where
  s : St
  n : Nat

/-- What comes of a walk: an end, a parting by a bool that may be a variable, something that must hold. -/
inductive Tree (α : Type) where
  | leaf (a : α)
  | br (b : Bool) (t f : Tree α)
  | need (b : Bool) (t : Tree α)
  | same (x y : XS) (t : Tree α)
  | fail

def Tree.holds {α : Type} (K : α → Prop) : Tree α → Prop
  | .leaf a => K a
  | .br b t f => (b = true → t.holds K) ∧ (b = false → f.holds K)
  | .need b t => b = true ∧ t.holds K
  | .same x y t => x = y ∧ t.holds K
  | .fail => False

def Tree.bind {α β : Type} (g : α → Tree β) : Tree α → Tree β
  | .leaf a => g a
  | .br b t f => .br b (t.bind g) (f.bind g)
  | .need b t => .need b (t.bind g)
  | .same x y t => .same x y (t.bind g)
  | .fail => .fail

/-- What must hold is looked at at once. -/
def Tree.strict {α : Type} : Tree α → Tree α
  | .leaf a => .leaf a
  | .br b t f => .br b t.strict f.strict
  | .need b t => match b with
    | true => t.strict
    | false => .fail
  | .same x y t => .same x y t.strict
  | .fail => .fail

def memb (t : Nat) : List Nat → Bool
  | [] => false
  | x :: l => bif Nat.beq x t then true else memb t l

/-- What must hold is looked at at once, but at some places (counted from the beginning of each way). -/
def Tree.but {α : Type} (l : List Nat) : Nat → Tree α → Tree α
  | _, .leaf a => .leaf a
  | i, .br b t f => .br b (Tree.but l i t) (Tree.but l i f)
  | i, .need b t => bif memb i l then .need b (Tree.but l (i + 1) t) else match b with
    | true => Tree.but l (i + 1) t
    | false => .fail
  | i, .same x y t => .same x y (Tree.but l i t)
  | _, .fail => .fail

theorem Tree.holds_mono {α : Type} {K L : α → Prop} (h : ∀ a, K a → L a) : ∀ {t : Tree α}, t.holds K → t.holds L
  | .leaf _, k => h _ k
  | .br _ _ _, k => ⟨fun hb => Tree.holds_mono h (k.1 hb), fun hb => Tree.holds_mono h (k.2 hb)⟩
  | .need _ _, k => ⟨k.1, Tree.holds_mono h k.2⟩
  | .same _ _ _, k => ⟨k.1, Tree.holds_mono h k.2⟩
  | .fail, k => k.elim

theorem Tree.holds_bind {α β : Type} {K : β → Prop} {g : α → Tree β} : ∀ {t : Tree α}, (t.bind g).holds K → t.holds (fun a => (g a).holds K)
  | .leaf _, k => k
  | .br _ _ _, k => ⟨fun hb => Tree.holds_bind (k.1 hb), fun hb => Tree.holds_bind (k.2 hb)⟩
  | .need _ _, k => ⟨k.1, Tree.holds_bind k.2⟩
  | .same _ _ _, k => ⟨k.1, Tree.holds_bind k.2⟩
  | .fail, k => k.elim

theorem Tree.bind_holds {α β : Type} {K : β → Prop} {g : α → Tree β} : ∀ {t : Tree α}, t.holds (fun a => (g a).holds K) → (t.bind g).holds K
  | .leaf _, k => k
  | .br _ _ _, k => ⟨fun hb => Tree.bind_holds (k.1 hb), fun hb => Tree.bind_holds (k.2 hb)⟩
  | .need _ _, k => ⟨k.1, Tree.bind_holds k.2⟩
  | .same _ _ _, k => ⟨k.1, Tree.bind_holds k.2⟩
  | .fail, k => k.elim

theorem Tree.holds_strict {α : Type} {K : α → Prop} : ∀ {t : Tree α}, t.strict.holds K → t.holds K
  | .leaf _, k => k
  | .br _ _ _, k => ⟨fun hb => Tree.holds_strict (k.1 hb), fun hb => Tree.holds_strict (k.2 hb)⟩
  | .need b _, k => by
    simp only [Tree.strict] at k
    cases b with
    | true => exact ⟨rfl, Tree.holds_strict k⟩
    | false => exact k.elim
  | .same _ _ _, k => ⟨k.1, Tree.holds_strict k.2⟩
  | .fail, k => k.elim

theorem Tree.holds_but {α : Type} {K : α → Prop} {l : List Nat} : ∀ {i : Nat} {t : Tree α}, (Tree.but l i t).holds K → t.holds K
  | _, .leaf _, k => k
  | i, .br _ _ _, k => ⟨fun hb => Tree.holds_but (i := i) (k.1 hb), fun hb => Tree.holds_but (i := i) (k.2 hb)⟩
  | i, .need b _, k => by
    simp only [Tree.but] at k
    cases hm : memb i l with
    | true => rw [hm] at k; exact ⟨k.1, Tree.holds_but (i := i + 1) k.2⟩
    | false =>
      rw [hm] at k
      cases b with
      | true => exact ⟨rfl, Tree.holds_but (i := i + 1) k⟩
      | false => exact k.elim
  | i, .same _ _ _, k => ⟨k.1, Tree.holds_but (i := i) k.2⟩
  | _, .fail, k => k.elim

/-- The operations of a region, one behind the other; it parts at the bools that are named. -/
def runT (P : Program) (E : Env) (sym : List Tmp) (base : Nat) (ops : Array Oper) : List Nat → St → Tree St
  | [], s => .need s.ok (.leaf ⟨s.tm, s.h, true⟩)
  | i :: t, s => match eff P E (fun _ => none) base ops i s.tm s.h with
    | none => .fail
    | some e => match e.d, e.r with
      | some d, .v (.bool g) => bif memb d sym then
          .br g (runT P E sym base ops t (s.put ⟨e.c, e.d, .lit true, e.ups⟩)) (runT P E sym base ops t (s.put ⟨e.c, e.d, .lit false, e.ups⟩))
        else runT P E sym base ops t (s.put e)
      | _, _ => runT P E sym base ops t (s.put e)

theorem eff_gamma {P : Program} {E : Env} {γ γ' : Nat → Option Bool} {base : Nat} {ops : Array Oper} {i : Nat} {tm : List AV} {h : AH} (hg : γ i = γ' i) : eff P E γ base ops i tm h = eff P E γ' base ops i tm h := by
  unfold eff
  rw [hg]

theorem runL_gamma {P : Program} {E : Env} {γ γ' : Nat → Option Bool} {base : Nat} {ops : Array Oper} : ∀ {l : List Nat} {s : St}, (∀ i ∈ l, γ i = γ' i) → runL P E γ base ops l s = runL P E γ' base ops l s
  | [], s, _ => rfl
  | i :: l, s, h => by
    simp only [runL]
    rw [eff_gamma (h i (by simp))]
    split
    · rfl
    · exact runL_gamma fun j hj => h j (by simp [hj])

theorem eff_assume {P : Program} {E : Env} {γ : Nat → Option Bool} {base : Nat} {ops : Array Oper} {i : Nat} {tm : List AV} {h : AH} {e : Eff} {g : Bool} (hg : γ i = some g) (hr : e.r = .v (.bool g))
    (he : eff P E (fun _ => none) base ops i tm h = some e) : eff P E γ base ops i tm h = some ⟨e.c, e.d, .lit g, e.ups⟩ := by
  unfold eff at he ⊢
  split at he
  · cases he
  · split at he
    · cases he
    · simp at he; subst he; cases hr
    · split at he
      · cases he
      · rename_i c r ups hop
        simp at he; subst he
        simp only at hr
        simp only [hg, hr]
        simp

theorem runT_sound {P : Program} {E : Env} {sym : List Tmp} {base : Nat} {ops : Array Oper} {K : St → Prop} : ∀ {l : List Nat} {s : St}, l.Nodup → (runT P E sym base ops l s).holds K →
    ∃ γ s', runL P E γ base ops l s = some s' ∧ s'.ok = true ∧ K ⟨s'.tm, s'.h, true⟩
  | [], s, _, h => ⟨fun _ => none, s, rfl, h.1, h.2⟩
  | i :: l, s, hnd, h => by
    simp only [runT] at h
    have hni := (List.nodup_cons.1 hnd).1
    have plain : ∀ e, eff P E (fun _ => none) base ops i s.tm s.h = some e → (runT P E sym base ops l (s.put e)).holds K →
        ∃ γ s', runL P E γ base ops (i :: l) s = some s' ∧ s'.ok = true ∧ K ⟨s'.tm, s'.h, true⟩ := by
      intro e he hh
      obtain ⟨γ, s', h1, h2, h3⟩ := runT_sound (List.nodup_cons.1 hnd).2 hh
      refine ⟨fun j => if j = i then none else γ j, s', ?_, h2, h3⟩
      simp only [runL]
      rw [eff_gamma (γ' := fun _ => none) (by simp), he]
      simp only
      rw [← h1]
      exact runL_gamma fun j hj => if_neg (fun hh => hni (by rw [← hh]; exact hj))
    split at h
    · exact h.elim
    · rename_i e he
      split at h
      · rename_i d g hd hr
        cases hm : memb d sym with
        | false => rw [hm] at h; exact plain e he h
        | true =>
          rw [hm] at h
          simp only [cond_true] at h
          have main : (runT P E sym base ops l (s.put ⟨e.c, e.d, .lit g, e.ups⟩)).holds K := by
            cases g with
            | true => exact h.1 rfl
            | false => exact h.2 rfl
          obtain ⟨γ, s', h1, h2, h3⟩ := runT_sound (List.nodup_cons.1 hnd).2 main
          refine ⟨fun j => if j = i then some g else γ j, s', ?_, h2, h3⟩
          simp only [runL]
          rw [eff_assume (g := g) (by simp) hr he]
          simp only
          rw [← h1]
          exact runL_gamma fun j hj => if_neg (fun hh => hni (by rw [← hh]; exact hj))
      · exact plain e he h

/-- In the text's order, where none is drawn. -/
theorem list_sim {P : Program} {E : Env} (hE : EnvOk P E) {F : Fr} {ds : List Deferred} {γ : Nat → Option Bool} {base : Nat} {ops : Array Oper} {s' : St} (hok : s'.ok = true) {Q : Exit → Act → World → Prop} :
    ∀ (l : List Nat) (s : St) (ρ : Ren) (a : Act) (w : World), l.Nodup → runL P E γ base ops l s = some s' → Sim F ds ρ s a w → (∀ j ∈ l, ρ (base + j) = none) →
      (∀ a' w' ρ', ρ.le ρ' → (∀ id, (∀ j ∈ l, id ≠ base + j) → ρ' id = ρ id) → Sim F ds ρ' s' a' w' → Q .normal a' w') → wpOps P ops Q l a w := by
  intro l
  induction l with
  | nil =>
    intro s ρ a w _ h hs _ hQ
    simp [runL] at h; subst h
    exact hQ a w ρ (Ren.le_refl _) (fun _ _ => rfl) hs
  | cons i l ih =>
    intro s ρ a w hnd h hs hr hQ
    simp only [runL] at h
    split at h
    · cases h
    · rename_i e he
      rw [wpOps_cons]
      have hok1 := runL_ok h hok
      have hec : e.c = true := by simp [St.put] at hok1; exact hok1.1
      refine step_sim hE he hec hs (hr i (by simp)) ?_
      intro a' w' ρ' hle hne hs'
      refine ih (s.put e) ρ' a' w' (List.nodup_cons.1 hnd).2 h hs' (fun j hj => ?_) ?_
      · rw [hne]
        · exact hr j (by simp [hj])
        · intro hh
          have : j = i := by omega
          subst this
          exact (List.nodup_cons.1 hnd).1 hj
      · intro a2 w2 ρ2 hle2 hne2 hs2
        refine hQ a2 w2 ρ2 (Ren.le_trans hle hle2) (fun id hid => ?_) hs2
        rw [hne2 id (fun j hj => hid j (by simp [hj])), hne id (hid i (by simp))]

inductive AExit where
  | normal
  | exit (id : Nat)
  | ret

def AExit.is : AExit → Exit → Prop
  | .normal, .normal => True
  | .exit i, .exit j => i = j
  | .ret, .ret => True
  | _, _ => False

/-- What holds of a piece of code: from whatever fits a state it comes to what fits one of the states that are told. 'm': the blocks that were there at first. -/
def Tri (P : Program) (F : Fr) (ds : List Deferred) (m : Nat) (c : Code) (x : XS) (K : AExit → XS → Prop) : Prop :=
  ∀ ρ a w, Sim F ds ρ x.s a w → m ≤ x.n → (∀ id, x.n ≤ id → ρ id = none) →
    c.wp P (fun e a' w' => ∃ e' y ρ', K e' y ∧ e'.is e ∧ Sim F ds ρ' y.s a' w' ∧ m ≤ y.n ∧ (∀ id, y.n ≤ id → ρ' id = none) ∧ (∀ id, id < m → ρ' id = ρ id)) a w

def rangeL (k : Nat) : Nat → List Nat → List Nat
  | 0, acc => acc
  | n + 1, acc => rangeL k n (n :: acc)

theorem rangeL_eq (k : Nat) : ∀ (n : Nat) (acc : List Nat), rangeL k n acc = List.range n ++ acc
  | 0, acc => by simp [rangeL]
  | n + 1, acc => by simp [rangeL, rangeL_eq k n, List.range_succ]

theorem todo_all (n : Nat) : todo n (Array.replicate n false) = List.range n := by
  unfold todo
  rw [List.filter_eq_self]
  intro i hi
  have : i < n := by simpa using hi
  simp [Array.getD, this]

theorem region_sound {P : Program} {E : Env} (hE : EnvOk P E) (hm : P.follows .mixedOrders = true) {F : Fr} {ds : List Deferred} {m : Nat} {sym : List Tmp} {id : Nat} {ops : Array Oper} {draw : Bool} (hchk : draw = true → chk E ops = true) {x : XS}
    {K : AExit → XS → Prop} (h : (runT P E sym x.n ops (rangeL 0 ops.size []) x.s).holds (fun s => K .normal ⟨s, x.n + ops.size⟩)) : Tri P F ds m (.region id ops draw) x K := by
  rw [rangeL_eq, List.append_nil] at h
  obtain ⟨γ, s', h1, h2, h3⟩ := runT_sound List.nodup_range h
  intro ρ a w hs hmn hfr
  have fin : ∀ a' w' ρ', ρ.le ρ' → (∀ id, (∀ j ∈ List.range ops.size, id ≠ x.n + j) → ρ' id = ρ id) → Sim F ds ρ' s' a' w' →
      ∃ e' y ρ'', K e' y ∧ e'.is .normal ∧ Sim F ds ρ'' y.s a' w' ∧ m ≤ y.n ∧ (∀ id, y.n ≤ id → ρ'' id = none) ∧ (∀ id, id < m → ρ'' id = ρ id) := by
    intro a' w' ρ' hle hne hs'
    refine ⟨.normal, _, ρ', h3, trivial, ⟨hs'.tm, hs'.h, hs'.ds⟩, by simp; omega, fun id hid => ?_, fun id hid => ?_⟩
    · simp at hid
      rw [hne id (fun j hj => by have : j < ops.size := by simpa using hj
                                 omega)]
      exact hfr id (by omega)
    · exact hne id (fun j hj => by omega)
  cases draw with
  | false =>
    refine wp_region (list_sim hE h2 _ _ ρ a w List.nodup_range h1 hs (fun j _ => hfr _ (by omega)) fin)
  | true =>
    refine wp_region_any hm ?_
    refine any_sim hE (hchk rfl) h2 ops.size _ x.s ρ a { w with drawn := w.drawn + 1 } (by simp) (by rw [todo_all]; simp) ?_ s' (by rw [todo_all]; exact h1) (Eqv.refl _) ⟨hs.tm, hs.h.drawn _, hs.ds⟩ (fun j _ => hfr _ (by omega)) ?_
    · intro y o hy
      simp [Array.getD] at hy
    · rw [todo_all]; exact fin

end Go.Rq
