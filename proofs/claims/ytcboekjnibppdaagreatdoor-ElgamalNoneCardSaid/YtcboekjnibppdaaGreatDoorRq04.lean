/- Regions: in whatever order, as the text goes. -/
import Derived.Test.YtcboekjnibppdaaGreatDoorRq03
namespace Go.Rq
open Go

theorem closure_length : ∀ (l : List Oper) (acc : List Nat), (closure l acc).length = acc.length + l.length
  | [], acc => by simp [closure]
  | o :: t, acc => by simp [closure, closure_length t]; omega

theorem closure_take : ∀ (l : List Oper) (acc : List Nat) (k : Nat), k < acc.length → (closure l acc)[k]? = acc[k]?
  | [], acc, k, _ => rfl
  | o :: t, acc, k, h => by
    simp only [closure]
    rw [closure_take t _ k (by simp; omega), List.getElem?_append_left h]

theorem closure_get : ∀ (l : List Oper) (acc : List Nat) (i : Nat) (o : Oper), l[i]? = some o →
    (closure l acc)[acc.length + i]? = some (preds o.after.toList ((closure l acc).take (acc.length + i)))
  | [], acc, i, o, h => by simp at h
  | x :: t, acc, 0, o, h => by
    simp at h; subst h
    simp only [closure, Nat.add_zero]
    rw [closure_take t _ acc.length (by simp)]
    have e : (closure t (acc ++ [preds x.after.toList acc])).take acc.length = acc := by
      apply List.ext_getElem?
      intro k
      rw [List.getElem?_take]
      split
      · rename_i hk
        rw [closure_take t _ k (by simp; omega), List.getElem?_append_left hk]
      · rename_i hk
        rw [List.getElem?_eq_none]; omega
    rw [e]; simp
  | x :: t, acc, i + 1, o, h => by
    have := closure_get t (acc ++ [preds x.after.toList acc]) i o (by simpa using h)
    simp only [closure]
    have e : (acc ++ [preds x.after.toList acc]).length + i = acc.length + (i + 1) := by simp; omega
    rw [e] at this
    exact this

theorem preds_bit {l : List Edge} {acc : List Nat} {a : Nat} : Nat.testBit (preds l acc) a = true → ∃ e ∈ l, Region.binds .any e = true ∧ (e.on = a ∨ Nat.testBit (acc.getD e.on 0) a = true) := by
  induction l with
  | nil => intro h; simp [preds] at h
  | cons e t ih =>
    intro h
    simp only [preds] at h
    cases hb : Region.binds .any e with
    | false =>
      rw [hb] at h; simp only [cond_false] at h
      obtain ⟨f, hf, h1, h2⟩ := ih h
      exact ⟨f, by simp [hf], h1, h2⟩
    | true =>
      rw [hb] at h; simp only [cond_true, Nat.testBit_or, Bool.or_eq_true] at h
      rcases h with (h | h) | h
      · rw [Nat.testBit_two_pow] at h
        exact ⟨e, by simp, hb, .inl (by simpa using h)⟩
      · exact ⟨e, by simp, hb, .inr h⟩
      · obtain ⟨f, hf, h1, h2⟩ := ih h
        exact ⟨f, by simp [hf], h1, h2⟩

/-- What has been gone through holds with each operation those that must go ahead of it. -/
def Closed (ops : Array Oper) (listed : Array Bool) : Prop :=
  ∀ x o, listed.getD x false = true → ops[x]? = some o → ∀ e ∈ o.after, Region.binds .any e = true → listed.getD e.on false = true

theorem closure_sound {ops : Array Oper} {listed : Array Bool} (hc : Closed ops listed) : ∀ (i : Nat) (o : Oper), ops[i]? = some o →
    (∀ e ∈ o.after, Region.binds .any e = true → listed.getD e.on false = true) → ∀ a, Nat.testBit ((closure ops.toList []).getD i 0) a = true → listed.getD a false = true := by
  intro i
  induction i using Nat.strongRecOn with
  | _ i ih =>
    intro o ho hpre a hbit
    have hg := closure_get ops.toList [] i o (by simpa using ho)
    simp only [List.length_nil, Nat.zero_add] at hg
    rw [List.getD, hg] at hbit
    simp only [Option.getD_some] at hbit
    obtain ⟨e, he, h1, h2⟩ := preds_bit hbit
    have he' : e ∈ o.after := by simpa using he
    rcases h2 with h2 | h2
    · rw [← h2]; exact hpre e he' h1
    · have hl := hpre e he' h1
      rw [List.getD, List.getElem?_take] at h2
      split at h2
      · rename_i hlt
        cases hoe : ops[e.on]? with
        | none =>
          exfalso
          have : (closure ops.toList [])[e.on]? = none := by
            rw [List.getElem?_eq_none_iff, closure_length]
            simp
            exact Array.getElem?_eq_none_iff.1 hoe
          rw [this] at h2; simp at h2
        | some oe => exact ih e.on hlt oe hoe (hc e.on oe hl hoe) a h2
      · simp at h2

theorem chkRow_spec {E : Env} {ops : Array Oper} {y : Oper} {i bits : Nat} : ∀ {l : List Oper} {k : Nat}, chkRow E ops y i bits l k = true → ∀ (j : Nat) (x : Oper), l[j]? = some x → indepD E ops (k + j) i x y = true ∨ Nat.testBit bits (k + j) = true
  | [], _, _, j, x, h => by simp at h
  | z :: t, k, hc, 0, x, h => by
    simp at h; subst h
    simp only [chkRow, Bool.and_eq_true, Bool.or_eq_true] at hc
    simpa using hc.1
  | z :: t, k, hc, j + 1, x, h => by
    simp only [chkRow, Bool.and_eq_true] at hc
    have := chkRow_spec hc.2 j x (by simpa using h)
    rw [show k + (j + 1) = k + 1 + j from by omega]
    exact this

theorem chkRows_spec {E : Env} {ops : Array Oper} {l : List Oper} {bits : List Nat} : ∀ {m : List Oper} {k : Nat}, chkRows E ops l bits m k = true → ∀ (i : Nat) (y : Oper), m[i]? = some y → chkRow E ops y (k + i) (bits.getD (k + i) 0) (l.take (k + i)) 0 = true
  | [], _, _, i, y, h => by simp at h
  | z :: t, k, hc, 0, y, h => by
    simp at h; subst h
    simp only [chkRows, Bool.and_eq_true] at hc
    simpa using hc.1
  | z :: t, k, hc, i + 1, y, h => by
    simp only [chkRows, Bool.and_eq_true] at hc
    have := chkRows_spec hc.2 i y (by simpa using h)
    rw [show k + (i + 1) = k + 1 + i from by omega]
    exact this

theorem backOk_spec : ∀ {l : List Edge} {i : Nat}, backOk l i = true → ∀ e ∈ l, Region.binds .any e = true → e.on < i
  | [], _, _, e, h, _ => by simp at h
  | f :: t, i, hc, e, h, hb => by
    simp only [backOk, Bool.and_eq_true, Bool.or_eq_true] at hc
    rcases List.mem_cons.1 h with rfl | h
    · rcases hc.1 with h1 | h1
      · rw [hb] at h1; simp at h1
      · exact Nat.le_of_ble_eq_true h1
    · exact backOk_spec hc.2 e h hb

theorem backs_spec : ∀ {l : List Oper} {k : Nat}, backs l k = true → ∀ (i : Nat) (o : Oper), l[i]? = some o → backOk o.after.toList (k + i) = true
  | [], _, _, i, o, h => by simp at h
  | z :: t, k, hc, 0, o, h => by
    simp at h; subst h
    simp only [backs, Bool.and_eq_true] at hc
    simpa using hc.1
  | z :: t, k, hc, i + 1, o, h => by
    simp only [backs, Bool.and_eq_true] at hc
    have := backs_spec hc.2 i o (by simpa using h)
    rw [show k + (i + 1) = k + 1 + i from by omega]
    exact this

/-- What is still to do. -/
def todo (n : Nat) (listed : Array Bool) : List Nat := (List.range n).filter fun i => !listed.getD i true

theorem todo_sorted (n : Nat) (listed : Array Bool) : (todo n listed).Pairwise (· < ·) := List.Pairwise.filter _ List.pairwise_lt_range

theorem todo_mem {n : Nat} {listed : Array Bool} {i : Nat} : i ∈ todo n listed ↔ i < n ∧ listed.getD i true = false := by
  simp [todo]

theorem todo_set {n : Nat} {listed : Array Bool} (hs : listed.size = n) {i : Nat} (hi : i < n) {A B : List Nat} (hL : todo n listed = A ++ i :: B) : todo n (listed.setIfInBounds i true) = A ++ B := by
  have h1 : todo n (listed.setIfInBounds i true) = (todo n listed).filter (fun j => decide (j ≠ i)) := by
    unfold todo
    rw [List.filter_filter]
    apply List.filter_congr
    intro j hj
    have hj : j < n := by simpa using hj
    by_cases hji : j = i
    · subst hji; simp [hs, hj]
    · have : ¬ i = j := fun h => hji h.symm
      simp [hs, hj, hji, this]
  have hsorted := todo_sorted n listed
  rw [hL] at hsorted
  rw [h1, hL, List.filter_append, List.filter_cons]
  have hA : ∀ j ∈ A, j < i := fun j hj => (List.pairwise_append.1 hsorted).2.2 j hj i (by simp)
  have hB : ∀ j ∈ B, i < j := fun j hj => (List.pairwise_cons.1 (List.pairwise_append.1 hsorted).2.1).1 j hj
  rw [List.filter_eq_self.2 (fun j hj => by have := hA j hj; simp; omega), List.filter_eq_self.2 (fun j hj => by have := hB j hj; simp; omega)]
  simp

theorem getD_set_self {l : Array Bool} {i : Nat} (h : i < l.size) : (l.setIfInBounds i true).getD i false = true := by
  rw [Array.getD_eq_getD_getElem?, Array.getElem?_setIfInBounds_self_of_lt h]; rfl

theorem getD_set_mono {l : Array Bool} {i x : Nat} (h : l.getD x false = true) : (l.setIfInBounds i true).getD x false = true := by
  by_cases hx : i = x
  · subst hx
    refine getD_set_self ?_
    rw [Array.getD_eq_getD_getElem?] at h
    cases hl : l[i]? with
    | none => rw [hl] at h; cases h
    | some b => exact (Array.getElem?_eq_some_iff.1 hl).1
  · rw [Array.getD_eq_getD_getElem?, Array.getElem?_setIfInBounds_ne hx, ← Array.getD_eq_getD_getElem?]; exact h

theorem getD_set_inv {l : Array Bool} {i x : Nat} (hx : ¬ x = i) (h : (l.setIfInBounds i true).getD x false = true) : l.getD x false = true := by
  have : ¬ i = x := fun e => hx e.symm
  rw [Array.getD_eq_getD_getElem?, Array.getElem?_setIfInBounds_ne this, ← Array.getD_eq_getD_getElem?] at h; exact h

theorem any_sim {P : Program} {E : Env} (hE : EnvOk P E) {F : Fr} {ds : List Deferred} {γ : Nat → Option Bool} {base : Nat} {ops : Array Oper} (hchk : chk E ops = true) {s' : St} (hok : s'.ok = true) {Q : Exit → Act → World → Prop} :
    ∀ (fuel : Nat) (listed : Array Bool) (s : St) (ρ : Ren) (a : Act) (w : World), listed.size = ops.size → (todo ops.size listed).length = fuel → Closed ops listed →
      ∀ s1, runL P E γ base ops (todo ops.size listed) s = some s1 → Eqv s1 s' → Sim F ds ρ s a w → (∀ j ∈ todo ops.size listed, freeR ρ (base + E.kk * j) E.kk) →
      (∀ a' w' ρ', ρ.le ρ' → (∀ id, (∀ j ∈ todo ops.size listed, ¬ inR (base + E.kk * j) E.kk id) → ρ' id = ρ id) → Sim F ds ρ' s' a' w' → Q .normal a' w') →
      wpAny P .any ops Q fuel listed a w := by
  simp only [chk, Bool.and_eq_true] at hchk
  obtain ⟨hback, hrows⟩ := hchk
  have back : ∀ (i : Nat) (o : Oper), ops[i]? = some o → ∀ e ∈ o.after, Region.binds .any e = true → e.on < i := by
    intro i o ho e he hb
    have := backs_spec hback i o (by simpa using ho)
    rw [Nat.zero_add] at this
    exact backOk_spec this e (by simpa using he) hb
  have ready_iff : ∀ (listed : Array Bool), listed.size = ops.size → ∀ i, i ∈ Region.ready .any ops listed ↔ i ∈ todo ops.size listed ∧ ∀ o, ops[i]? = some o → ∀ e ∈ o.after, Region.binds .any e = true → listed.getD e.on false = true := by
    intro listed hsz i
    unfold Region.ready
    rw [List.mem_filter, todo_mem]
    constructor
    · rintro ⟨h1, h2⟩
      have h1 : i < ops.size := by simpa using h1
      simp only [Bool.and_eq_true, Bool.not_eq_true'] at h2
      refine ⟨⟨h1, h2.1⟩, fun o ho e he hb => ?_⟩
      have h3 := h2.2
      rw [ho] at h3
      simp only [Option.map_some, Option.getD_some, Array.all_eq_true_iff_forall_mem] at h3
      have := h3 e he
      simpa [hb] using this
    · rintro ⟨⟨h1, h2⟩, h3⟩
      refine ⟨by simp [h1], ?_⟩
      have hg : ops[i]? = some ops[i] := Array.getElem?_eq_getElem h1
      rw [hg]
      simp only [h2, Option.map_some, Option.getD_some, Bool.not_false, Bool.true_and, Array.all_eq_true_iff_forall_mem]
      intro e he
      cases hb : Region.binds .any e with
      | false => rfl
      | true => simpa using h3 _ hg e he hb
  intro fuel
  induction fuel with
  | zero =>
    intro listed s ρ a w hsz hlen hcl s1 hrun heq hs hr hQ
    have hnil : todo ops.size listed = [] := List.length_eq_zero_iff.1 hlen
    rw [hnil] at hrun
    simp [runL] at hrun
    subst hrun
    refine ⟨?_, hQ a w ρ (Ren.le_refl _) (fun _ _ => rfl) (hs.eqv heq)⟩
    cases hrd : Region.ready .any ops listed with
    | nil => rfl
    | cons i t =>
      have := (ready_iff listed hsz i).1 (by rw [hrd]; simp)
      rw [hnil] at this
      simp at this
  | succ fuel ih =>
    intro listed s ρ a w hsz hlen hcl s1 hrun heq hs hr hQ
    refine ⟨fun hnil => ?_, fun i hi => ?_⟩
    · exfalso
      cases hL : todo ops.size listed with
      | nil => rw [hL] at hlen; simp at hlen
      | cons i t =>
        have hmem : i ∈ todo ops.size listed := by rw [hL]; simp
        have hsorted := todo_sorted ops.size listed
        rw [hL] at hsorted
        have hmin : ∀ j ∈ todo ops.size listed, i ≤ j := by
          intro j hj
          rw [hL] at hj
          rcases List.mem_cons.1 hj with rfl | hj
          · exact Nat.le_refl _
          · exact Nat.le_of_lt ((List.pairwise_cons.1 hsorted).1 j hj)
        have : i ∈ Region.ready .any ops listed := by
          rw [ready_iff listed hsz]
          refine ⟨hmem, fun o ho e he hb => ?_⟩
          have hlt := back i o ho e he hb
          have hin := (todo_mem.1 hmem).1
          cases hv : listed.getD e.on true with
          | true =>
            have : e.on < listed.size := by omega
            simp [Array.getD, this] at hv ⊢
            exact hv
          | false =>
            have := hmin e.on (todo_mem.2 ⟨by omega, hv⟩)
            omega
        rw [hnil] at this
        simp at this
    · obtain ⟨hmem, hpre⟩ := (ready_iff listed hsz i).1 hi
      have hin := (todo_mem.1 hmem).1
      obtain ⟨A, B, hL⟩ := List.append_of_mem hmem
      have hsorted := todo_sorted ops.size listed
      rw [hL] at hsorted
      have hA : ∀ j ∈ A, j < i := fun j hj => (List.pairwise_append.1 hsorted).2.2 j hj i (by simp)
      have hnd : A.Nodup := ((List.pairwise_append.1 hsorted).1).imp (fun h => Nat.ne_of_lt h)
      have hi' : ops[i]? = some ops[i] := Array.getElem?_eq_getElem hin
      have hs1ok : s1.ok = true := by rw [heq.ok]; exact hok
      obtain ⟨s2, h2, hq2⟩ := move_front hE (i := i) hi' (A := A) (B := B) (s := s) (s' := s1) (fun j hj => by
        refine ⟨Nat.ne_of_lt (hA j hj), ops[j]'(by have := hA j hj; omega), Array.getElem?_eq_getElem _, ?_⟩
        have hrow := chkRows_spec hrows i ops[i] (by simp)
        rw [Nat.zero_add] at hrow
        have hlt := hA j hj
        rcases chkRow_spec hrow j (ops[j]'(by omega)) (by rw [List.getElem?_take, if_pos hlt]; simp) with h | h
        · rw [Nat.zero_add] at h; exact h
        · exfalso
          rw [Nat.zero_add] at h
          have hl := closure_sound hcl i _ hi' (hpre _ hi') j h
          have hj' := (todo_mem.1 (show j ∈ todo ops.size listed by rw [hL]; simp [hj])).2
          have : j < listed.size := by omega
          simp [Array.getD, this] at hl hj'
          rw [hl] at hj'; cases hj') hnd (by rw [← hL]; exact hrun) hs1ok hs (fun j hj => hr j (by rw [hL]; simp [hj])) (hr i hmem)
      simp only [runL] at h2
      split at h2
      · cases h2
      · rename_i e he
        have hs2ok : s2.ok = true := by rw [← hq2.ok]; exact hs1ok
        have hok1 := runL_ok h2 hs2ok
        have hec : e.c = true := by simp [St.put] at hok1; exact hok1.1
        have htodo := todo_set hsz hin hL
        refine step_sim hE he hec hs (hr i hmem) ?_
        intro a' w' ρ' hle hne hs'
        refine ih (listed.setIfInBounds i true) (s.put e) ρ' a' w' (by simpa using hsz) ?_ ?_ s2 (by rw [htodo]; exact h2) (hq2.symm.trans heq) hs' ?_ ?_
        · rw [htodo]
          rw [hL] at hlen
          simp at hlen ⊢
          omega
        · intro x o hx ho e' he' hb
          by_cases hxi : x = i
          · subst hxi
            exact getD_set_mono (hpre o ho e' he' hb)
          · exact getD_set_mono (hcl x o (getD_set_inv hxi hx) ho e' he' hb)
        · intro j hj
          rw [htodo] at hj
          have hji : j ≠ i := by
            rintro rfl
            rcases List.mem_append.1 hj with hj | hj
            · exact absurd (hA j hj) (Nat.lt_irrefl _)
            · exact absurd ((List.pairwise_cons.1 (List.pairwise_append.1 hsorted).2.1).1 j hj) (Nat.lt_irrefl _)
          intro id hin
          rw [hne id (fun hh => hji (inR_inj hin hh))]
          refine hr j ?_ id hin
          rw [hL]
          rcases List.mem_append.1 hj with hj | hj <;> simp [hj]
        · intro a2 w2 ρ2 hle2 hne2 hs2
          refine hQ a2 w2 ρ2 (Ren.le_trans hle hle2) (fun id hid => ?_) hs2
          rw [hne2 id (fun j hj => hid j (by
            rw [htodo] at hj
            rw [hL]
            rcases List.mem_append.1 hj with hj | hj <;> simp [hj])), hne id (hid i hmem)]

end Go.Rq

/- Code, gone through by the abstract machine. -/
namespace Go.Rq
open Go

structure XS where
  s : St
  n : Nat

/-- What comes of a walk: an end, a parting by a bool that may be a variable, something that must hold. -/
inductive Tree (α : Type) where
  | leaf (a : α)
  | br (b : Bool) (t f : Tree α)
  | need (b : Bool) (t : Tree α)
  | same (x y : XS) (t : Tree α)
  | fail

def Tree.holds {α : Type} (K : α → Prop) : Tree α → Prop
  | .leaf a => K a
  | .br b t f => (b = true → t.holds K) ∧ (b = false → f.holds K)
  | .need b t => b = true ∧ t.holds K
  | .same x y t => x = y ∧ t.holds K
  | .fail => False

def Tree.bind {α β : Type} (g : α → Tree β) : Tree α → Tree β
  | .leaf a => g a
  | .br b t f => .br b (t.bind g) (f.bind g)
  | .need b t => .need b (t.bind g)
  | .same x y t => .same x y (t.bind g)
  | .fail => .fail

/-- What must hold is looked at at once. -/
def Tree.strict {α : Type} : Tree α → Tree α
  | .leaf a => .leaf a
  | .br b t f => .br b t.strict f.strict
  | .need b t => match b with
    | true => t.strict
    | false => .fail
  | .same x y t => .same x y t.strict
  | .fail => .fail

def memb (t : Nat) : List Nat → Bool
  | [] => false
  | x :: l => bif Nat.beq x t then true else memb t l

/-- What must hold is looked at at once, but at some places (counted from the beginning of each way). -/
def Tree.but {α : Type} (l : List Nat) : Nat → Tree α → Tree α
  | _, .leaf a => .leaf a
  | i, .br b t f => .br b (Tree.but l i t) (Tree.but l i f)
  | i, .need b t => bif memb i l then .need b (Tree.but l (i + 1) t) else match b with
    | true => Tree.but l (i + 1) t
    | false => .fail
  | i, .same x y t => .same x y (Tree.but l i t)
  | _, .fail => .fail

theorem Tree.holds_mono {α : Type} {K L : α → Prop} (h : ∀ a, K a → L a) : ∀ {t : Tree α}, t.holds K → t.holds L
  | .leaf _, k => h _ k
  | .br _ _ _, k => ⟨fun hb => Tree.holds_mono h (k.1 hb), fun hb => Tree.holds_mono h (k.2 hb)⟩
  | .need _ _, k => ⟨k.1, Tree.holds_mono h k.2⟩
  | .same _ _ _, k => ⟨k.1, Tree.holds_mono h k.2⟩
  | .fail, k => k.elim

theorem Tree.holds_bind {α β : Type} {K : β → Prop} {g : α → Tree β} : ∀ {t : Tree α}, (t.bind g).holds K → t.holds (fun a => (g a).holds K)
  | .leaf _, k => k
  | .br _ _ _, k => ⟨fun hb => Tree.holds_bind (k.1 hb), fun hb => Tree.holds_bind (k.2 hb)⟩
  | .need _ _, k => ⟨k.1, Tree.holds_bind k.2⟩
  | .same _ _ _, k => ⟨k.1, Tree.holds_bind k.2⟩
  | .fail, k => k.elim

theorem Tree.bind_holds {α β : Type} {K : β → Prop} {g : α → Tree β} : ∀ {t : Tree α}, t.holds (fun a => (g a).holds K) → (t.bind g).holds K
  | .leaf _, k => k
  | .br _ _ _, k => ⟨fun hb => Tree.bind_holds (k.1 hb), fun hb => Tree.bind_holds (k.2 hb)⟩
  | .need _ _, k => ⟨k.1, Tree.bind_holds k.2⟩
  | .same _ _ _, k => ⟨k.1, Tree.bind_holds k.2⟩
  | .fail, k => k.elim

theorem Tree.holds_strict {α : Type} {K : α → Prop} : ∀ {t : Tree α}, t.strict.holds K → t.holds K
  | .leaf _, k => k
  | .br _ _ _, k => ⟨fun hb => Tree.holds_strict (k.1 hb), fun hb => Tree.holds_strict (k.2 hb)⟩
  | .need b _, k => by
    simp only [Tree.strict] at k
    cases b with
    | true => exact ⟨rfl, Tree.holds_strict k⟩
    | false => exact k.elim
  | .same _ _ _, k => ⟨k.1, Tree.holds_strict k.2⟩
  | .fail, k => k.elim

theorem Tree.holds_but {α : Type} {K : α → Prop} {l : List Nat} : ∀ {i : Nat} {t : Tree α}, (Tree.but l i t).holds K → t.holds K
  | _, .leaf _, k => k
  | i, .br _ _ _, k => ⟨fun hb => Tree.holds_but (i := i) (k.1 hb), fun hb => Tree.holds_but (i := i) (k.2 hb)⟩
  | i, .need b _, k => by
    simp only [Tree.but] at k
    cases hm : memb i l with
    | true => rw [hm] at k; exact ⟨k.1, Tree.holds_but (i := i + 1) k.2⟩
    | false =>
      rw [hm] at k
      cases b with
      | true => exact ⟨rfl, Tree.holds_but (i := i + 1) k⟩
      | false => exact k.elim
  | i, .same _ _ _, k => ⟨k.1, Tree.holds_but (i := i) k.2⟩
  | _, .fail, k => k.elim

/-- The operations of a region, one behind the other; it parts at the bools that are named. -/
def runT (P : Program) (E : Env) (sym : List Tmp) (base : Nat) (ops : Array Oper) : List Nat → St → Tree St
  | [], s => .need s.ok (.leaf ⟨s.tm, s.h, true⟩)
  | i :: t, s => match eff P E (fun _ => none) base ops i s.tm s.h with
    | none => .fail
    | some e => match e.d, e.r with
      | some d, .v (.bool g) => bif memb d sym then
          .br g (runT P E sym base ops t (s.put ⟨e.c, e.d, .lit true, e.ups⟩)) (runT P E sym base ops t (s.put ⟨e.c, e.d, .lit false, e.ups⟩))
        else runT P E sym base ops t (s.put e)
      | _, _ => runT P E sym base ops t (s.put e)

theorem eff_gamma {P : Program} {E : Env} {γ γ' : Nat → Option Bool} {base : Nat} {ops : Array Oper} {i : Nat} {tm : List AV} {h : AH} (hg : γ i = γ' i) : eff P E γ base ops i tm h = eff P E γ' base ops i tm h := by
  unfold eff
  rw [hg]

theorem runL_gamma {P : Program} {E : Env} {γ γ' : Nat → Option Bool} {base : Nat} {ops : Array Oper} : ∀ {l : List Nat} {s : St}, (∀ i ∈ l, γ i = γ' i) → runL P E γ base ops l s = runL P E γ' base ops l s
  | [], s, _ => rfl
  | i :: l, s, h => by
    simp only [runL]
    rw [eff_gamma (h i (by simp))]
    split
    · rfl
    · exact runL_gamma fun j hj => h j (by simp [hj])

theorem eff_assume {P : Program} {E : Env} {γ : Nat → Option Bool} {base : Nat} {ops : Array Oper} {i : Nat} {tm : List AV} {h : AH} {e : Eff} {g : Bool} (hg : γ i = some g) (hr : e.r = .v (.bool g))
    (he : eff P E (fun _ => none) base ops i tm h = some e) : eff P E γ base ops i tm h = some ⟨e.c, e.d, .lit g, e.ups⟩ := by
  unfold eff at he ⊢
  split at he
  · cases he
  · split at he
    · cases he
    · simp at he; subst he; cases hr
    · split at he
      · cases he
      split at he
      · cases he
      · rename_i c r ups hop
        simp at he; subst he
        simp only at hr
        simp only [hg, hr]
        simp

theorem runT_sound {P : Program} {E : Env} {sym : List Tmp} {base : Nat} {ops : Array Oper} {K : St → Prop} : ∀ {l : List Nat} {s : St}, l.Nodup → (runT P E sym base ops l s).holds K →
    ∃ γ s', runL P E γ base ops l s = some s' ∧ s'.ok = true ∧ K ⟨s'.tm, s'.h, true⟩
  | [], s, _, h => ⟨fun _ => none, s, rfl, h.1, h.2⟩
  | i :: l, s, hnd, h => by
    simp only [runT] at h
    have hni := (List.nodup_cons.1 hnd).1
    have plain : ∀ e, eff P E (fun _ => none) base ops i s.tm s.h = some e → (runT P E sym base ops l (s.put e)).holds K →
        ∃ γ s', runL P E γ base ops (i :: l) s = some s' ∧ s'.ok = true ∧ K ⟨s'.tm, s'.h, true⟩ := by
      intro e he hh
      obtain ⟨γ, s', h1, h2, h3⟩ := runT_sound (List.nodup_cons.1 hnd).2 hh
      refine ⟨fun j => if j = i then none else γ j, s', ?_, h2, h3⟩
      simp only [runL]
      rw [eff_gamma (γ' := fun _ => none) (by simp), he]
      simp only
      rw [← h1]
      exact runL_gamma fun j hj => if_neg (fun hh => hni (by rw [← hh]; exact hj))
    split at h
    · exact h.elim
    · rename_i e he
      split at h
      · rename_i d g hd hr
        cases hm : memb d sym with
        | false => rw [hm] at h; exact plain e he h
        | true =>
          rw [hm] at h
          simp only [cond_true] at h
          have main : (runT P E sym base ops l (s.put ⟨e.c, e.d, .lit g, e.ups⟩)).holds K := by
            cases g with
            | true => exact h.1 rfl
            | false => exact h.2 rfl
          obtain ⟨γ, s', h1, h2, h3⟩ := runT_sound (List.nodup_cons.1 hnd).2 main
          refine ⟨fun j => if j = i then some g else γ j, s', ?_, h2, h3⟩
          simp only [runL]
          rw [eff_assume (g := g) (by simp) hr he]
          simp only
          rw [← h1]
          exact runL_gamma fun j hj => if_neg (fun hh => hni (by rw [← hh]; exact hj))
      · exact plain e he h

/-- In the text's order, where none is drawn. -/
theorem list_sim {P : Program} {E : Env} (hE : EnvOk P E) {F : Fr} {ds : List Deferred} {γ : Nat → Option Bool} {base : Nat} {ops : Array Oper} {s' : St} (hok : s'.ok = true) {Q : Exit → Act → World → Prop} :
    ∀ (l : List Nat) (s : St) (ρ : Ren) (a : Act) (w : World), l.Nodup → runL P E γ base ops l s = some s' → Sim F ds ρ s a w → (∀ j ∈ l, freeR ρ (base + E.kk * j) E.kk) →
      (∀ a' w' ρ', ρ.le ρ' → (∀ id, (∀ j ∈ l, ¬ inR (base + E.kk * j) E.kk id) → ρ' id = ρ id) → Sim F ds ρ' s' a' w' → Q .normal a' w') → wpOps P ops Q l a w := by
  intro l
  induction l with
  | nil =>
    intro s ρ a w _ h hs _ hQ
    simp [runL] at h; subst h
    exact hQ a w ρ (Ren.le_refl _) (fun _ _ => rfl) hs
  | cons i l ih =>
    intro s ρ a w hnd h hs hr hQ
    simp only [runL] at h
    split at h
    · cases h
    · rename_i e he
      rw [wpOps_cons]
      have hok1 := runL_ok h hok
      have hec : e.c = true := by simp [St.put] at hok1; exact hok1.1
      refine step_sim hE he hec hs (hr i (by simp)) ?_
      intro a' w' ρ' hle hne hs'
      refine ih (s.put e) ρ' a' w' (List.nodup_cons.1 hnd).2 h hs' (fun j hj id hin => ?_) ?_
      · rw [hne]
        · exact hr j (by simp [hj]) id hin
        · intro hh
          have : j = i := inR_inj hin hh
          subst this
          exact (List.nodup_cons.1 hnd).1 hj
      · intro a2 w2 ρ2 hle2 hne2 hs2
        refine hQ a2 w2 ρ2 (Ren.le_trans hle hle2) (fun id hid => ?_) hs2
        rw [hne2 id (fun j hj => hid j (by simp [hj])), hne id (hid i (by simp))]

inductive AExit where
  | normal
  | exit (id : Nat)
  | ret

def AExit.is : AExit → Exit → Prop
  | .normal, .normal => True
  | .exit i, .exit j => i = j
  | .ret, .ret => True
  | _, _ => False

/-- What holds of a piece of code: from whatever fits a state it comes to what fits one of the states that are told. 'm': the blocks that were there at first. -/
def Tri (P : Program) (F : Fr) (ds : List Deferred) (m : Nat) (c : Code) (x : XS) (K : AExit → XS → Prop) : Prop :=
  ∀ ρ a w, Sim F ds ρ x.s a w → m ≤ x.n → (∀ id, x.n ≤ id → ρ id = none) →
    c.wp P (fun e a' w' => ∃ e' y ρ', K e' y ∧ e'.is e ∧ Sim F ds ρ' y.s a' w' ∧ m ≤ y.n ∧ (∀ id, y.n ≤ id → ρ' id = none) ∧ (∀ id, id < m → Ren.eqAt ρ' ρ id)) a w

def rangeL (k : Nat) : Nat → List Nat → List Nat
  | 0, acc => acc
  | n + 1, acc => rangeL k n (n :: acc)

theorem rangeL_eq (k : Nat) : ∀ (n : Nat) (acc : List Nat), rangeL k n acc = List.range n ++ acc
  | 0, acc => by simp [rangeL]
  | n + 1, acc => by simp [rangeL, rangeL_eq k n, List.range_succ]

theorem todo_all (n : Nat) : todo n (Array.replicate n false) = List.range n := by
  unfold todo
  rw [List.filter_eq_self]
  intro i hi
  have : i < n := by simpa using hi
  simp [Array.getD, this]

theorem region_sound {P : Program} {E : Env} (hE : EnvOk P E) (hm : P.follows .mixedOrders = true) {F : Fr} {ds : List Deferred} {m : Nat} {sym : List Tmp} {id : Nat} {ops : Array Oper} {draw : Bool} (hchk : draw = true → chk E ops = true) {x : XS}
    {K : AExit → XS → Prop} (h : (runT P E sym x.n ops (rangeL 0 ops.size []) x.s).holds (fun s => K .normal ⟨s, x.n + E.kk * ops.size⟩)) : Tri P F ds m (.region id ops draw) x K := by
  rw [rangeL_eq, List.append_nil] at h
  obtain ⟨γ, s', h1, h2, h3⟩ := runT_sound List.nodup_range h
  intro ρ a w hs hmn hfr
  have fin : ∀ a' w' ρ', ρ.le ρ' → (∀ id, (∀ j ∈ List.range ops.size, ¬ inR (x.n + E.kk * j) E.kk id) → ρ' id = ρ id) → Sim F ds ρ' s' a' w' →
      ∃ e' y ρ'', K e' y ∧ e'.is .normal ∧ Sim F ds ρ'' y.s a' w' ∧ m ≤ y.n ∧ (∀ id, y.n ≤ id → ρ'' id = none) ∧ (∀ id, id < m → Ren.eqAt ρ'' ρ id) := by
    intro a' w' ρ' hle hne hs'
    refine ⟨.normal, _, ρ', h3, trivial, ⟨hs'.tm, hs'.h, hs'.ds⟩, by simp; omega, fun id hid => ?_, fun id hid => ?_⟩
    · simp at hid
      rw [hne id (fun j hj hin => by
        have h1 : j < ops.size := by simpa using hj
        have := inR_top hin h1
        omega)]
      exact hfr id (by omega)
    · exact ⟨hne id (fun j hj hin => by have := inR_ge hin; omega), fun b hb => (hle id b hb).2⟩
  cases draw with
  | false =>
    refine wp_region (list_sim hE h2 _ _ ρ a w List.nodup_range h1 hs (fun j _ id hin => hfr id (inR_ge hin)) fin)
  | true =>
    refine wp_region_any hm ?_
    refine any_sim hE (hchk rfl) h2 ops.size _ x.s ρ a { w with drawn := w.drawn + 1 } (by simp) (by rw [todo_all]; simp) ?_ s' (by rw [todo_all]; exact h1) (Eqv.refl _) ⟨hs.tm, hs.h.drawn _, hs.ds⟩ (fun j _ id hin => hfr id (inR_ge hin)) ?_
    · intro y o hy
      simp [Array.getD] at hy
    · rw [todo_all]; exact fin

end Go.Rq

/- Whole functions, gone through by the abstract machine. -/
namespace Go.Rq
open Go

/-- Whether a value names blocks below a number alone (one level deep). -/
def AV.lt0 (n : Nat) : AV → Bool
  | .any => true
  | .v _ => true
  | .lit _ => true
  | .u _ => true
  | .bit _ => true
  | .ptr id _ => Nat.blt id n
  | .slc id _ _ _ => Nat.blt id n
  | .own id _ _ _ => Nat.blt id n
  | .mp id => Nat.blt id n
  | .mk => true
  | .fn _ [] [] => true
  | _ => false

def allLt0 (n : Nat) : List AV → Bool
  | [] => true
  | a :: t => a.lt0 n && allLt0 n t

def AV.lt (n : Nat) : AV → Bool
  | .agg cs => allLt0 n cs
  | .tup cs => allLt0 n cs
  | .fn _ as bs => allLt0 n as && allLt0 n bs
  | .ifc _ a => a.lt0 n
  | a => a.lt0 n

/-- Slots that are not kept are forgotten. -/
def trimTm (keep : List Tmp) (n : Nat) : List AV → Nat → Option (List AV)
  | [], _ => some []
  | a :: t, i => match trimTm keep n t (i + 1) with
    | none => none
    | some l => bif memb i keep then (bif a.lt n then some (a :: l) else none) else some (.any :: l)

def allLt (n : Nat) : List AV → Bool
  | [] => true
  | a :: t => a.lt n && allLt n t

/-- The blocks that are kept, in their order. -/
def trimH (n : Nat) (h : AH) : List Nat → Option AH
  | [] => some []
  | i :: t => match AH.get h i with
    | none => none
    | some B => match trimH n h t with
      | none => none
      | some l => bif allLt n B.cs then some ((i, some B) :: l) else none

/-- A state of which less is known: some slots, some blocks; names below n alone. -/
def trim (keep : List Tmp) (ids : List Nat) (n : Nat) (x : XS) : Option XS :=
  match trimTm keep n x.s.tm 0, trimH n x.s.h ids with
  | some tm, some h => some ⟨⟨tm, h, true⟩, n⟩
  | _, _ => none

/-- A block of code that is told: what is known ahead of it (which slots and blocks, the state), and what comes of it. -/
structure BEnt where
  keep : List Tmp
  ids : List Nat
  n : Nat
  pre : XS
  post : Tree (AExit × XS)

abbrev BTab := Nat → Option BEnt

theorem Rv.lt0 {ρ : Ren} {n : Nat} {a : AV} {x : Value} (h : Rv ρ a x) (e : a.lt0 n = true) : Rv (ρ.cut n) a x := by
  cases h with
  | any x => exact .any x
  | v x => exact .v x
  | lit b => exact .lit b
  | u x => exact .u x
  | bit b => exact .bit b
  | @ptr id off b hb =>
    have hlt : id < n := Nat.le_of_ble_eq_true e
    exact .ptr (by rw [Ren.cut_lt hlt]; exact hb)
  | @slc id off len cap b hb =>
    have hlt : id < n := Nat.le_of_ble_eq_true e
    exact .slc (by rw [Ren.cut_lt hlt]; exact hb)
  | @own id es k len b cap hb h0 hc hl hm =>
    have hlt : id < n := Nat.le_of_ble_eq_true e
    exact .own (by rw [Ren.cut_lt hlt]; exact hb) h0 hc hl hm
  | @ownE id es k b j cap hb hk =>
    have hlt : id < n := Nat.le_of_ble_eq_true e
    exact .ownE (by rw [Ren.cut_lt hlt]; exact hb) hk
  | agg _ _ => simp [AV.lt0] at e
  | tup _ _ => simp [AV.lt0] at e
  | @fn f as bs xs ys hl h kl k =>
    cases as with
    | cons => simp [AV.lt0] at e
    | nil =>
      cases bs with
      | cons => simp [AV.lt0] at e
      | nil => exact .fn hl (fun i a x ha => by simp at ha) kl (fun i a x ha => by simp at ha)
  | ifc _ => simp [AV.lt0] at e
  | @mp id b hb =>
    have hlt : id < n := Nat.le_of_ble_eq_true e
    exact .mp (by rw [Ren.cut_lt hlt]; exact hb)

theorem Rvs.lt0 {ρ : Ren} {n : Nat} : ∀ {as : List AV} {xs : List Value}, Rvs ρ as xs → allLt0 n as = true → Rvs (ρ.cut n) as xs
  | [], xs, h, _ => by rw [h.unnil]; exact .nil
  | a :: t, xs, h, e => by
    obtain ⟨x, ys, rfl, hx, ht⟩ := h.uncons
    simp only [allLt0, Bool.and_eq_true] at e
    exact .cons (hx.lt0 e.1) (Rvs.lt0 ht e.2)

theorem Rv.lt {ρ : Ren} {n : Nat} {a : AV} {x : Value} (h : Rv ρ a x) (e : a.lt n = true) : Rv (ρ.cut n) a x := by
  cases a with
  | agg cs => obtain ⟨xs, rfl, hx⟩ := h.agg_iff; simpa using Rv.agg_mk (Rvs.lt0 hx e)
  | tup cs => obtain ⟨xs, rfl, hx⟩ := h.tup_iff; simpa using Rv.tup_mk (Rvs.lt0 hx e)
  | fn f as bs =>
    obtain ⟨xs, ys, rfl, hx, hy⟩ := h.fn_iff
    simp only [AV.lt, Bool.and_eq_true] at e
    simpa using Rv.fn_mk (f := f) (Rvs.lt0 hx e.1) (Rvs.lt0 hy e.2)
  | ifc t a => cases h with | ifc h => exact .ifc (h.lt0 e)
  | _ => exact h.lt0 e

theorem allLt_spec {n : Nat} : ∀ {l : List AV}, allLt n l = true → ∀ a ∈ l, a.lt n = true
  | [], _, a, h => by simp at h
  | b :: t, e, a, h => by
    simp only [allLt, Bool.and_eq_true] at e
    rcases List.mem_cons.1 h with rfl | h
    · exact e.1
    · exact allLt_spec e.2 a h

theorem trimTm_spec {ρ : Ren} {keep : List Tmp} {n : Nat} : ∀ {as : List AV} {xs : List Value} {i : Nat} {l : List AV}, Rvs ρ as xs → trimTm keep n as i = some l → Rvs (ρ.cut n) l xs
  | [], xs, i, l, h, e => by simp [trimTm] at e; subst e; rw [h.unnil]; exact .nil
  | a :: t, xs, i, l, h, e => by
    obtain ⟨x, ys, rfl, hx, ht⟩ := h.uncons
    simp only [trimTm] at e
    split at e
    · cases e
    · rename_i m hm
      have := trimTm_spec ht hm
      cases hk : memb i keep with
      | false => rw [hk] at e; simp at e; subst e; exact .cons (.any _) this
      | true =>
        rw [hk] at e
        cases hl : a.lt n with
        | false => rw [hl] at e; simp at e
        | true => rw [hl] at e; simp at e; subst e; exact .cons (hx.lt hl) this

theorem trimH_get {n : Nat} {h : AH} : ∀ {ids : List Nat} {l : AH}, trimH n h ids = some l → ∀ id B, l.get id = some B → h.get id = some B ∧ allLt n B.cs = true
  | [], l, e, id, B, g => by simp [trimH] at e; subst e; simp [AH.get] at g
  | i :: t, l, e, id, B, g => by
    simp only [trimH] at e
    split at e
    · cases e
    · rename_i C hC
      split at e
      · cases e
      · rename_i m hm
        cases hl : allLt n C.cs with
        | false => rw [hl] at e; simp at e
        | true =>
          rw [hl] at e; simp at e; subst e
          rw [AH.get_cons] at g
          split at g
          · rename_i hi; subst hi; simp at g; subst g; exact ⟨hC, hl⟩
          · exact trimH_get hm id B g

/-- What fits a state fits one of which less is known. -/
theorem trim_sim {F : Fr} {ds : List Deferred} {ρ : Ren} {keep : List Tmp} {ids : List Nat} {n m : Nat} {x y : XS} {a : Act} {w : World} (hs : Sim F ds ρ x.s a w) (ht : trim keep ids n x = some y) (hid : ∀ i ∈ ids, i < n) (hmn : m ≤ n) :
    ∃ ρ', Sim F ds ρ' y.s a w ∧ m ≤ y.n ∧ (∀ id, y.n ≤ id → ρ' id = none) ∧ (∀ id, id < m → Ren.eqAt ρ' ρ id) := by
  unfold trim at ht
  split at ht
  · rename_i tm h htm hh
    simp at ht; subst ht
    refine ⟨ρ.cut n, ⟨trimTm_spec hs.tm htm, ?_, hs.ds⟩, hmn, fun id hge => Ren.cut_ge hge, fun id hlt => ⟨Ren.cut_lt (by omega), fun _ _ => ⟨rfl, rfl⟩⟩⟩
    have key : ∀ id B, h.get id = some B → id ∈ ids := by
      intro id B hB
      clear htm
      revert h
      induction ids with
      | nil => intro h hh hB; simp [trimH] at hh; subst hh; simp [AH.get] at hB
      | cons i t ih =>
        intro h hh hB
        simp only [trimH] at hh
        split at hh
        · cases hh
        · split at hh
          · cases hh
          · rename_i C _ _ l hl
            cases hlt : allLt n C.cs with
            | false => rw [hlt] at hh; simp at hh
            | true =>
              rw [hlt] at hh; simp at hh; subst hh
              rw [AH.get_cons] at hB
              split at hB
              · rename_i hi; subst hi; simp
              · exact List.mem_cons_of_mem _ (ih (fun j hj => hid j (by simp [hj])) l hl hB)
    refine ⟨fun id B hB => ?_, fun id id' B B' b hB hB' hw hb hb' => ?_, hs.h.fr, hs.h.os, hs.h.tape, hs.h.out, hs.h.gc⟩
    · obtain ⟨hg, hl⟩ := trimH_get hh id B hB
      obtain ⟨b, o, h1, h2, h3, h6⟩ := hs.h.blk id B hg
      have hlt := hid id (key id B hB)
      exact ⟨b, _, by rw [Ren.cut_lt hlt]; exact h1, h2, h3.keep rfl (fun hh => hh) rfl rfl (fun a' ha x' hx => hx.lt (allLt_spec hl a' ha)), h6⟩
    · have h1 := (trimH_get hh id B hB).1
      have h2 := (trimH_get hh id' B' hB').1
      rw [Ren.cut_lt (hid id (key id B hB))] at hb
      rw [Ren.cut_lt (hid id' (key id' B' hB'))] at hb'
      exact hs.h.inj id id' B B' b h1 h2 hw hb hb'
  · cases ht

def allBlt (n : Nat) : List Nat → Bool
  | [] => true
  | i :: t => Nat.blt i n && allBlt n t

theorem allBlt_spec {n : Nat} : ∀ {l : List Nat}, allBlt n l = true → ∀ i ∈ l, i < n
  | [], _, i, h => by simp at h
  | j :: t, e, i, h => by
    simp only [allBlt, Bool.and_eq_true] at e
    rcases List.mem_cons.1 h with rfl | h
    · exact Nat.le_of_ble_eq_true e.1
    · exact allBlt_spec e.2 i h

/-- A loop, round by round: at most so many. -/
def iter (f : XS → Tree (AExit × XS)) : Nat → XS → Tree (AExit × XS)
  | 0, _ => .fail
  | k + 1, x => (f x).bind fun (e, y) => match e with
    | .normal => iter f k y
    | e => .leaf (e, y)

def boolOf : AV → Option Bool
  | .lit b => some b
  | .v (.bool b) => some b
  | _ => none

/-- An assignment under a bool that may be a variable: of both values one. -/
def condA (E : Env) (sym : List Tmp) (c : Operand) (a b : Code) (x : XS) : Option (AV × AV × Nat) :=
  match c with
  | .tmp ct => match inL ct E.mrg && x.s.ok with
    | false => none
    | true => match a, b with
      | .region _ ops false, .skip => match ops.toList with
        | [o] => match o.op, o.dst, o.guard with
          | .assign y, some d, none => match memb d sym with
            | true => none
            | false => match look x.s.tm c with
              | .v (.bool g) => match choose2 g (look x.s.tm y) (x.s.tm.getD d .any) with
                | some r => some (look x.s.tm y, r, d)
                | none => none
              | _ => none
          | _, _, _ => none
        | _ => none
      | _, _ => none
  | _ => none

theorem condA_spec {E : Env} {sym : List Tmp} {c : Operand} {a b : Code} {x : XS} {u r : AV} {d : Nat} (h : condA E sym c a b x = some (u, r, d)) :
    ∃ id ops o y g, a = .region id ops false ∧ b = .skip ∧ ops.toList = [o] ∧ o.op = .assign y ∧ o.dst = some d ∧ o.guard = none ∧ memb d sym = false ∧ look x.s.tm c = .v (.bool g) ∧ u = look x.s.tm y ∧
      choose2 g u (x.s.tm.getD d .any) = some r ∧ x.s.ok = true := by
  unfold condA at h
  split at h
  · split at h
    · cases h
    · rename_i hok
      simp only [Bool.and_eq_true] at hok
      split at h
      · rename_i id ops
        split at h
        · rename_i o ho
          split at h
          · rename_i y d' hop hd hg
            split at h
            · cases h
            · rename_i hm
              split at h
              · rename_i g hc
                split at h
                · rename_i r' hr
                  simp at h
                  obtain ⟨rfl, rfl, rfl⟩ := h
                  exact ⟨id, ops, o, y, g, rfl, rfl, ho, hop, hd, hg, hm, hc, rfl, hr, hok.2⟩
                · cases h
              · cases h
          · cases h
        · cases h
      · cases h
  · cases h

theorem tauOk_assign (E : Env) (i : Nat) (y : Operand) (ev : Operand → AV) : tauOk E i (.assign y) ev = true := by
  unfold tauOk
  split <;> rfl

theorem upsOk_assign (E : Env) (y : Operand) (u : AH) : upsOk E (.assign y) u = true := by
  unfold upsOk
  split <;> rfl

/-- The operation that a slot is of. -/
def writer (p : Tmp) : List Oper → Nat → Option (Nat × Op)
  | [], _ => none
  | o :: t, i => match o.dst with
    | some d => bif Nat.beq d p then some (i, o.op) else writer p t (i + 1)
    | none => writer p t (i + 1)

def blkOf : AV → Option Nat
  | .ptr id _ => some id
  | .slc id _ _ _ => some id
  | .own id _ _ _ => some id
  | _ => none

/-- The block that a pointer comes from, as it seems. -/
def orgA (kk : Nat) (ops : List Oper) (base : Nat) (lk : Operand → AV) : Nat → Operand → Option Nat
  | 0, _ => none
  | k + 1, x => match x with
    | .tmp p => match writer p ops 0 with
      | none => blkOf (lk x)
      | some (i, op) => match op with
        | .alloc _ => some (base + kk * i)
        | .box _ _ => some (base + kk * i)
        | .fieldAddr _ y _ => orgA kk ops base lk k y
        | .indexAddr _ y _ => orgA kk ops base lk k y
        | .slice _ y _ _ _ => orgA kk ops base lk k y
        | .sliceToArrayPointer _ y => orgA kk ops base lk k y
        | .move y => orgA kk ops base lk k y
        | .assign y => orgA kk ops base lk k y
        | .nilCheck y => orgA kk ops base lk k y
        | _ => none
    | _ => none

/-- What an operand holds, as it seems: through moves, addresses of fields and loads of the region. -/
def evR (P : Program) (E : Env) (ops : List Oper) (base : Nat) (lk : Operand → AV) (h : AH) : Nat → Operand → AV
  | 0, x => lk x
  | k + 1, x => match x with
    | .tmp p => match writer p ops 0 with
      | none => lk x
      | some (i, op) => match op with
        | .move y => evR P E ops base lk h k y
        | .assign y => evR P E ops base lk h k y
        | .nilCheck y => evR P E ops base lk h k y
        | .fieldAddr t y j => match effOp P E (evR P E ops base lk h k) h (base + E.kk * i) (.fieldAddr t y j) with
          | some (_, r, _) => r
          | none => lk x
        | .load t y => match effOp P E (evR P E ops base lk h k) h (base + E.kk * i) (.load t y) with
          | some (_, r, _) => r
          | none => lk x
        | _ => lk x
    | _ => lk x

/-- The row that an append is told to write: what its first argument owns; to an empty one: its own new name. -/
def orgO (id : Nat) : AV → Option Nat
  | .own i _ _ _ => some i
  | .v (.slice none _ _) => some id
  | _ => none

/-- The first that is told. -/
def firstO (f : Operand → Option Nat) : List Operand → Option Nat
  | [] => none
  | x :: t => match f x with
    | some i => some i
    | none => firstO f t
def tauOf (P : Program) (E : Env) (ops : List Oper) (base : Nat) (lk : Operand → AV) (h : AH) : List Oper → Nat → List (Option Nat)
  | [], _ => []
  | o :: t, i => (match o.op with
    | .load _ a => orgA E.kk (ops.take i) base lk 8 a
    | .store _ a _ => orgA E.kk (ops.take i) base lk 8 a
    | op => match appArg op with
      | some s => orgO (base + E.kk * i) (evR P E (ops.take i) base lk h 8 s)
      | none => match rdArgs E op with
        | some as => firstO (orgA E.kk (ops.take i) base lk 8) as
        | none => none) :: tauOf P E ops base lk h t (i + 1)

def Env.withTau (E : Env) (l : List (Option Nat)) : Env := ⟨E.pure, E.heap, E.cellEq, E.wide, E.late, E.strT, E.mrg, E.lay, some l, E.act, E.fresh, E.ro, E.kk⟩
theorem withTau_ok {P : Program} {E : Env} (h : EnvOk P E) (l : List (Option Nat)) : EnvOk P (E.withTau l) := ⟨h.eq, h.pure, h.heap, h.lay, h.act, h.kk⟩

def exec (P : Program) (E : Env) (sym : List Tmp) (tab : BTab) (lf : Nat) : Code → XS → Tree (AExit × XS)
  | .skip, x => .leaf (.normal, x)
  | .label _, x => .leaf (.normal, x)
  | .ret, x => .leaf (.ret, x)
  | .exit id, x => .leaf (.exit id, x)
  | .region _ ops d, x => bif E.late && (d && !chk E ops) then
      (bif chk (E.withTau (tauOf P E ops.toList x.n (look x.s.tm) x.s.h ops.toList 0)) ops then
        (runT P (E.withTau (tauOf P E ops.toList x.n (look x.s.tm) x.s.h ops.toList 0)) sym x.n ops (rangeL 0 ops.size []) x.s).bind fun s => .leaf (.normal, ⟨s, x.n + E.kk * ops.size⟩)
      else .fail)
    else (runT P E sym x.n ops (rangeL 0 ops.size []) x.s).bind fun s => .leaf (.normal, ⟨s, x.n + E.kk * ops.size⟩)
  | .seq a b, x => (exec P E sym tab lf a x).bind fun (e, y) => match e with
    | .normal => exec P E sym tab lf b y
    | e => .leaf (e, y)
  | .cond c a b, x => match condA E sym c a b x with
    | some (_, r, d) => .leaf (.normal, ⟨⟨x.s.tm.set d r, x.s.h, true⟩, x.n + E.kk⟩)
    | none => match boolOf (look x.s.tm c) with
      | some true => exec P E sym tab lf a x
      | some false => exec P E sym tab lf b x
      | none => .fail
  | .block id c, x => match tab id with
    | some b => match trim b.keep b.ids b.n x with
      | some y => .same y b.pre (.need (allBlt b.n b.ids) b.post)
      | none => .fail
    | none => (exec P E sym tab lf c x).bind fun (e, y) => match e with
      | .exit i => bif Nat.beq i id then .leaf (.normal, y) else .leaf (e, y)
      | e => .leaf (e, y)
  | .loop c, x => iter (exec P E sym tab lf c) lf x
  | _, _ => .fail

/-- What is told of blocks of the code is so. -/
def TabOk (P : Program) (m : Nat) (tab : BTab) : Code → Prop
  | .block id c => match tab id with
    | some b => m ≤ b.n ∧ ∀ F ds K, b.post.holds (fun r => K r.1 r.2) → Tri P F ds m (.block id c) b.pre K
    | none => TabOk P m tab c
  | .seq a b => TabOk P m tab a ∧ TabOk P m tab b
  | .cond _ a b => TabOk P m tab a ∧ TabOk P m tab b
  | .loop c => TabOk P m tab c
  | _ => True

/-- All regions that draw an order come to the same in whatever order. -/
def codeOk (E : Env) : Code → Bool
  | .region _ ops d => E.late || (!d || chk E ops)
  | .seq a b => codeOk E a && codeOk E b
  | .cond _ a b => codeOk E a && codeOk E b
  | .block _ c => codeOk E c
  | .loop c => codeOk E c
  | _ => true

theorem Tri.mono {P : Program} {F : Fr} {ds : List Deferred} {m : Nat} {c : Code} {x : XS} {K L : AExit → XS → Prop} (h : ∀ e y, K e y → L e y) (t : Tri P F ds m c x K) : Tri P F ds m c x L :=
  fun ρ a w hs hm hf => wp_mono (t ρ a w hs hm hf) fun _ _ _ ⟨e', y, ρ', hk, r⟩ => ⟨e', y, ρ', h _ _ hk, r⟩

theorem Tri.seq {P : Program} {F : Fr} {ds : List Deferred} {m : Nat} {a b : Code} {x : XS} {K L : AExit → XS → Prop} (h : Tri P F ds m a x K)
    (hb : ∀ y, K .normal y → Tri P F ds m b y L) (ho : ∀ e y, e ≠ .normal → K e y → L e y) : Tri P F ds m (.seq a b) x L := by
  intro ρ ac w hs hm hf
  refine wp_seq (wp_mono (h ρ ac w hs hm hf) ?_)
  rintro e a' w' ⟨e', y, ρ', hk, he, hs', hm', hf', hp⟩
  cases e' with
  | normal =>
    cases e <;> simp only [AExit.is] at he
    refine wp_mono (hb y hk ρ' a' w' hs' hm' hf') ?_
    rintro e2 a2 w2 ⟨e2', z, ρ2, hk2, he2, hs2, hm2, hf2, hp2⟩
    exact ⟨e2', z, ρ2, hk2, he2, hs2, hm2, hf2, fun id hid => (hp2 id hid).trans (hp id hid)⟩
  | exit i =>
    cases e <;> simp only [AExit.is] at he
    exact ⟨.exit i, y, ρ', ho _ _ (by simp) hk, he, hs', hm', hf', hp⟩
  | ret =>
    cases e <;> simp only [AExit.is] at he
    exact ⟨.ret, y, ρ', ho _ _ (by simp) hk, trivial, hs', hm', hf', hp⟩

theorem Tri.block {P : Program} {F : Fr} {ds : List Deferred} {m id : Nat} {c : Code} {x : XS} {L : AExit → XS → Prop}
    (h : Tri P F ds m c x (fun e y => match e with
      | .exit i => if i = id then L .normal y else L (.exit i) y
      | e => L e y)) : Tri P F ds m (.block id c) x L := by
  intro ρ ac w hs hm hf
  refine wp_block (wp_mono (h ρ ac w hs hm hf) ?_)
  rintro e a' w' ⟨e', y, ρ', hk, he, hs', hm', hf', hp⟩
  cases e' with
  | normal =>
    cases e <;> simp only [AExit.is] at he
    exact ⟨.normal, y, ρ', hk, trivial, hs', hm', hf', hp⟩
  | exit i =>
    cases e <;> simp only [AExit.is] at he
    subst he
    simp only at hk
    simp only [Exit.inBlock]
    split at hk
    · rename_i hid
      rw [if_pos hid]
      exact ⟨.normal, y, ρ', hk, trivial, hs', hm', hf', hp⟩
    · rename_i hid
      rw [if_neg hid]
      exact ⟨.exit i, y, ρ', hk, rfl, hs', hm', hf', hp⟩
  | ret =>
    cases e <;> simp only [AExit.is] at he
    exact ⟨.ret, y, ρ', hk, trivial, hs', hm', hf', hp⟩

/-- A loop: what holds ahead of each round, and a measure. -/
theorem Tri.loop {P : Program} {F : Fr} {ds : List Deferred} {m : Nat} {c : Code} {x : XS} {L : AExit → XS → Prop} {α : Type} (I : α → XS) (R : α → Prop) (μ : α → Nat) (i0 : α) (h0 : I i0 = x) (hR : R i0)
    (round : ∀ i, R i → Tri P F ds m c (I i) (fun e y => match e with
      | .normal => ∃ j, R j ∧ μ j < μ i ∧ y = I j
      | e => L e y)) : Tri P F ds m (.loop c) x L := by
  intro ρ0 a0 w0 hs0 hm0 hf0
  subst h0
  let J : Act → World → Nat → Prop := fun a w k => ∃ i ρ, R i ∧ μ i = k ∧ Sim F ds ρ (I i).s a w ∧ m ≤ (I i).n ∧ (∀ id, (I i).n ≤ id → ρ id = none) ∧ (∀ id, id < m → Ren.eqAt ρ ρ0 id)
  have hex : ∀ a w, (∃ k, J a w k) → ∃ k, J a w k ∧ ∀ k', J a w k' → k ≤ k' := by
    intro a w ⟨k, hk⟩
    induction k using Nat.strongRecOn with
    | _ k ih =>
      by_cases hh : ∃ k', k' < k ∧ J a w k'
      · obtain ⟨k', hlt, hk'⟩ := hh; exact ih k' hlt hk'
      · exact ⟨k, hk, fun k' hk' => Nat.le_of_not_lt fun hlt => hh ⟨k', hlt, hk'⟩⟩
  refine wp_loop (fun a w => ∃ k, J a w k) (fun a w => (Classical.epsilon fun k => J a w k ∧ ∀ k', J a w k' → k ≤ k')) ⟨μ i0, i0, ρ0, hR, rfl, hs0, hm0, hf0, fun _ _ => Ren.eqAt.refl _ _⟩ ?_
  intro a w hJ
  have hmin := Classical.epsilon_spec (hex a w hJ)
  obtain ⟨⟨i, ρ, hRi, hμ, hs, hm, hf, hp⟩, hle⟩ := hmin
  refine wp_mono (round i hRi ρ a w hs hm hf) ?_
  rintro e a' w' ⟨e', y, ρ', hk, he, hs', hm', hf', hp'⟩
  cases e' with
  | normal =>
    cases e <;> simp only [AExit.is] at he
    obtain ⟨j, hRj, hlt, rfl⟩ := hk
    have hJ' : J a' w' (μ j) := ⟨j, ρ', hRj, rfl, hs', hm', hf', fun id hid => (hp' id hid).trans (hp id hid)⟩
    refine ⟨⟨_, hJ'⟩, ?_⟩
    have hmin' := Classical.epsilon_spec (hex a' w' ⟨_, hJ'⟩)
    have := hmin'.2 _ hJ'
    omega
  | exit i =>
    cases e <;> simp only [AExit.is] at he
    exact ⟨.exit i, y, ρ', hk, he, hs', hm', hf', fun id hid => (hp' id hid).trans (hp id hid)⟩
  | ret =>
    cases e <;> simp only [AExit.is] at he
    exact ⟨.ret, y, ρ', hk, trivial, hs', hm', hf', fun id hid => (hp' id hid).trans (hp id hid)⟩

theorem Tri.leaf {P : Program} {F : Fr} {ds : List Deferred} {m : Nat} {c : Code} {x : XS} {K : AExit → XS → Prop} {e : Exit} {e' : AExit} (he : e'.is e) (hk : K e' x)
    (hw : ∀ (Q : Exit → Act → World → Prop) a w, Q e a w → c.wp P Q a w) : Tri P F ds m c x K :=
  fun ρ a w hs hm hf => hw _ a w ⟨e', x, ρ, hk, he, hs, hm, hf, fun _ _ => Ren.eqAt.refl _ _⟩

theorem boolOf_ok {ρ : Ren} {a : AV} {x : Value} {b : Bool} (h : Rv ρ a x) (e : boolOf a = some b) : x = .bool b := by
  unfold boolOf at e
  split at e
  · simp at e; subst e; cases h; rfl
  · simp at e; subst e; cases h; rfl
  · cases e

theorem Tri.of_holds {P : Program} {F : Fr} {ds : List Deferred} {m : Nat} {c : Code} {x : XS} {K : AExit → XS → Prop} {α : Type} {J : α → Prop} : ∀ {t : Tree α}, t.holds J → (∀ a, J a → Tri P F ds m c x K) → Tri P F ds m c x K
  | .leaf a, h, k => k a h
  | .br true t _, h, k => Tri.of_holds (t := t) (h.1 rfl) k
  | .br false _ f, h, k => Tri.of_holds (t := f) (h.2 rfl) k
  | .need _ t, h, k => Tri.of_holds (t := t) h.2 k
  | .same _ _ t, h, k => Tri.of_holds (t := t) h.2 k
  | .fail, h, _ => h.elim

theorem exec_sound {P : Program} {E : Env} (hE : EnvOk P E) (hm : P.follows .mixedOrders = true) {F : Fr} {ds : List Deferred} {m : Nat} {sym : List Tmp} {tab : BTab} {lf : Nat} :
    ∀ (c : Code) (x : XS) (K : AExit → XS → Prop), codeOk E c = true → TabOk P m tab c → (exec P E sym tab lf c x).holds (fun r => K r.1 r.2) → Tri P F ds m c x K := by
  intro c
  induction c with
  | skip => intro x K _ _ h; exact Tri.leaf (e := .normal) (e' := .normal) trivial h fun Q a w hq => wp_skip hq
  | label l => intro x K _ _ h; exact Tri.leaf (e := .normal) (e' := .normal) trivial h fun Q a w hq => wp_label hq
  | ret => intro x K _ _ h; exact Tri.leaf (e := .ret) (e' := .ret) trivial h fun Q a w hq => wp_ret hq
  | exit id => intro x K _ _ h; exact Tri.leaf (e := .exit id) (e' := .exit id) rfl h fun Q a w hq => wp_exit hq
  | region id ops d =>
    intro x K hk _ h
    simp only [exec] at h
    cases hl : (E.late && (d && !chk E ops)) with
    | true =>
      rw [hl, cond_true] at h
      cases hc : chk (E.withTau (tauOf P E ops.toList x.n (look x.s.tm) x.s.h ops.toList 0)) ops with
      | false => rw [hc] at h; exact h.elim
      | true =>
        rw [hc, cond_true] at h
        exact region_sound (withTau_ok hE _) hm (fun _ => hc) (Tree.holds_bind h)
    | false =>
      rw [hl, cond_false] at h
      refine region_sound hE hm ?_ (Tree.holds_bind h)
      intro hd; subst hd
      cases hc : chk E ops with
      | true => rfl
      | false =>
        simp [codeOk, hc] at hk hl
        rw [hk] at hl; cases hl
  | seq a b iha ihb =>
    intro x K hk ht h
    simp only [exec] at h
    simp only [codeOk, Bool.and_eq_true] at hk
    refine Tri.seq (K := fun e y => match e with
      | .normal => (exec P E sym tab lf b y).holds (fun r => K r.1 r.2)
      | e => K e y) (iha x _ hk.1 ht.1 ?_) (fun y hy => ihb y K hk.2 ht.2 hy) (fun e y hne hy => by cases e <;> first | exact absurd rfl hne | exact hy)
    refine Tree.holds_mono ?_ (Tree.holds_bind h)
    rintro ⟨e, y⟩ hy
    cases e <;> exact hy
  | cond c a b iha ihb =>
    intro x K hk ht h
    simp only [exec] at h
    simp only [codeOk, Bool.and_eq_true] at hk
    intro ρ ac w hs hmn hf
    split at h
    · rename_i u r d hq
      obtain ⟨id, ops, o, y, g, rfl, rfl, ho, hop, hd, hg, hm', hc, rfl, hr, hok⟩ := condA_spec hq
      have hcv := look_ok hs.tm c
      rw [hc] at hcv
      have hcv : ac.eval c = .bool g := by generalize ac.eval c = v at hcv; cases hcv; rfl
      have hsz : ops.size = 1 := by rw [← Array.length_toList, ho]; rfl
      have weak : ∀ {ρ' : Ren} {a' : Act} {w' : World} {t0 : List AV}, Sim F ds ρ' ⟨t0, x.s.h, true⟩ a' w' → (∀ (i : Nat) (q : AV) (v : Value), (x.s.tm.set d r)[i]? = some q → a'.tmps.toList[i]? = some v → Rv ρ' q v) → (x.s.tm.set d r).length = t0.length → Sim F ds ρ' ⟨x.s.tm.set d r, x.s.h, true⟩ a' w' :=
        fun hs1 hrel hlen => ⟨⟨hlen.trans hs1.tm.1, hrel⟩, hs1.h, hs1.ds⟩
      cases g with
      | true =>
        refine wp_cond_true hcv ?_
        have hrun : (exec P E sym tab lf (.region id ops false) x).holds (fun q : AExit × XS => q.1 = .normal ∧ q.2 = ⟨⟨x.s.tm.set d (look x.s.tm y), x.s.h, true⟩, x.n + E.kk⟩) := by
          have heff : eff P E (fun _ => none) x.n ops 0 x.s.tm x.s.h = some ⟨true, some d, look x.s.tm y, []⟩ := by
            unfold eff wantedA effT
            simp only [ho, List.getElem?_cons_zero, hg, hop, effOp, opPure, hd, tauOk_assign, upsOk_assign]
          have hp : x.s.put ⟨true, some d, look x.s.tm y, []⟩ = ⟨x.s.tm.set d (look x.s.tm y), x.s.h, true⟩ := by
            simp [St.put, putA, hok]
          have hrt : runT P E sym x.n ops (rangeL 0 ops.size []) x.s = .need true (.leaf ⟨x.s.tm.set d (look x.s.tm y), x.s.h, true⟩) := by
            rw [hsz]
            show runT P E sym x.n ops [0] x.s = _
            simp only [runT, heff]
            split
            · rename_i d' g' hd' hg'
              simp at hd'; subst hd'
              rw [hm', cond_false, hp]
            · rw [hp]
          simp only [exec, Bool.false_and, Bool.and_false, cond_false, hrt]
          exact ⟨rfl, rfl, by rw [hsz, Nat.mul_one]⟩
        refine wp_mono (iha x (fun e z => e = .normal ∧ z = ⟨⟨x.s.tm.set d (look x.s.tm y), x.s.h, true⟩, x.n + E.kk⟩) hk.1 ht.1 hrun ρ ac w hs hmn hf) ?_
        rintro e a' w' ⟨e', z, ρ', ⟨rfl, rfl⟩, he, hs', hm2, hf2, hp2⟩
        refine ⟨.normal, _, ρ', h, he, weak hs' (fun i q v hi hv => ?_) (by simp), hm2, hf2, hp2⟩
        rw [List.getElem?_set] at hi
        by_cases hdi : d = i
        · subst hdi
          rw [if_pos rfl] at hi
          split at hi
          · rename_i hlt
            simp at hi; subst hi
            exact choose2_t (hs'.tm.2 d (look x.s.tm y) v (by simp [hlt]) hv) hr
          · cases hi
        · rw [if_neg hdi] at hi
          exact hs'.tm.2 i q v (by rw [List.getElem?_set, if_neg hdi]; exact hi) hv
      | false =>
        refine wp_cond_false hcv ?_
        refine wp_skip ?_
        refine ⟨.normal, _, ρ, h, trivial, weak (t0 := x.s.tm) ⟨hs.tm, hs.h, hs.ds⟩ (fun i q v hi hv => ?_) (by simp), by simp; omega, fun id hid => hf id (by simp at hid; omega), fun _ _ => Ren.eqAt.refl _ _⟩
        rw [List.getElem?_set] at hi
        by_cases hdi : d = i
        · subst hdi
          rw [if_pos rfl] at hi
          split at hi
          · rename_i hlt
            simp at hi; subst hi
            have e1 : x.s.tm.getD d .any = x.s.tm[d] := by simp [List.getD, hlt]
            rw [e1] at hr
            exact choose2_f (hs.tm.2 d x.s.tm[d] v (by simp [hlt]) hv) hr
          · cases hi
        · rw [if_neg hdi] at hi
          exact hs.tm.2 i q v hi hv
    split at h
    · rename_i hb
      exact wp_cond_true (boolOf_ok (look_ok hs.tm c) hb) (iha x K hk.1 ht.1 h ρ ac w hs hmn hf)
    · rename_i hb
      exact wp_cond_false (boolOf_ok (look_ok hs.tm c) hb) (ihb x K hk.2 ht.2 h ρ ac w hs hmn hf)
    · exact h.elim
  | block id c ih =>
    intro x K hk ht h
    simp only [exec] at h
    simp only [codeOk] at hk
    simp only [TabOk] at ht
    split at h
    · rename_i b hg
      rw [hg] at ht
      split at h
      · rename_i y hy
        obtain ⟨rfl, hn, hpost⟩ := h
        have hids := allBlt_spec hn
        intro ρ ac w hs hmn hf
        obtain ⟨ρ1, hs1, hm1, hf1, hp1⟩ := trim_sim (m := m) hs hy hids ht.1
        refine wp_mono (ht.2 F ds K hpost ρ1 ac w hs1 hm1 hf1) ?_
        rintro e a' w' ⟨e', z, ρ2, hk2, he2, hs2, hm2, hf2, hp2⟩
        exact ⟨e', z, ρ2, hk2, he2, hs2, hm2, hf2, fun id hlt => (hp2 id hlt).trans (hp1 id hlt)⟩
      · exact h.elim
    · rename_i hg
      rw [hg] at ht
      refine Tri.block (ih x _ hk ht ?_)
      refine Tree.holds_mono ?_ (Tree.holds_bind h)
      rintro ⟨e, y⟩ hy
      cases e with
      | normal => exact hy
      | exit i =>
        simp only at hy ⊢
        cases hb : Nat.beq i id with
        | true =>
          rw [hb] at hy
          rw [if_pos (Nat.eq_of_beq_eq_true hb)]
          exact hy
        | false =>
          rw [hb] at hy
          rw [if_neg (Nat.ne_of_beq_eq_false hb)]
          exact hy
      | ret => exact hy
  | loop c ih =>
    intro x K hk ht h
    simp only [exec] at h
    simp only [codeOk] at hk
    refine Tri.loop (α := Nat × XS) (fun p => p.2) (fun p => (iter (exec P E sym tab lf c) p.1 p.2).holds (fun r => K r.1 r.2)) (fun p => p.1) (lf, x) rfl h ?_
    rintro ⟨k, y⟩ hR
    cases k with
    | zero => exact hR.elim
    | succ k =>
      simp only [iter] at hR
      refine ih y _ hk ht ?_
      refine Tree.holds_mono ?_ (Tree.holds_bind hR)
      rintro ⟨e, z⟩ hz
      cases e with
      | normal => exact ⟨(k, z), hz, by simp, rfl⟩
      | exit i => exact hz
      | ret => exact hz
  | _ => intro x K _ _ h; exact h.elim

end Go.Rq

/- Contracts of functions. -/
namespace Go.Rq
open Go

def resA (P : Program) (tm : List AV) (h : AH) : ResultVar → Option AV
  | .tmp t => tm[t]?
  | .cell a t => match tm.getD a .any with
    | .ptr id off => match h.getC id with
      | some B => loadA P t B.cs off
      | none => none
    | _ => none

def resAll (P : Program) (tm : List AV) (h : AH) : List ResultVar → Option (List AV)
  | [] => some []
  | r :: t => match resA P tm h r with
    | none => none
    | some a => match resAll P tm h t with
      | none => none
      | some l => some (a :: l)

def one1 : List AV → AV
  | [a] => a
  | l => .tup l

def undefs : Nat → List AV
  | 0 => []
  | n + 1 => .v undef :: undefs n

theorem undefs_eq {ρ : Ren} (n : Nat) : Rvs ρ (undefs n) (List.replicate n undef) := by
  induction n with
  | zero => exact .nil
  | succ n ih => rw [List.replicate_succ]; exact .cons (.v _) ih

/-- A function's body, gone through: what it hands back, and the heap behind. -/
def afun (P : Program) (E : Env) (sym : List Tmp) (tab : BTab) (lf : Nat) (f : FuncId) (args : List AV) (h : AH) (n : Nat) : Tree (AV × AH) :=
  match P.funcs.toList[f]? with
  | none => .fail
  | some fn => match fn.body with
    | none => .fail
    | some c => (exec P E sym tab lf c ⟨⟨args ++ undefs (fn.ntmps - args.length), h, true⟩, n⟩).bind fun (e, y) => match e with
      | .exit _ => .fail
      | _ => match resAll P y.s.tm y.s.h fn.results.toList with
        | none => .fail
        | some l => .leaf (one1 l, y.s.h)

theorem resA_run {P : Program} {F : Fr} {ds : List Deferred} {ρ : Ren} {s : St} {a : Act} {w : World} (hs : Sim F ds ρ s a w) {r : ResultVar} {x : AV} (h : resA P s.tm s.h r = some x) :
    ∃ v, (match r with | .tmp t => pure (a.tmps.getD t undef) | .cell c t => do loadVar t (← asAddr (a.tmps.getD c undef)) : Sem Value).run P w = .ok v w ∧ Rv ρ x v := by
  cases r with
  | tmp t =>
    simp only [resA] at h
    obtain ⟨v, hv, hr⟩ := hs.tm.getD h
    have hv' : a.tmps[t]? = some v := by simpa using hv
    exact ⟨v, by simp [hv'], hr⟩
  | cell c t =>
    simp only [resA] at h
    split at h
    · rename_i id off hc
      split at h
      · rename_i B hB
        obtain ⟨b, o, h1, h2, ⟨xs, fr, rfl, h3, h4, h5⟩, h6⟩ := hs.h.blkC hB
        have := look_ok hs.tm (.tmp c)
        simp only [look, Act.eval] at this
        rw [hc] at this
        generalize hv : a.tmps.getD c undef = v at this
        cases this with
        | ptr hb =>
          rw [h1] at hb; simp at hb; subst hb
          obtain ⟨u, h7, h8⟩ := loadA_run h h2 h4 h5
          refine ⟨u, ?_, h8⟩
          simp only [hv, asAddr, Sem.run_bind, Sem.run_pure, Result.andThen_ok, h7]
      · cases h
    · cases h

theorem results_run {P : Program} {F : Fr} {ds : List Deferred} {ρ : Ren} {s : St} {a : Act} {w : World} (hs : Sim F ds ρ s a w) : ∀ {rs : List ResultVar} {l : List AV}, resAll P s.tm s.h rs = some l →
    ∃ vs : List Value, (rs.mapM (fun (r : ResultVar) => (match r with | .tmp t => pure (a.tmps.getD t undef) | .cell c t => do loadVar t (← asAddr (a.tmps.getD c undef)) : Sem Value))).run P w = .ok vs w ∧ Rvs ρ l vs
  | [], l, h => by simp [resAll] at h; subst h; exact ⟨[], by simp, .nil⟩
  | r :: t, l, h => by
    simp only [resAll] at h
    split at h
    · cases h
    · rename_i x hx
      split at h
      · cases h
      · rename_i m hm
        simp at h; subst h
        obtain ⟨v, h1, h2⟩ := resA_run hs hx
        obtain ⟨vs, h3, h4⟩ := results_run hs hm
        refine ⟨v :: vs, ?_, .cons h2 h4⟩
        rw [List.mapM_cons]
        simp only [Sem.run_bind, h1, h3, Result.andThen_ok, Sem.run_pure]

theorem one1_ok {ρ : Ren} {l : List AV} {vs : List Value} (h : Rvs ρ l vs) : Rv ρ (one1 l) (if h : vs.toArray.size = 1 then vs.toArray[0] else .tuple vs.toArray) := by
  cases l with
  | nil => rw [h.unnil]; exact .tup_mk .nil
  | cons a t =>
    obtain ⟨x, ys, rfl, hx, ht⟩ := h.uncons
    cases t with
    | nil => rw [ht.unnil]; exact hx
    | cons b u =>
      obtain ⟨y, zs, rfl, hy, hu⟩ := ht.uncons
      rw [dif_neg (by simp)]
      exact .tup_mk (.cons hx (.cons hy hu))

/-- What a function comes to, from whatever fits. -/
theorem afun_calls {P : Program} {E : Env} (hE : EnvOk P E) (hm : P.follows .mixedOrders = true) {sym : List Tmp} {tab : BTab} {lf f : Nat} {fn : Func} {c : Code} (hf : P.funcs.toList[f]? = some fn) (hb : fn.body = some c)
    (hok : codeOk E c = true) {args : List AV} {h : AH} {n : Nat} (htab : TabOk P n tab c) {K : AV → AH → Prop} (ht : (afun P E sym tab lf f args h n).holds (fun r => K r.1 r.2))
    {F : Fr} {ρ : Ren} {xs : List Value} {w : World} (hx : Rvs ρ args xs) (hw : RW F ρ h w) (hn : ∀ id, n ≤ id → ρ id = none) :
    Calls P f xs.toArray w (fun e w' => ∃ v r h' ρ', e = .returned v ∧ K r h' ∧ Rv ρ' r v ∧ RW F ρ' h' w' ∧ (∀ id, id < n → Ren.eqAt ρ' ρ id)) := by
  have hf' : P.funcs[f]? = some fn := by simpa using hf
  unfold afun at ht
  rw [hf] at ht
  simp only [hb] at ht
  refine calls_of_wp hf' hb ?_
  have hlen := hx.1
  have hs : Sim F [] ρ ⟨args ++ undefs (fn.ntmps - args.length), h, true⟩ { tmps := xs.toArray ++ Array.replicate (fn.ntmps - xs.toArray.size) undef, defers := [] } w := by
    refine ⟨?_, hw, rfl⟩
    have := hx.append (undefs_eq (ρ := ρ) (fn.ntmps - args.length))
    simpa [hlen] using this
  have main := exec_sound hE hm (F := F) (ds := []) (m := n) c ⟨⟨args ++ undefs (fn.ntmps - args.length), h, true⟩, n⟩
    (fun e y => Tree.holds (fun r : AV × AH => K r.1 r.2) (match e with
        | AExit.exit _ => Tree.fail
        | _ => match resAll P y.s.tm y.s.h fn.results.toList with
          | none => Tree.fail
          | some l => Tree.leaf (one1 l, y.s.h))) hok htab (Tree.holds_mono (fun _ k => k) (Tree.holds_bind ht)) ρ _ w hs (Nat.le_refl _) hn
  refine wp_mono main ?_
  rintro e a' w' ⟨e', y, ρ', hk, he, hs', hmy, hfr', hp⟩
  have fin : e = .normal ∨ e = .ret → Tree.holds (fun r : AV × AH => K r.1 r.2) (match resAll P y.s.tm y.s.h fn.results.toList with
        | none => Tree.fail
        | some l => Tree.leaf (one1 l, y.s.h)) → bodyPost P fn (fun e w' => ∃ v r h' ρ', e = .returned v ∧ K r h' ∧ Rv ρ' r v ∧ RW F ρ' h' w' ∧ (∀ id, id < n → Ren.eqAt ρ' ρ id)) e a' w' := by
    intro hcase hh
    split at hh
    · exact hh.elim
    · rename_i l hl
      obtain ⟨vs, h1, h2⟩ := results_run hs' hl
      have hres : (results fn a'.tmps).run P w' = .ok (if h : vs.toArray.size = 1 then vs.toArray[0] else .tuple vs.toArray) w' := by
        unfold results
        simp only [Sem.run_bind]
        rw [Array.mapM_eq_mapM_toList]
        simp only [Sem.run_map]
        have e1 : (fn.results.toList.mapM (fun (x : ResultVar) => (match x with
            | .tmp t => pure (a'.tmps.getD t undef)
            | .cell a t => do loadVar t (← asAddr (a'.tmps.getD a undef)) : Sem Value))).run P w' = .ok vs w' := h1
        erw [e1]
        simp only [Result.andThen_ok, Sem.run_pure]
      have post : a'.defers = [] ∧ ∃ v, (results fn a'.tmps).run P w' = .ok v w' ∧ (∃ v' r h' ρ', Ending.returned v = .returned v' ∧ K r h' ∧ Rv ρ' r v' ∧ RW F ρ' h' w' ∧ (∀ id, id < n → Ren.eqAt ρ' ρ id)) :=
        ⟨hs'.ds, _, hres, _, _, _, ρ', rfl, hh, one1_ok h2, hs'.h, hp⟩
      rcases hcase with rfl | rfl
      · exact post
      · exact post
  cases e' with
  | normal =>
    cases e <;> simp only [AExit.is] at he
    exact fin (.inl rfl) hk
  | exit i => exact hk.elim
  | ret =>
    cases e <;> simp only [AExit.is] at he
    exact fin (.inr rfl) hk

def flatL : List AV → Option (List Value)
  | [] => some []
  | a :: t => match flat a with
    | none => none
    | some x => match flatL t with
      | none => none
      | some l => some (x :: l)

theorem Rvs.flatL_eq {ρ : Ren} : ∀ {as : List AV} {xs l : List Value}, Rvs ρ as xs → flatL as = some l → xs = l
  | [], xs, l, h, e => by simp [flatL] at e; subst e; exact h.unnil
  | a :: t, xs, l, h, e => by
    obtain ⟨x, ys, rfl, hx, ht⟩ := h.uncons
    simp only [flatL] at e
    split at e
    · cases e
    · rename_i y hy
      split at e
      · cases e
      · rename_i m hm
        simp at e; subst e
        rw [hx.flat_eq hy, Rvs.flatL_eq ht hm]

theorem Rvs.of_flatL {ρ : Ren} : ∀ {as : List AV} {l : List Value}, flatL as = some l → Rvs ρ as l
  | [], l, e => by simp [flatL] at e; subst e; exact .nil
  | a :: t, l, e => by
    simp only [flatL] at e
    split at e
    · cases e
    · rename_i y hy
      split at e
      · cases e
      · rename_i m hm
        simp at e; subst e
        exact .cons (.of_flat hy) (Rvs.of_flatL hm)

def frameOf (w : World) : Fr := ⟨fun b => w.heap[b]?, w.os, w.tape, w.output⟩

theorem RW.init (w : World) (ρ : Ren) (hg : GW w) : RW (frameOf w) ρ [] w :=
  ⟨fun id B h => by simp [AH.get] at h, fun id id' B B' b h => by simp [AH.get] at h, fun _ _ h => h, rfl, rfl, rfl, hg⟩

theorem RW.to_below {w w' : World} {ρ : Ren} {h : AH} (r : RW (frameOf w) ρ h w') : RowKit.Below w.heap.size w w' := by
  refine ⟨r.os, r.tape, r.out, ?_, fun k hk => ?_⟩
  · cases hs : w.heap.size with
    | zero => omega
    | succ n =>
      have hlt : n < w.heap.size := by omega
      have := r.fr n w.heap[n] (by simp [frameOf, hlt])
      have := (Array.getElem?_eq_some_iff.1 this).1
      omega
  · have hg : w.heap[k]? = some w.heap[k] := Array.getElem?_eq_getElem hk
    rw [hg]
    exact r.fr k w.heap[k] hg

/-- A function of exact values, whose answer is exact: its contract. -/
theorem pure_of_afun {P : Program} {E : Env} (hE : EnvOk P E) (hm : P.follows .mixedOrders = true) {sym : List Tmp} {tab : BTab} {lf f : Nat} {fn : Func} {c : Code} (hf : P.funcs.toList[f]? = some fn) (hb : fn.body = some c)
    (hok : codeOk E c = true) (htab : TabOk P 0 tab c) {g : List AV → Option (Bool × AV)}
    (h : ∀ as r, g as = some (true, r) → (∃ l, flatL as = some l) ∧ (∃ y, flat r = some y ∧ (afun P E sym tab lf f as [] 0).holds (fun q => flat q.1 = some y))) : PureOk P f g := by
  intro ρ as xs r hg hx w hgw
  obtain ⟨⟨l, hl⟩, y, hy, ht⟩ := h as r hg
  have hxl := hx.flatL_eq hl
  subst hxl
  have := afun_calls hE hm hf hb hok htab (K := fun q _ => flat q = some y) (Tree.holds_mono (fun _ k => k) ht) (F := frameOf w) (ρ := Ren.empty) (xs := xs) (w := w) (Rvs.of_flatL hl) (RW.init w _ hgw) (fun _ _ => rfl)
  refine Calls.mono this ?_
  rintro e w' ⟨v, q, h', ρ', rfl, hk, hrv, hrw, _⟩
  have := hrv.flat_eq hk
  subst this
  exact ⟨v, rfl, .of_flat hy, hrw.to_below⟩

/-! Tables of functions. -/

abbrev PureTab := List (FuncId × (List AV → Option (Bool × AV)))

def lookP : PureTab → FuncId → Option (List AV → Option (Bool × AV))
  | [], _ => none
  | (f, g) :: t, k => bif Nat.beq f k then some g else lookP t k

def lookE : List (TypeId × List Nat) → TypeId → Option (List Nat)
  | [], _ => none
  | (f, g) :: t, k => bif Nat.beq f k then some g else lookE t k

def envOf (eqs : List (TypeId × List Nat)) (ps : PureTab) : Env := ⟨lookP ps, fun _ => none, lookE eqs, false, false, [], [], fun _ => none, none, fun _ => none, false, [], 1⟩

/-- Likewise, where places may be variables. -/
def envW (eqs : List (TypeId × List Nat)) (ps : PureTab) : Env := ⟨lookP ps, fun _ => none, lookE eqs, true, false, [], [], fun _ => none, none, fun _ => none, false, [], 1⟩

theorem lookP_mem : ∀ {ps : PureTab} {f : FuncId} {g}, lookP ps f = some g → (f, g) ∈ ps
  | [], f, g, h => by simp [lookP] at h
  | (k, q) :: t, f, g, h => by
    simp only [lookP] at h
    cases hb : Nat.beq k f with
    | true => rw [hb] at h; simp at h; subst h; rw [Nat.eq_of_beq_eq_true hb]; simp
    | false => rw [hb] at h; exact List.mem_cons_of_mem _ (lookP_mem h)

theorem lookE_mem : ∀ {ps : List (TypeId × List Nat)} {f : TypeId} {g}, lookE ps f = some g → (f, g) ∈ ps
  | [], f, g, h => by simp [lookE] at h
  | (k, q) :: t, f, g, h => by
    simp only [lookE] at h
    cases hb : Nat.beq k f with
    | true => rw [hb] at h; simp at h; subst h; rw [Nat.eq_of_beq_eq_true hb]; simp
    | false => rw [hb] at h; exact List.mem_cons_of_mem _ (lookE_mem h)

def EqsOk (P : Program) (eqs : List (TypeId × List Nat)) : Prop := ∀ p ∈ eqs, plan P 100 p.1 = some p.2 ∧ (match P.underlying p.1 with | some u => isRow u | none => false) = true ∧ P.eqGuardType P.depth p.1 = false

def TabPOk (P : Program) (ps : PureTab) : Prop := ∀ p ∈ ps, CallOk P p.1 p.2

theorem TabPOk.nil {P : Program} : TabPOk P [] := fun p h => by simp at h
theorem TabPOk.cons {P : Program} {f : FuncId} {g : List AV → Option (Bool × AV)} {t : PureTab} (h : CallOk P f g) (r : TabPOk P t) : TabPOk P ((f, g) :: t) := by
  intro p hp
  rcases List.mem_cons.1 hp with rfl | hp
  · exact h
  · exact r p hp

theorem envOf_ok {P : Program} {eqs : List (TypeId × List Nat)} {ps : PureTab} (he : EqsOk P eqs) (hp : TabPOk P ps) : EnvOk P (envOf eqs ps) :=
  ⟨fun _ _ h => he _ (lookE_mem h), fun _ _ h => hp _ (lookP_mem h), fun _ _ h => by simp [envOf] at h, fun _ _ h => by simp [envOf] at h, fun _ _ h => by simp [envOf] at h, Nat.le_refl 1⟩

theorem envW_ok {P : Program} {eqs : List (TypeId × List Nat)} {ps : PureTab} (he : EqsOk P eqs) (hp : TabPOk P ps) : EnvOk P (envW eqs ps) :=
  ⟨fun _ _ h => he _ (lookE_mem h), fun _ _ h => hp _ (lookP_mem h), fun _ _ h => by simp [envW] at h, fun _ _ h => by simp [envW] at h, fun _ _ h => by simp [envW] at h, Nat.le_refl 1⟩

theorem EqsOk.nil {P : Program} : EqsOk P [] := fun p h => by simp at h
theorem EqsOk.cons {P : Program} {t : TypeId} {k : List Nat} {l : List (TypeId × List Nat)} (h1 : plan P 100 t = some k) (h2 : (match P.underlying t with | some u => isRow u | none => false) = true) (h3 : P.eqGuardType P.depth t = false)
    (r : EqsOk P l) : EqsOk P ((t, k) :: l) := by
  intro p hp
  rcases List.mem_cons.1 hp with rfl | hp
  · exact ⟨h1, h2, h3⟩
  · exact r p hp

theorem enters_of {P : Program} {f : FuncId} {fn : Func} (h : P.funcs.toList[f]? = some fn) (h2 : (fn.name == "runtime.NumGoroutine") = false) (h3 : fn.body.isNone = false) : Enters P f :=
  ⟨fn, by simpa using h, h2, h3⟩

end Go.Rq

/- Data as abstract values; contracts by them. -/
namespace Go.Rq
open Go

/-- Cells that tell a datum. -/
structure CC (α : Type) where
  n : Nat
  enc : α → List AV
  dec : List AV → Option α
  val : α → List Value
  len : ∀ x, (enc x).length = n
  h1 : ∀ x, flats (enc x) = some (val x)
  h2 : ∀ (ρ : Ren) (as : List AV) (vs : List Value) (x : α), dec as = some x → Rvs ρ as vs → vs = val x

/-- A value that tells a datum. -/
structure Cod (α : Type) where
  enc : α → AV
  dec : AV → Option α
  val : α → Value
  h1 : ∀ x, flat (enc x) = some (val x)
  h2 : ∀ (ρ : Ren) (a : AV) (v : Value) (x : α), dec a = some x → Rv ρ a v → v = val x

theorem flats_append : ∀ {as bs : List AV} {xs ys : List Value}, flats as = some xs → flats bs = some ys → flats (as ++ bs) = some (xs ++ ys)
  | [], bs, xs, ys, h, k => by simp [flats] at h; subst h; exact k
  | a :: as, bs, xs, ys, h, k => by
    simp only [flats] at h
    split at h
    · cases h
    · rename_i x hx
      split at h
      · rename_i l hl; simp at h; subst h
        simp only [List.cons_append, flats, hx, flats_append hl k]
      · cases h

/-- One after the other. -/
def CC.prod {α β : Type} (A : CC α) (B : CC β) : CC (α × β) where
  n := A.n + B.n
  enc x := A.enc x.1 ++ B.enc x.2
  dec l := match A.dec (l.take A.n), B.dec (l.drop A.n) with
    | some x, some y => some (x, y)
    | _, _ => none
  val x := A.val x.1 ++ B.val x.2
  len x := by simp [A.len, B.len]
  h1 x := flats_append (A.h1 _) (B.h1 _)
  h2 ρ as vs x h r := by
    split at h
    · rename_i p q hp hq
      simp at h; subst h
      rw [← A.h2 ρ _ _ _ hp (r.take A.n), ← B.h2 ρ _ _ _ hq (r.drop A.n), List.take_append_drop]
    · cases h

theorem flats_one {a : AV} {x : Value} (h : scal a = some x) : flats [a] = some [x] := by simp [flats, h]

/-- A cell of a bool. -/
def cBool : CC Bool where
  n := 1
  enc b := [.v (.bool b)]
  dec l := match l with
    | [a] => boolOf a
    | _ => none
  val b := [.bool b]
  len _ := rfl
  h1 _ := rfl
  h2 ρ as vs x h r := by
    split at h
    · obtain ⟨v, ys, rfl, hv, ht⟩ := r.uncons
      rw [ht.unnil, boolOf_ok hv h]
    · cases h

/-- A cell of a word. -/
def cU : CC (BitVec 64) where
  n := 1
  enc b := [.u b]
  dec l := match l with
    | [a] => toU a
    | _ => none
  val b := [uval b]
  len _ := rfl
  h1 _ := rfl
  h2 ρ as vs x h r := by
    split at h
    · obtain ⟨v, ys, rfl, hv, ht⟩ := r.uncons
      rw [ht.unnil, hv.toU h]
    · cases h

def intOf (k : IntKind) : AV → Option Int
  | .v (.int k' n) => match decide (k' = k) with
    | true => some n
    | false => none
  | _ => none

/-- A cell of an integer of a kind. -/
def cInt (k : IntKind) : CC Int where
  n := 1
  enc b := [.v (.int k b)]
  dec l := match l with
    | [a] => intOf k a
    | _ => none
  val b := [.int k b]
  len _ := rfl
  h1 _ := rfl
  h2 ρ as vs x h r := by
    split at h
    · obtain ⟨v, ys, rfl, hv, ht⟩ := r.uncons
      rename_i a
      unfold intOf at h
      split at h
      · split at h
        · rename_i hk
          have hk := of_decide_eq_true hk
          subst hk
          simp at h; subst h
          cases hv
          rw [ht.unnil]
        · cases h
      · cases h
    · cases h

structure W6 where
  w0 : BitVec 64
  w1 : BitVec 64
  w2 : BitVec 64
  w3 : BitVec 64
  w4 : BitVec 64
  w5 : BitVec 64
  deriving DecidableEq

/-- Six cells of words. -/
def c6 : CC W6 where
  n := 6
  enc x := [.u x.w0, .u x.w1, .u x.w2, .u x.w3, .u x.w4, .u x.w5]
  dec l := match l with
    | [a0, a1, a2, a3, a4, a5] => match toU a0, toU a1, toU a2, toU a3, toU a4, toU a5 with
      | some x0, some x1, some x2, some x3, some x4, some x5 => some ⟨x0, x1, x2, x3, x4, x5⟩
      | _, _, _, _, _, _ => none
    | _ => none
  val x := [uval x.w0, uval x.w1, uval x.w2, uval x.w3, uval x.w4, uval x.w5]
  len _ := rfl
  h1 _ := rfl
  h2 ρ as vs x h r := by
    split at h
    · obtain ⟨v0, y0, rfl, h0, r⟩ := r.uncons
      obtain ⟨v1, y1, rfl, h1, r⟩ := r.uncons
      obtain ⟨v2, y2, rfl, h2, r⟩ := r.uncons
      obtain ⟨v3, y3, rfl, h3, r⟩ := r.uncons
      obtain ⟨v4, y4, rfl, h4, r⟩ := r.uncons
      obtain ⟨v5, y5, rfl, h5, r⟩ := r.uncons
      split at h
      · rename_i e0 e1 e2 e3 e4 e5
        simp at h; subst h
        rw [r.unnil, h0.toU e0, h1.toU e1, h2.toU e2, h3.toU e3, h4.toU e4, h5.toU e5]
      · cases h
    · cases h

/-- A struct or an array of such cells. -/
def CC.agg {α : Type} (A : CC α) : Cod α where
  enc x := .agg (A.enc x)
  dec a := match aggOf a with
    | some l => A.dec l
    | none => none
  val x := .agg (A.val x).toArray
  h1 x := by simp only [flat, A.h1]
  h2 ρ a v x h r := by
    split at h
    · rename_i l hl
      obtain ⟨xs, rfl, hx⟩ := r.aggOf hl
      rw [← A.h2 ρ _ _ _ h hx]
    · cases h

def kBool : Cod Bool where
  enc b := .v (.bool b)
  dec a := boolOf a
  val b := .bool b
  h1 _ := rfl
  h2 _ _ _ _ h r := boolOf_ok r h

def kU : Cod (BitVec 64) where
  enc b := .u b
  dec a := toU a
  val b := uval b
  h1 _ := rfl
  h2 _ _ _ _ h r := r.toU h

/-- A word that is 0 or 1. -/
def kBit : Cod Bool where
  enc b := .bit b
  dec a := match a with
    | .bit b => some b
    | _ => none
  val b := uval (bitW b)
  h1 _ := rfl
  h2 ρ a v x h r := by
    split at h
    · simp at h; subst h; cases r; rfl
    · cases h

def kInt (k : IntKind) : Cod Int where
  enc b := .v (.int k b)
  dec a := intOf k a
  val b := .int k b
  h1 _ := rfl
  h2 ρ a v x h r := by
    have := (cInt k).h2 ρ [a] [v] x h (.cons r .nil)
    simpa [cInt] using this

def tupOf : AV → Option (List AV)
  | .tup l => some l
  | _ => none

/-- Several results: as a list of values. -/
structure Res (α : Type) where
  enc : α → List AV
  val : α → List Value
  h1 : ∀ x, flatL (enc x) = some (val x)

def flatR (l : List AV) : Option Value := match flatL l with
  | some [x] => some x
  | some l => some (.tuple l.toArray)
  | none => none

/-! A function's specification, by its arguments' codes. -/

def fn0 {β : Type} (B : Cod β) (F : β) : List AV → Option (Bool × AV)
  | [] => some (true, B.enc F)
  | _ => none

def fn1 {α β : Type} (A : Cod α) (B : Cod β) (F : α → β) : List AV → Option (Bool × AV)
  | [a] => match A.dec a with
    | some x => some (true, B.enc (F x))
    | none => none
  | _ => none

def fn2 {α γ β : Type} (A : Cod α) (C : Cod γ) (B : Cod β) (F : α → γ → β) : List AV → Option (Bool × AV)
  | [a, c] => match A.dec a, C.dec c with
    | some x, some y => some (true, B.enc (F x y))
    | _, _ => none
  | _ => none

def fn3 {α γ δ β : Type} (A : Cod α) (C : Cod γ) (D : Cod δ) (B : Cod β) (F : α → γ → δ → β) : List AV → Option (Bool × AV)
  | [a, c, d] => match A.dec a, C.dec c, D.dec d with
    | some x, some y, some z => some (true, B.enc (F x y z))
    | _, _, _ => none
  | _ => none

/-- The answer alone. -/
def afunR (P : Program) (E : Env) (sym : List Tmp) (tab : BTab) (lf : Nat) (f : FuncId) (args : List AV) : Tree AV :=
  (afun P E sym tab lf f args [] 0).bind fun q => .leaf q.1

/-- What all contracts of one program need. -/
structure Ctx (P : Program) (E : Env) (sym : List Tmp) (tab : BTab) (lf f : Nat) : Prop where
  env : EnvOk P E
  mixed : P.follows .mixedOrders = true
  body : ∃ fn c, P.funcs.toList[f]? = some fn ∧ fn.body = some c ∧ codeOk E c = true ∧ TabOk P 0 tab c

theorem pure_core {P : Program} {E : Env} {sym : List Tmp} {tab : BTab} {lf f : Nat} (X : Ctx P E sym tab lf f) {g : List AV → Option (Bool × AV)}
    (h : ∀ as r, g as = some (true, r) → ∃ as' l, (∀ (ρ : Ren) (xs : List Value), Rvs ρ as xs → xs = l) ∧ flatL as' = some l ∧ ∃ y, flat r = some y ∧ (afunR P E sym tab lf f as').holds (fun q => flat q = some y)) : PureOk P f g := by
  obtain ⟨fn, c, hf, hb, hok, htab⟩ := X.body
  intro ρ as xs r hg hx w hgw
  obtain ⟨as', l, h1, h2, y, h3, h4⟩ := h as r hg
  have hxl := h1 ρ xs hx
  subst hxl
  have := afun_calls X.env X.mixed hf hb hok htab (K := fun q _ => flat q = some y) (Tree.holds_bind h4) (F := frameOf w) (ρ := Ren.empty) (xs := xs) (w := w) (Rvs.of_flatL h2) (RW.init w _ hgw) (fun _ _ => rfl)
  refine Calls.mono this ?_
  rintro e w' ⟨v, q, h', ρ', rfl, hk, hrv, hrw, _⟩
  have := hrv.flat_eq hk
  subst this
  exact ⟨v, rfl, .of_flat h3, hrw.to_below⟩

theorem leafOk {α : Type} {t : Tree α} {a : α} {K : α → Prop} (h : t.strict = .leaf a) (hk : K a) : t.holds K := Tree.holds_strict (by rw [h]; exact hk)

/-- The walk comes to one exact answer. (A structure: nothing looks behind it by itself.) -/
structure Gives (t : Tree AV) (v : Value) : Prop where
  out : t.holds (fun q => flat q = some v)

theorem leafVal {β : Type} {B : Cod β} {y : β} {t : Tree AV} (h : t.strict = .leaf (B.enc y)) : Gives t (B.val y) :=
  ⟨Tree.holds_strict (by rw [h]; exact B.h1 y)⟩

theorem brVal {β : Type} {B : Cod β} {y y1 y2 : β} {c : Bool} {t : Tree AV} (h : t.strict = .br c (.leaf (B.enc y1)) (.leaf (B.enc y2))) (h1 : c = true → y = y1) (h2 : c = false → y = y2) : Gives t (B.val y) :=
  ⟨Tree.holds_strict (by rw [h]; exact ⟨fun hc => by rw [h1 hc]; exact B.h1 y1, fun hc => by rw [h2 hc]; exact B.h1 y2⟩)⟩

section
variable {P : Program} {E : Env} {sym : List Tmp} {tab : BTab} {lf f : Nat} {α β γ δ : Type} {A : Cod α} {B : Cod β} {C : Cod γ} {D : Cod δ}

theorem pure0 (X : Ctx P E sym tab lf f) {F : β} (h : Gives (afunR P E sym tab lf f []) (B.val F)) : PureOk P f (fn0 B F) := by
  refine pure_core X fun as r hg => ?_
  unfold fn0 at hg
  split at hg
  · simp at hg; subst hg
    exact ⟨[], [], fun ρ xs hx => hx.unnil, rfl, _, B.h1 _, h.out⟩
  · cases hg

theorem pure1 (X : Ctx P E sym tab lf f) {F : α → β} (h : ∀ x, Gives (afunR P E sym tab lf f [A.enc x]) (B.val (F x))) : PureOk P f (fn1 A B F) := by
  refine pure_core X fun as r hg => ?_
  unfold fn1 at hg
  split at hg
  · rename_i a
    split at hg
    · rename_i x hx
      simp at hg; subst hg
      refine ⟨[A.enc x], [A.val x], fun ρ xs hxs => ?_, by simp [flatL, A.h1], _, B.h1 _, (h x).out⟩
      obtain ⟨v, ys, rfl, h1, h2⟩ := hxs.uncons
      rw [h2.unnil, A.h2 ρ _ _ _ hx h1]
    · cases hg
  · cases hg

theorem pure2 (X : Ctx P E sym tab lf f) {F : α → γ → β} (h : ∀ x y, Gives (afunR P E sym tab lf f [A.enc x, C.enc y]) (B.val (F x y))) : PureOk P f (fn2 A C B F) := by
  refine pure_core X fun as r hg => ?_
  unfold fn2 at hg
  split at hg
  · rename_i a c
    split at hg
    · rename_i x y hx hy
      simp at hg; subst hg
      refine ⟨[A.enc x, C.enc y], [A.val x, C.val y], fun ρ xs hxs => ?_, by simp [flatL, A.h1, C.h1], _, B.h1 _, (h x y).out⟩
      obtain ⟨v, ys, rfl, h1, h2⟩ := hxs.uncons
      obtain ⟨u, zs, rfl, h3, h4⟩ := h2.uncons
      rw [h4.unnil, A.h2 ρ _ _ _ hx h1, C.h2 ρ _ _ _ hy h3]
    · cases hg
  · cases hg

theorem pure3 (X : Ctx P E sym tab lf f) {F : α → γ → δ → β} (h : ∀ x y z, Gives (afunR P E sym tab lf f [A.enc x, C.enc y, D.enc z]) (B.val (F x y z))) : PureOk P f (fn3 A C D B F) := by
  refine pure_core X fun as r hg => ?_
  unfold fn3 at hg
  split at hg
  · rename_i a c d
    split at hg
    · rename_i x y z hx hy hz
      simp at hg; subst hg
      refine ⟨[A.enc x, C.enc y, D.enc z], [A.val x, C.val y, D.val z], fun ρ xs hxs => ?_, by simp [flatL, A.h1, C.h1, D.h1], _, B.h1 _, (h x y z).out⟩
      obtain ⟨v, ys, rfl, h1, h2⟩ := hxs.uncons
      obtain ⟨u, zs, rfl, h3, h4⟩ := h2.uncons
      obtain ⟨t, us, rfl, h5, h6⟩ := h4.uncons
      rw [h6.unnil, A.h2 ρ _ _ _ hx h1, C.h2 ρ _ _ _ hy h3, D.h2 ρ _ _ _ hz h5]
    · cases hg
  · cases hg

end

/-- Two results. -/
def kTup {α β : Type} (A : Cod α) (B : Cod β) (hA : ∀ x, flatA (A.enc x) = some (A.val x)) (hB : ∀ x, flatA (B.enc x) = some (B.val x)) : Cod (α × β) where
  enc x := .tup [A.enc x.1, B.enc x.2]
  dec a := match a with
    | .tup [a, b] => match A.dec a, B.dec b with
      | some x, some y => some (x, y)
      | _, _ => none
    | _ => none
  val x := .tuple #[A.val x.1, B.val x.2]
  h1 x := by simp [flat, flatsA, hA, hB]
  h2 ρ a v x h r := by
    split at h
    · split at h
      · rename_i p q hp hq
        simp at h; subst h
        obtain ⟨xs, rfl, hx⟩ := r.tup_iff
        obtain ⟨v0, y0, e0, h0, r0⟩ := hx.uncons
        obtain ⟨v1, y1, e1, h1, r1⟩ := r0.uncons
        have e2 := r1.unnil
        subst e2; subst e1
        rw [A.h2 ρ _ _ _ hp h0, B.h2 ρ _ _ _ hq h1] at e0
        have : xs = #[A.val p, B.val q] := by apply Array.ext'; simpa using e0
        rw [this]
      · cases h
    · cases h

/-! The library's own. -/

/-- math/bits.Add64: the sum, and what is carried. -/
def add64 (x y : BitVec 64) (c : Bool) : BitVec 64 × Bool :=
  (x + y + bitW c, decide (2 ^ 64 ≤ x.toNat + y.toNat + (bif c then 1 else 0)))

def sub64 (x y : BitVec 64) (c : Bool) : BitVec 64 × Bool :=
  (x - y - bitW c, decide (x.toNat < y.toNat + (bif c then 1 else 0)))

def kUB : Cod (BitVec 64 × Bool) := kTup kU kBit (fun _ => rfl) (fun _ => rfl)

theorem bitW_toNat (c : Bool) : (bitW c).toNat = bif c then 1 else 0 := by cases c <;> rfl

theorem uval_mk (n : Nat) (x : BitVec 64) (h : n = x.toNat) : Value.int .u64 (Int.ofNat n) = uval x := by rw [h]; rfl

theorem three_run {P : Program} (nm : String) (x y : BitVec 64) (z : Bool) (w : World) :
    (Extern.MathBitsCarry.three nm #[uval x, uval y, uval (bitW z)]).run P w = .ok (x.toNat, y.toNat, (bitW z).toNat) w := by
  cases z <;> rfl

theorem add64_pair (x y : BitVec 64) (z : Bool) :
    Extern.MathBitsCarry.pair ((x.toNat + y.toNat + (bitW z).toNat) % Extern.MathBitsCarry.m64) ((x.toNat + y.toNat + (bitW z).toNat) / Extern.MathBitsCarry.m64) = kUB.val (add64 x y z) := by
  have hx64 := x.isLt
  have hy64 := y.isLt
  have hzb : (bitW z).toNat ≤ 1 := by cases z <;> decide
  have e1 : (x.toNat + y.toNat + (bitW z).toNat) % Extern.MathBitsCarry.m64 = (x + y + bitW z).toNat := by
    simp [Extern.MathBitsCarry.m64, BitVec.toNat_add]
  have e2 : (x.toNat + y.toNat + (bitW z).toNat) / Extern.MathBitsCarry.m64 = (bitW (decide (2 ^ 64 ≤ x.toNat + y.toNat + (bif z then 1 else 0)))).toNat := by
    rw [bitW_toNat, bitW_toNat]
    rw [bitW_toNat] at hzb
    simp only [Extern.MathBitsCarry.m64]
    by_cases hh : 2 ^ 64 ≤ x.toNat + y.toNat + (bif z then 1 else 0)
    · simp only [hh, decide_true, cond_true]; omega
    · simp only [hh, decide_false, cond_false]; omega
  rw [e1, e2]
  rfl

theorem sub64_pair (x y : BitVec 64) (z : Bool) :
    Extern.MathBitsCarry.pair ((x.toNat + Extern.MathBitsCarry.m64 - y.toNat - (bitW z).toNat) % Extern.MathBitsCarry.m64) (if x.toNat < y.toNat + (bitW z).toNat then 1 else 0) = kUB.val (sub64 x y z) := by
  have hx64 := x.isLt
  have hy64 := y.isLt
  have hzb : (bitW z).toNat ≤ 1 := by cases z <;> decide
  have e1 : (x.toNat + Extern.MathBitsCarry.m64 - y.toNat - (bitW z).toNat) % Extern.MathBitsCarry.m64 = (x - y - bitW z).toNat := by
    simp only [Extern.MathBitsCarry.m64, BitVec.toNat_sub]; omega
  have e2 : (if x.toNat < y.toNat + (bitW z).toNat then 1 else 0) = (bitW (decide (x.toNat < y.toNat + (bif z then 1 else 0)))).toNat := by
    rw [bitW_toNat, bitW_toNat]
    by_cases hh : x.toNat < y.toNat + (bif z then 1 else 0)
    · simp only [hh, decide_true, cond_true, if_true]
    · simp only [hh, decide_false, cond_false, if_false]
  rw [e1, e2]
  rfl

theorem ext3 {P : Program} {f : FuncId} {fn : Func} (hf : P.funcs.toList[f]? = some fn) (h1 : (fn.name == "runtime.NumGoroutine") = false) (h2 : fn.body.isNone = true) (h3 : (Extern.findNext fn).isNone = true)
    {r : Array Value → Sem Value} (h4 : Extern.find fn = some r) {α β γ δ : Type} {A : Cod α} {B : Cod β} {C : Cod γ} {D : Cod δ} {F : α → γ → δ → β}
    (h : ∀ x y z w, (r #[A.val x, C.val y, D.val z]).run P w = .ok (B.val (F x y z)) w) : ExtOk P f (fn3 A C D B F) := by
  intro ρ as xs q hg hx w
  unfold fn3 at hg
  split at hg
  · rename_i a c d
    split at hg
    · rename_i x y z hx' hy hz
      simp at hg; subst hg
      obtain ⟨v, ys, rfl, h1', h2'⟩ := hx.uncons
      obtain ⟨u, zs, rfl, h3', h4'⟩ := h2'.uncons
      obtain ⟨t, us, rfl, h5', h6'⟩ := h4'.uncons
      rw [h6'.unnil, A.h2 ρ _ _ _ hx' h1', C.h2 ρ _ _ _ hy h3', D.h2 ρ _ _ _ hz h5']
      refine ⟨B.val (F x y z), ?_, .of_flat (B.h1 _)⟩
      have hf' : P.funcs[f]? = some fn := by simpa using hf
      have hnext : Extern.findNext fn = none := by simpa using h3
      have hr := h x y z w
      simp only [callFunc, Sem.run_bind, run_program, Result.andThen_ok, hf', h1, h2, hnext, h4, Sem.run_ite]
      simp only [hr, Bool.false_eq_true, if_false, if_true, run_mark, Result.andThen_ok, Sem.run_pure]
    · cases hg
  · cases hg

def add64Row : Array Value → Sem Value := fun args => do
    let (x, y, c) ← Extern.MathBitsCarry.three "Add64" args
    pure (Extern.MathBitsCarry.pair ((x + y + c) % Extern.MathBitsCarry.m64) ((x + y + c) / Extern.MathBitsCarry.m64))

def sub64Row : Array Value → Sem Value := fun args => do
    let (x, y, b) ← Extern.MathBitsCarry.three "Sub64" args
    pure (Extern.MathBitsCarry.pair ((x + Extern.MathBitsCarry.m64 - y - b) % Extern.MathBitsCarry.m64) (if x < y + b then 1 else 0))

theorem add64_run {P : Program} (x y : BitVec 64) (z : Bool) (w : World) : (add64Row #[kU.val x, kU.val y, kBit.val z]).run P w = .ok (kUB.val (add64 x y z)) w := by
  have := three_run (P := P) "Add64" x y z w
  rw [← add64_pair]
  simp only [add64Row, kU, kBit, Sem.run_bind, this, Result.andThen_ok]
  rfl

theorem sub64_run {P : Program} (x y : BitVec 64) (z : Bool) (w : World) : (sub64Row #[kU.val x, kU.val y, kBit.val z]).run P w = .ok (kUB.val (sub64 x y z)) w := by
  have := three_run (P := P) "Sub64" x y z w
  rw [← sub64_pair]
  simp only [sub64Row, kU, kBit, Sem.run_bind, this, Result.andThen_ok]
  rfl

end Go.Rq
