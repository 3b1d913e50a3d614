/- Regions: in whatever order, as the text goes. -/
import Derived.Test.YtbamkkbefjgeoaaGreatRq06
namespace Go.Rq
open Go

theorem closure_length : ∀ (l : List Oper) (acc : List Nat), (closure l acc).length = acc.length + l.length
  | [], acc => by simp [closure]
  | o :: t, acc => by simp [closure, closure_length t]; omega

theorem closure_take : ∀ (l : List Oper) (acc : List Nat) (k : Nat), k < acc.length → (closure l acc)[k]? = acc[k]?
  | [], acc, k, _ => rfl
  | o :: t, acc, k, h => by
    simp only [closure]
    rw [closure_take t _ k (by simp; omega), List.getElem?_append_left h]

theorem closure_get : ∀ (l : List Oper) (acc : List Nat) (i : Nat) (o : Oper), l[i]? = some o →
    (closure l acc)[acc.length + i]? = some (preds o.after.toList ((closure l acc).take (acc.length + i)))
  | [], acc, i, o, h => by simp at h
  | x :: t, acc, 0, o, h => by
    simp at h; subst h
    simp only [closure, Nat.add_zero]
    rw [closure_take t _ acc.length (by simp)]
    have e : (closure t (acc ++ [preds x.after.toList acc])).take acc.length = acc := by
      apply List.ext_getElem?
      intro k
      rw [List.getElem?_take]
      split
      · rename_i hk
        rw [closure_take t _ k (by simp; omega), List.getElem?_append_left hk]
      · rename_i hk
        rw [List.getElem?_eq_none]; omega
    rw [e]; simp
  | x :: t, acc, i + 1, o, h => by
    have := closure_get t (acc ++ [preds x.after.toList acc]) i o (by simpa using h)
    simp only [closure]
    have e : (acc ++ [preds x.after.toList acc]).length + i = acc.length + (i + 1) := by simp; omega
    rw [e] at this
    exact this

theorem preds_bit {l : List Edge} {acc : List Nat} {a : Nat} : Nat.testBit (preds l acc) a = true → ∃ e ∈ l, Region.binds .any e = true ∧ (e.on = a ∨ Nat.testBit (acc.getD e.on 0) a = true) := by
  induction l with
  | nil => intro h; simp [preds] at h
  | cons e t ih =>
    intro h
    simp only [preds] at h
    cases hb : Region.binds .any e with
    | false =>
      rw [hb] at h; simp only [cond_false] at h
      obtain ⟨f, hf, h1, h2⟩ := ih h
      exact ⟨f, by simp [hf], h1, h2⟩
    | true =>
      rw [hb] at h; simp only [cond_true, Nat.testBit_or, Bool.or_eq_true] at h
      rcases h with (h | h) | h
      · rw [Nat.testBit_two_pow] at h
        exact ⟨e, by simp, hb, .inl (by simpa using h)⟩
      · exact ⟨e, by simp, hb, .inr h⟩
      · obtain ⟨f, hf, h1, h2⟩ := ih h
        exact ⟨f, by simp [hf], h1, h2⟩

/-- What has been gone through holds with each operation those that must go ahead of it. -/
def Closed (ops : Array Oper) (listed : Array Bool) : Prop :=
  ∀ x o, listed.getD x false = true → ops[x]? = some o → ∀ e ∈ o.after, Region.binds .any e = true → listed.getD e.on false = true

theorem closure_sound {ops : Array Oper} {listed : Array Bool} (hc : Closed ops listed) : ∀ (i : Nat) (o : Oper), ops[i]? = some o →
    (∀ e ∈ o.after, Region.binds .any e = true → listed.getD e.on false = true) → ∀ a, Nat.testBit ((closure ops.toList []).getD i 0) a = true → listed.getD a false = true := by
  intro i
  induction i using Nat.strongRecOn with
  | _ i ih =>
    intro o ho hpre a hbit
    have hg := closure_get ops.toList [] i o (by simpa using ho)
    simp only [List.length_nil, Nat.zero_add] at hg
    rw [List.getD, hg] at hbit
    simp only [Option.getD_some] at hbit
    obtain ⟨e, he, h1, h2⟩ := preds_bit hbit
    have he' : e ∈ o.after := by simpa using he
    rcases h2 with h2 | h2
    · rw [← h2]; exact hpre e he' h1
    · have hl := hpre e he' h1
      rw [List.getD, List.getElem?_take] at h2
      split at h2
      · rename_i hlt
        cases hoe : ops[e.on]? with
        | none =>
          exfalso
          have : (closure ops.toList [])[e.on]? = none := by
            rw [List.getElem?_eq_none_iff, closure_length]
            simp
            exact Array.getElem?_eq_none_iff.1 hoe
          rw [this] at h2; simp at h2
        | some oe => exact ih e.on hlt oe hoe (hc e.on oe hl hoe) a h2
      · simp at h2

theorem chkRow_spec {E : Env} {ops : Array Oper} {y : Oper} {i bits : Nat} : ∀ {l : List Oper} {k : Nat}, chkRow E ops y i bits l k = true → ∀ (j : Nat) (x : Oper), l[j]? = some x → indepD E ops (k + j) i x y = true ∨ Nat.testBit bits (k + j) = true
  | [], _, _, j, x, h => by simp at h
  | z :: t, k, hc, 0, x, h => by
    simp at h; subst h
    simp only [chkRow, Bool.and_eq_true, Bool.or_eq_true] at hc
    simpa using hc.1
  | z :: t, k, hc, j + 1, x, h => by
    simp only [chkRow, Bool.and_eq_true] at hc
    have := chkRow_spec hc.2 j x (by simpa using h)
    rw [show k + (j + 1) = k + 1 + j from by omega]
    exact this

theorem chkRows_spec {E : Env} {ops : Array Oper} {l : List Oper} {bits : List Nat} : ∀ {m : List Oper} {k : Nat}, chkRows E ops l bits m k = true → ∀ (i : Nat) (y : Oper), m[i]? = some y → chkRow E ops y (k + i) (bits.getD (k + i) 0) (l.take (k + i)) 0 = true
  | [], _, _, i, y, h => by simp at h
  | z :: t, k, hc, 0, y, h => by
    simp at h; subst h
    simp only [chkRows, Bool.and_eq_true] at hc
    simpa using hc.1
  | z :: t, k, hc, i + 1, y, h => by
    simp only [chkRows, Bool.and_eq_true] at hc
    have := chkRows_spec hc.2 i y (by simpa using h)
    rw [show k + (i + 1) = k + 1 + i from by omega]
    exact this

theorem backOk_spec : ∀ {l : List Edge} {i : Nat}, backOk l i = true → ∀ e ∈ l, Region.binds .any e = true → e.on < i
  | [], _, _, e, h, _ => by simp at h
  | f :: t, i, hc, e, h, hb => by
    simp only [backOk, Bool.and_eq_true, Bool.or_eq_true] at hc
    rcases List.mem_cons.1 h with rfl | h
    · rcases hc.1 with h1 | h1
      · rw [hb] at h1; simp at h1
      · exact Nat.le_of_ble_eq_true h1
    · exact backOk_spec hc.2 e h hb

theorem backs_spec : ∀ {l : List Oper} {k : Nat}, backs l k = true → ∀ (i : Nat) (o : Oper), l[i]? = some o → backOk o.after.toList (k + i) = true
  | [], _, _, i, o, h => by simp at h
  | z :: t, k, hc, 0, o, h => by
    simp at h; subst h
    simp only [backs, Bool.and_eq_true] at hc
    simpa using hc.1
  | z :: t, k, hc, i + 1, o, h => by
    simp only [backs, Bool.and_eq_true] at hc
    have := backs_spec hc.2 i o (by simpa using h)
    rw [show k + (i + 1) = k + 1 + i from by omega]
    exact this

/-- What is still to do. -/
def todo (n : Nat) (listed : Array Bool) : List Nat := (List.range n).filter fun i => !listed.getD i true

theorem todo_sorted (n : Nat) (listed : Array Bool) : (todo n listed).Pairwise (· < ·) := List.Pairwise.filter _ List.pairwise_lt_range

theorem todo_mem {n : Nat} {listed : Array Bool} {i : Nat} : i ∈ todo n listed ↔ i < n ∧ listed.getD i true = false := by
  simp [todo]

theorem todo_set {n : Nat} {listed : Array Bool} (hs : listed.size = n) {i : Nat} (hi : i < n) {A B : List Nat} (hL : todo n listed = A ++ i :: B) : todo n (listed.setIfInBounds i true) = A ++ B := by
  have h1 : todo n (listed.setIfInBounds i true) = (todo n listed).filter (fun j => decide (j ≠ i)) := by
    unfold todo
    rw [List.filter_filter]
    apply List.filter_congr
    intro j hj
    have hj : j < n := by simpa using hj
    by_cases hji : j = i
    · subst hji; simp [hs, hj]
    · have : ¬ i = j := fun h => hji h.symm
      simp [hs, hj, hji, this]
  have hsorted := todo_sorted n listed
  rw [hL] at hsorted
  rw [h1, hL, List.filter_append, List.filter_cons]
  have hA : ∀ j ∈ A, j < i := fun j hj => (List.pairwise_append.1 hsorted).2.2 j hj i (by simp)
  have hB : ∀ j ∈ B, i < j := fun j hj => (List.pairwise_cons.1 (List.pairwise_append.1 hsorted).2.1).1 j hj
  rw [List.filter_eq_self.2 (fun j hj => by have := hA j hj; simp; omega), List.filter_eq_self.2 (fun j hj => by have := hB j hj; simp; omega)]
  simp

theorem getD_set_self {l : Array Bool} {i : Nat} (h : i < l.size) : (l.setIfInBounds i true).getD i false = true := by
  rw [Array.getD_eq_getD_getElem?, Array.getElem?_setIfInBounds_self_of_lt h]; rfl

theorem getD_set_mono {l : Array Bool} {i x : Nat} (h : l.getD x false = true) : (l.setIfInBounds i true).getD x false = true := by
  by_cases hx : i = x
  · subst hx
    refine getD_set_self ?_
    rw [Array.getD_eq_getD_getElem?] at h
    cases hl : l[i]? with
    | none => rw [hl] at h; cases h
    | some b => exact (Array.getElem?_eq_some_iff.1 hl).1
  · rw [Array.getD_eq_getD_getElem?, Array.getElem?_setIfInBounds_ne hx, ← Array.getD_eq_getD_getElem?]; exact h

theorem getD_set_inv {l : Array Bool} {i x : Nat} (hx : ¬ x = i) (h : (l.setIfInBounds i true).getD x false = true) : l.getD x false = true := by
  have : ¬ i = x := fun e => hx e.symm
  rw [Array.getD_eq_getD_getElem?, Array.getElem?_setIfInBounds_ne this, ← Array.getD_eq_getD_getElem?] at h; exact h

theorem any_sim {P : Program} {E : Env} (hE : EnvOk P E) {F : Fr} {ds : List Deferred} {γ : Nat → Option Bool} {base : Nat} {ops : Array Oper} (hchk : chk E ops = true) {s' : St} (hok : s'.ok = true) {Q : Exit → Act → World → Prop} :
    ∀ (fuel : Nat) (listed : Array Bool) (s : St) (ρ : Ren) (a : Act) (w : World), listed.size = ops.size → (todo ops.size listed).length = fuel → Closed ops listed →
      ∀ s1, runL P E γ base ops (todo ops.size listed) s = some s1 → Eqv s1 s' → Sim F ds ρ s a w → (∀ j ∈ todo ops.size listed, freeR ρ (base + E.kk * j) E.kk) →
      (∀ a' w' ρ', ρ.le ρ' → (∀ id, (∀ j ∈ todo ops.size listed, ¬ inR (base + E.kk * j) E.kk id) → ρ' id = ρ id) → Sim F ds ρ' s' a' w' → Q .normal a' w') →
      wpAny P .any ops Q fuel listed a w := by
  simp only [chk, Bool.and_eq_true] at hchk
  obtain ⟨hback, hrows⟩ := hchk
  have back : ∀ (i : Nat) (o : Oper), ops[i]? = some o → ∀ e ∈ o.after, Region.binds .any e = true → e.on < i := by
    intro i o ho e he hb
    have := backs_spec hback i o (by simpa using ho)
    rw [Nat.zero_add] at this
    exact backOk_spec this e (by simpa using he) hb
  have ready_iff : ∀ (listed : Array Bool), listed.size = ops.size → ∀ i, i ∈ Region.ready .any ops listed ↔ i ∈ todo ops.size listed ∧ ∀ o, ops[i]? = some o → ∀ e ∈ o.after, Region.binds .any e = true → listed.getD e.on false = true := by
    intro listed hsz i
    unfold Region.ready
    rw [List.mem_filter, todo_mem]
    constructor
    · rintro ⟨h1, h2⟩
      have h1 : i < ops.size := by simpa using h1
      simp only [Bool.and_eq_true, Bool.not_eq_true'] at h2
      refine ⟨⟨h1, h2.1⟩, fun o ho e he hb => ?_⟩
      have h3 := h2.2
      rw [ho] at h3
      simp only [Option.map_some, Option.getD_some, Array.all_eq_true_iff_forall_mem] at h3
      have := h3 e he
      simpa [hb] using this
    · rintro ⟨⟨h1, h2⟩, h3⟩
      refine ⟨by simp [h1], ?_⟩
      have hg : ops[i]? = some ops[i] := Array.getElem?_eq_getElem h1
      rw [hg]
      simp only [h2, Option.map_some, Option.getD_some, Bool.not_false, Bool.true_and, Array.all_eq_true_iff_forall_mem]
      intro e he
      cases hb : Region.binds .any e with
      | false => rfl
      | true => simpa using h3 _ hg e he hb
  intro fuel
  induction fuel with
  | zero =>
    intro listed s ρ a w hsz hlen hcl s1 hrun heq hs hr hQ
    have hnil : todo ops.size listed = [] := List.length_eq_zero_iff.1 hlen
    rw [hnil] at hrun
    simp [runL] at hrun
    subst hrun
    refine ⟨?_, hQ a w ρ (Ren.le_refl _) (fun _ _ => rfl) (hs.eqv heq)⟩
    cases hrd : Region.ready .any ops listed with
    | nil => rfl
    | cons i t =>
      have := (ready_iff listed hsz i).1 (by rw [hrd]; simp)
      rw [hnil] at this
      simp at this
  | succ fuel ih =>
    intro listed s ρ a w hsz hlen hcl s1 hrun heq hs hr hQ
    refine ⟨fun hnil => ?_, fun i hi => ?_⟩
    · exfalso
      cases hL : todo ops.size listed with
      | nil => rw [hL] at hlen; simp at hlen
      | cons i t =>
        have hmem : i ∈ todo ops.size listed := by rw [hL]; simp
        have hsorted := todo_sorted ops.size listed
        rw [hL] at hsorted
        have hmin : ∀ j ∈ todo ops.size listed, i ≤ j := by
          intro j hj
          rw [hL] at hj
          rcases List.mem_cons.1 hj with rfl | hj
          · exact Nat.le_refl _
          · exact Nat.le_of_lt ((List.pairwise_cons.1 hsorted).1 j hj)
        have : i ∈ Region.ready .any ops listed := by
          rw [ready_iff listed hsz]
          refine ⟨hmem, fun o ho e he hb => ?_⟩
          have hlt := back i o ho e he hb
          have hin := (todo_mem.1 hmem).1
          cases hv : listed.getD e.on true with
          | true =>
            have : e.on < listed.size := by omega
            simp [Array.getD, this] at hv ⊢
            exact hv
          | false =>
            have := hmin e.on (todo_mem.2 ⟨by omega, hv⟩)
            omega
        rw [hnil] at this
        simp at this
    · obtain ⟨hmem, hpre⟩ := (ready_iff listed hsz i).1 hi
      have hin := (todo_mem.1 hmem).1
      obtain ⟨A, B, hL⟩ := List.append_of_mem hmem
      have hsorted := todo_sorted ops.size listed
      rw [hL] at hsorted
      have hA : ∀ j ∈ A, j < i := fun j hj => (List.pairwise_append.1 hsorted).2.2 j hj i (by simp)
      have hnd : A.Nodup := ((List.pairwise_append.1 hsorted).1).imp (fun h => Nat.ne_of_lt h)
      have hi' : ops[i]? = some ops[i] := Array.getElem?_eq_getElem hin
      have hs1ok : s1.ok = true := by rw [heq.ok]; exact hok
      obtain ⟨s2, h2, hq2⟩ := move_front hE (i := i) hi' (A := A) (B := B) (s := s) (s' := s1) (fun j hj => by
        refine ⟨Nat.ne_of_lt (hA j hj), ops[j]'(by have := hA j hj; omega), Array.getElem?_eq_getElem _, ?_⟩
        have hrow := chkRows_spec hrows i ops[i] (by simp)
        rw [Nat.zero_add] at hrow
        have hlt := hA j hj
        rcases chkRow_spec hrow j (ops[j]'(by omega)) (by rw [List.getElem?_take, if_pos hlt]; simp) with h | h
        · rw [Nat.zero_add] at h; exact h
        · exfalso
          rw [Nat.zero_add] at h
          have hl := closure_sound hcl i _ hi' (hpre _ hi') j h
          have hj' := (todo_mem.1 (show j ∈ todo ops.size listed by rw [hL]; simp [hj])).2
          have : j < listed.size := by omega
          simp [Array.getD, this] at hl hj'
          rw [hl] at hj'; cases hj') hnd (by rw [← hL]; exact hrun) hs1ok hs (fun j hj => hr j (by rw [hL]; simp [hj])) (hr i hmem)
      simp only [runL] at h2
      split at h2
      · cases h2
      · rename_i e he
        have hs2ok : s2.ok = true := by rw [← hq2.ok]; exact hs1ok
        have hok1 := runL_ok h2 hs2ok
        have hec : e.c = true := by simp [St.put] at hok1; exact hok1.1
        have htodo := todo_set hsz hin hL
        refine step_sim hE he hec hs (hr i hmem) ?_
        intro a' w' ρ' hle hne hs'
        refine ih (listed.setIfInBounds i true) (s.put e) ρ' a' w' (by simpa using hsz) ?_ ?_ s2 (by rw [htodo]; exact h2) (hq2.symm.trans heq) hs' ?_ ?_
        · rw [htodo]
          rw [hL] at hlen
          simp at hlen ⊢
          omega
        · intro x o hx ho e' he' hb
          by_cases hxi : x = i
          · subst hxi
            exact getD_set_mono (hpre o ho e' he' hb)
          · exact getD_set_mono (hcl x o (getD_set_inv hxi hx) ho e' he' hb)
        · intro j hj
          rw [htodo] at hj
          have hji : j ≠ i := by
            rintro rfl
            rcases List.mem_append.1 hj with hj | hj
            · exact absurd (hA j hj) (Nat.lt_irrefl _)
            · exact absurd ((List.pairwise_cons.1 (List.pairwise_append.1 hsorted).2.1).1 j hj) (Nat.lt_irrefl _)
          intro id hin
          rw [hne id (fun hh => hji (inR_inj hin hh))]
          refine hr j ?_ id hin
          rw [hL]
          rcases List.mem_append.1 hj with hj | hj <;> simp [hj]
        · intro a2 w2 ρ2 hle2 hne2 hs2
          refine hQ a2 w2 ρ2 (Ren.le_trans hle hle2) (fun id hid => ?_) hs2
          rw [hne2 id (fun j hj => hid j (by
            rw [htodo] at hj
            rw [hL]
            rcases List.mem_append.1 hj with hj | hj <;> simp [hj])), hne id (hid i hmem)]

end Go.Rq

/- Code, gone through by the abstract machine. -/
namespace Go.Rq
open Go

structure XS where
  s : St
  n : Nat

/-- What comes of a walk: an end, a parting by a bool that may be a variable, something that must hold. -/
inductive Tree (α : Type) where
  | leaf (a : α)
  | br (b : Bool) (t f : Tree α)
  | need (b : Bool) (t : Tree α)
  | same (x y : XS) (t : Tree α)
  | fail

def Tree.holds {α : Type} (K : α → Prop) : Tree α → Prop
  | .leaf a => K a
  | .br b t f => (b = true → t.holds K) ∧ (b = false → f.holds K)
  | .need b t => b = true ∧ t.holds K
  | .same x y t => x = y ∧ t.holds K
  | .fail => False

def Tree.bind {α β : Type} (g : α → Tree β) : Tree α → Tree β
  | .leaf a => g a
  | .br b t f => .br b (t.bind g) (f.bind g)
  | .need b t => .need b (t.bind g)
  | .same x y t => .same x y (t.bind g)
  | .fail => .fail

/-- What must hold is looked at at once. -/
def Tree.strict {α : Type} : Tree α → Tree α
  | .leaf a => .leaf a
  | .br b t f => .br b t.strict f.strict
  | .need b t => match b with
    | true => t.strict
    | false => .fail
  | .same x y t => .same x y t.strict
  | .fail => .fail

def memb (t : Nat) : List Nat → Bool
  | [] => false
  | x :: l => bif Nat.beq x t then true else memb t l

/-- What must hold is looked at at once, but at some places (counted from the beginning of each way). -/
def Tree.but {α : Type} (l : List Nat) : Nat → Tree α → Tree α
  | _, .leaf a => .leaf a
  | i, .br b t f => .br b (Tree.but l i t) (Tree.but l i f)
  | i, .need b t => bif memb i l then .need b (Tree.but l (i + 1) t) else match b with
    | true => Tree.but l (i + 1) t
    | false => .fail
  | i, .same x y t => .same x y (Tree.but l i t)
  | _, .fail => .fail

theorem Tree.holds_mono {α : Type} {K L : α → Prop} (h : ∀ a, K a → L a) : ∀ {t : Tree α}, t.holds K → t.holds L
  | .leaf _, k => h _ k
  | .br _ _ _, k => ⟨fun hb => Tree.holds_mono h (k.1 hb), fun hb => Tree.holds_mono h (k.2 hb)⟩
  | .need _ _, k => ⟨k.1, Tree.holds_mono h k.2⟩
  | .same _ _ _, k => ⟨k.1, Tree.holds_mono h k.2⟩
  | .fail, k => k.elim

theorem Tree.holds_bind {α β : Type} {K : β → Prop} {g : α → Tree β} : ∀ {t : Tree α}, (t.bind g).holds K → t.holds (fun a => (g a).holds K)
  | .leaf _, k => k
  | .br _ _ _, k => ⟨fun hb => Tree.holds_bind (k.1 hb), fun hb => Tree.holds_bind (k.2 hb)⟩
  | .need _ _, k => ⟨k.1, Tree.holds_bind k.2⟩
  | .same _ _ _, k => ⟨k.1, Tree.holds_bind k.2⟩
  | .fail, k => k.elim

theorem Tree.bind_holds {α β : Type} {K : β → Prop} {g : α → Tree β} : ∀ {t : Tree α}, t.holds (fun a => (g a).holds K) → (t.bind g).holds K
  | .leaf _, k => k
  | .br _ _ _, k => ⟨fun hb => Tree.bind_holds (k.1 hb), fun hb => Tree.bind_holds (k.2 hb)⟩
  | .need _ _, k => ⟨k.1, Tree.bind_holds k.2⟩
  | .same _ _ _, k => ⟨k.1, Tree.bind_holds k.2⟩
  | .fail, k => k.elim

theorem Tree.holds_strict {α : Type} {K : α → Prop} : ∀ {t : Tree α}, t.strict.holds K → t.holds K
  | .leaf _, k => k
  | .br _ _ _, k => ⟨fun hb => Tree.holds_strict (k.1 hb), fun hb => Tree.holds_strict (k.2 hb)⟩
  | .need b _, k => by
    simp only [Tree.strict] at k
    cases b with
    | true => exact ⟨rfl, Tree.holds_strict k⟩
    | false => exact k.elim
  | .same _ _ _, k => ⟨k.1, Tree.holds_strict k.2⟩
  | .fail, k => k.elim

theorem Tree.holds_but {α : Type} {K : α → Prop} {l : List Nat} : ∀ {i : Nat} {t : Tree α}, (Tree.but l i t).holds K → t.holds K
  | _, .leaf _, k => k
  | i, .br _ _ _, k => ⟨fun hb => Tree.holds_but (i := i) (k.1 hb), fun hb => Tree.holds_but (i := i) (k.2 hb)⟩
  | i, .need b _, k => by
    simp only [Tree.but] at k
    cases hm : memb i l with
    | true => rw [hm] at k; exact ⟨k.1, Tree.holds_but (i := i + 1) k.2⟩
    | false =>
      rw [hm] at k
      cases b with
      | true => exact ⟨rfl, Tree.holds_but (i := i + 1) k⟩
      | false => exact k.elim
  | i, .same _ _ _, k => ⟨k.1, Tree.holds_but (i := i) k.2⟩
  | _, .fail, k => k.elim

/-- The operations of a region, one behind the other; it parts at the bools that are named. -/
def runT (P : Program) (E : Env) (sym : List Tmp) (base : Nat) (ops : Array Oper) : List Nat → St → Tree St
  | [], s => .need s.ok (.leaf ⟨s.tm, s.h, true⟩)
  | i :: t, s => match eff P E (fun _ => none) base ops i s.tm s.h with
    | none => .fail
    | some e => match e.d, e.r with
      | some d, .v (.bool g) => bif memb d sym then
          .br g (runT P E sym base ops t (s.put ⟨e.c, e.d, .lit true, e.ups⟩)) (runT P E sym base ops t (s.put ⟨e.c, e.d, .lit false, e.ups⟩))
        else runT P E sym base ops t (s.put e)
      | _, _ => runT P E sym base ops t (s.put e)

theorem eff_gamma {P : Program} {E : Env} {γ γ' : Nat → Option Bool} {base : Nat} {ops : Array Oper} {i : Nat} {tm : List AV} {h : AH} (hg : γ i = γ' i) : eff P E γ base ops i tm h = eff P E γ' base ops i tm h := by
  unfold eff
  rw [hg]

theorem runL_gamma {P : Program} {E : Env} {γ γ' : Nat → Option Bool} {base : Nat} {ops : Array Oper} : ∀ {l : List Nat} {s : St}, (∀ i ∈ l, γ i = γ' i) → runL P E γ base ops l s = runL P E γ' base ops l s
  | [], s, _ => rfl
  | i :: l, s, h => by
    simp only [runL]
    rw [eff_gamma (h i (by simp))]
    split
    · rfl
    · exact runL_gamma fun j hj => h j (by simp [hj])

theorem eff_assume {P : Program} {E : Env} {γ : Nat → Option Bool} {base : Nat} {ops : Array Oper} {i : Nat} {tm : List AV} {h : AH} {e : Eff} {g : Bool} (hg : γ i = some g) (hr : e.r = .v (.bool g))
    (he : eff P E (fun _ => none) base ops i tm h = some e) : eff P E γ base ops i tm h = some ⟨e.c, e.d, .lit g, e.ups⟩ := by
  unfold eff at he ⊢
  split at he
  · cases he
  · split at he
    · cases he
    · simp at he; subst he; cases hr
    · split at he
      · cases he
      split at he
      · cases he
      · rename_i c r ups hop
        simp at he; subst he
        simp only at hr
        simp only [hg, hr]
        simp

theorem runT_sound {P : Program} {E : Env} {sym : List Tmp} {base : Nat} {ops : Array Oper} {K : St → Prop} : ∀ {l : List Nat} {s : St}, l.Nodup → (runT P E sym base ops l s).holds K →
    ∃ γ s', runL P E γ base ops l s = some s' ∧ s'.ok = true ∧ K ⟨s'.tm, s'.h, true⟩
  | [], s, _, h => ⟨fun _ => none, s, rfl, h.1, h.2⟩
  | i :: l, s, hnd, h => by
    simp only [runT] at h
    have hni := (List.nodup_cons.1 hnd).1
    have plain : ∀ e, eff P E (fun _ => none) base ops i s.tm s.h = some e → (runT P E sym base ops l (s.put e)).holds K →
        ∃ γ s', runL P E γ base ops (i :: l) s = some s' ∧ s'.ok = true ∧ K ⟨s'.tm, s'.h, true⟩ := by
      intro e he hh
      obtain ⟨γ, s', h1, h2, h3⟩ := runT_sound (List.nodup_cons.1 hnd).2 hh
      refine ⟨fun j => if j = i then none else γ j, s', ?_, h2, h3⟩
      simp only [runL]
      rw [eff_gamma (γ' := fun _ => none) (by simp), he]
      simp only
      rw [← h1]
      exact runL_gamma fun j hj => if_neg (fun hh => hni (by rw [← hh]; exact hj))
    split at h
    · exact h.elim
    · rename_i e he
      split at h
      · rename_i d g hd hr
        cases hm : memb d sym with
        | false => rw [hm] at h; exact plain e he h
        | true =>
          rw [hm] at h
          simp only [cond_true] at h
          have main : (runT P E sym base ops l (s.put ⟨e.c, e.d, .lit g, e.ups⟩)).holds K := by
            cases g with
            | true => exact h.1 rfl
            | false => exact h.2 rfl
          obtain ⟨γ, s', h1, h2, h3⟩ := runT_sound (List.nodup_cons.1 hnd).2 main
          refine ⟨fun j => if j = i then some g else γ j, s', ?_, h2, h3⟩
          simp only [runL]
          rw [eff_assume (g := g) (by simp) hr he]
          simp only
          rw [← h1]
          exact runL_gamma fun j hj => if_neg (fun hh => hni (by rw [← hh]; exact hj))
      · exact plain e he h

/-- In the text's order, where none is drawn. -/
theorem list_sim {P : Program} {E : Env} (hE : EnvOk P E) {F : Fr} {ds : List Deferred} {γ : Nat → Option Bool} {base : Nat} {ops : Array Oper} {s' : St} (hok : s'.ok = true) {Q : Exit → Act → World → Prop} :
    ∀ (l : List Nat) (s : St) (ρ : Ren) (a : Act) (w : World), l.Nodup → runL P E γ base ops l s = some s' → Sim F ds ρ s a w → (∀ j ∈ l, freeR ρ (base + E.kk * j) E.kk) →
      (∀ a' w' ρ', ρ.le ρ' → (∀ id, (∀ j ∈ l, ¬ inR (base + E.kk * j) E.kk id) → ρ' id = ρ id) → Sim F ds ρ' s' a' w' → Q .normal a' w') → wpOps P ops Q l a w := by
  intro l
  induction l with
  | nil =>
    intro s ρ a w _ h hs _ hQ
    simp [runL] at h; subst h
    exact hQ a w ρ (Ren.le_refl _) (fun _ _ => rfl) hs
  | cons i l ih =>
    intro s ρ a w hnd h hs hr hQ
    simp only [runL] at h
    split at h
    · cases h
    · rename_i e he
      rw [wpOps_cons]
      have hok1 := runL_ok h hok
      have hec : e.c = true := by simp [St.put] at hok1; exact hok1.1
      refine step_sim hE he hec hs (hr i (by simp)) ?_
      intro a' w' ρ' hle hne hs'
      refine ih (s.put e) ρ' a' w' (List.nodup_cons.1 hnd).2 h hs' (fun j hj id hin => ?_) ?_
      · rw [hne]
        · exact hr j (by simp [hj]) id hin
        · intro hh
          have : j = i := inR_inj hin hh
          subst this
          exact (List.nodup_cons.1 hnd).1 hj
      · intro a2 w2 ρ2 hle2 hne2 hs2
        refine hQ a2 w2 ρ2 (Ren.le_trans hle hle2) (fun id hid => ?_) hs2
        rw [hne2 id (fun j hj => hid j (by simp [hj])), hne id (hid i (by simp))]

inductive AExit where
  | normal
  | exit (id : Nat)
  | ret

def AExit.is : AExit → Exit → Prop
  | .normal, .normal => True
  | .exit i, .exit j => i = j
  | .ret, .ret => True
  | _, _ => False

/-- What holds of a piece of code: from whatever fits a state it comes to what fits one of the states that are told. 'm': the blocks that were there at first. -/
def Tri (P : Program) (F : Fr) (ds : List Deferred) (m : Nat) (c : Code) (x : XS) (K : AExit → XS → Prop) : Prop :=
  ∀ ρ a w, Sim F ds ρ x.s a w → m ≤ x.n → (∀ id, x.n ≤ id → ρ id = none) →
    c.wp P (fun e a' w' => ∃ e' y ρ', K e' y ∧ e'.is e ∧ Sim F ds ρ' y.s a' w' ∧ m ≤ y.n ∧ (∀ id, y.n ≤ id → ρ' id = none) ∧ (∀ id, id < m → Ren.eqAt ρ' ρ id)) a w

def rangeL (k : Nat) : Nat → List Nat → List Nat
  | 0, acc => acc
  | n + 1, acc => rangeL k n (n :: acc)

theorem rangeL_eq (k : Nat) : ∀ (n : Nat) (acc : List Nat), rangeL k n acc = List.range n ++ acc
  | 0, acc => by simp [rangeL]
  | n + 1, acc => by simp [rangeL, rangeL_eq k n, List.range_succ]

theorem todo_all (n : Nat) : todo n (Array.replicate n false) = List.range n := by
  unfold todo
  rw [List.filter_eq_self]
  intro i hi
  have : i < n := by simpa using hi
  simp [Array.getD, this]

theorem region_sound {P : Program} {E : Env} (hE : EnvOk P E) (hm : P.follows .mixedOrders = true) {F : Fr} {ds : List Deferred} {m : Nat} {sym : List Tmp} {id : Nat} {ops : Array Oper} {draw : Bool} (hchk : draw = true → chk E ops = true) {x : XS}
    {K : AExit → XS → Prop} (h : (runT P E sym x.n ops (rangeL 0 ops.size []) x.s).holds (fun s => K .normal ⟨s, x.n + E.kk * ops.size⟩)) : Tri P F ds m (.region id ops draw) x K := by
  rw [rangeL_eq, List.append_nil] at h
  obtain ⟨γ, s', h1, h2, h3⟩ := runT_sound List.nodup_range h
  intro ρ a w hs hmn hfr
  have fin : ∀ a' w' ρ', ρ.le ρ' → (∀ id, (∀ j ∈ List.range ops.size, ¬ inR (x.n + E.kk * j) E.kk id) → ρ' id = ρ id) → Sim F ds ρ' s' a' w' →
      ∃ e' y ρ'', K e' y ∧ e'.is .normal ∧ Sim F ds ρ'' y.s a' w' ∧ m ≤ y.n ∧ (∀ id, y.n ≤ id → ρ'' id = none) ∧ (∀ id, id < m → Ren.eqAt ρ'' ρ id) := by
    intro a' w' ρ' hle hne hs'
    refine ⟨.normal, _, ρ', h3, trivial, ⟨hs'.tm, hs'.h, hs'.ds⟩, by simp; omega, fun id hid => ?_, fun id hid => ?_⟩
    · simp at hid
      rw [hne id (fun j hj hin => by
        have h1 : j < ops.size := by simpa using hj
        have := inR_top hin h1
        omega)]
      exact hfr id (by omega)
    · exact ⟨hne id (fun j hj hin => by have := inR_ge hin; omega), fun b hb => (hle id b hb).2⟩
  cases draw with
  | false =>
    refine wp_region (list_sim hE h2 _ _ ρ a w List.nodup_range h1 hs (fun j _ id hin => hfr id (inR_ge hin)) fin)
  | true =>
    refine wp_region_any hm ?_
    refine any_sim hE (hchk rfl) h2 ops.size _ x.s ρ a { w with drawn := w.drawn + 1 } (by simp) (by rw [todo_all]; simp) ?_ s' (by rw [todo_all]; exact h1) (Eqv.refl _) ⟨hs.tm, hs.h.drawn _, hs.ds⟩ (fun j _ id hin => hfr id (inR_ge hin)) ?_
    · intro y o hy
      simp [Array.getD] at hy
    · rw [todo_all]; exact fin

end Go.Rq
