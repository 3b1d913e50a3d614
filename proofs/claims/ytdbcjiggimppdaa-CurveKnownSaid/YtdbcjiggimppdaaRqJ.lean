/- A region goes as its text does, in whatever order it is gone through. -/
import Derived.Test.YtdbcjiggimppdaaRqI
namespace Go.Rq
open Go

/-- Two operations that may be exchanged. -/
def indep (E : Env) (ops : Array Oper) (x y : Oper) : Bool :=
  x.apart ops y && (!(isWr E x.op && (isRd E y.op || isWr E y.op)) && !(isRd E x.op && isWr E y.op))

theorem eff_lays {P : Program} {E : Env} {γ : Nat → Option Bool} {base : Nat} {ops : Array Oper} {i : Nat} {o : Oper} {tm : List AV} {h : AH} {e : Eff} (ho : ops[i]? = some o) (hw : isWr E o.op = false)
    (he : eff P E γ base ops i tm h = some e) : e.d = o.dst ∧ (e.ups = [] ∨ ∃ b, e.ups = [(base + i, b)]) := by
  have hget : ops.toList[i]? = some o := by simpa using ho
  unfold eff at he
  rw [hget] at he
  simp only at he
  split at he
  · cases he
  · simp at he; subst he; exact ⟨rfl, .inl rfl⟩
  · split at he
    · cases he
    · rename_i hop
      have := effOp_lays hw hop
      split at he
      · simp at he; subst he; exact ⟨rfl, this⟩
      · split at he
        · simp at he; subst he; exact ⟨rfl, this⟩
        · simp at he; subst he; exact ⟨rfl, this⟩
        · cases he

theorem eff_writes {P : Program} {E : Env} (hE : EnvOk P E) {γ : Nat → Option Bool} {base : Nat} {ops : Array Oper} {i : Nat} {o : Oper} {tm : List AV} {h : AH} {e : Eff} (ho : ops[i]? = some o) (hw : isWr E o.op = true)
    (he : eff P E γ base ops i tm h = some e) : e.d = o.dst ∧ ∀ p ∈ e.ups, p.1 = base + i ∨ ∃ B, h.get p.1 = some B := by
  have hget : ops.toList[i]? = some o := by simpa using ho
  unfold eff at he
  rw [hget] at he
  simp only at he
  split at he
  · cases he
  · simp at he; subst he; exact ⟨rfl, by simp⟩
  · split at he
    · cases he
    · rename_i hop
      have := effOp_writes hE hw hop
      split at he
      · simp at he; subst he; exact ⟨rfl, this⟩
      · split at he
        · simp at he; subst he; exact ⟨rfl, this⟩
        · simp at he; subst he; exact ⟨rfl, this⟩
        · cases he

theorem eff_dst {P : Program} {E : Env} (hE : EnvOk P E) {γ : Nat → Option Bool} {base : Nat} {ops : Array Oper} {i : Nat} {o : Oper} {tm : List AV} {h : AH} {e : Eff} (ho : ops[i]? = some o)
    (he : eff P E γ base ops i tm h = some e) : e.d = o.dst := by
  cases hw : isWr E o.op with
  | true => exact (eff_writes hE ho hw he).1
  | false => exact (eff_lays ho hw he).1

theorem eff_free {P : Program} {E : Env} {γ : Nat → Option Bool} {base : Nat} {ops : Array Oper} {i : Nat} {o : Oper} {tm : List AV} {h h' : AH} (ho : ops[i]? = some o) (hw : isWr E o.op = false) (hr : isRd E o.op = false) :
    eff P E γ base ops i tm h = eff P E γ base ops i tm h' := by
  have hget : ops.toList[i]? = some o := by simpa using ho
  unfold eff
  rw [hget]
  simp only
  rw [effOp_free (h' := h') hw hr]

theorem eff_weaken {P : Program} {E : Env} (hE : EnvOk P E) {ρ : Ren} {γ : Nat → Option Bool} {base : Nat} {ops : Array Oper} {i : Nat} {tm : List AV} {a : Act} (hev : EvOk ρ (look tm) a.eval) {h : AH} {z : Nat} {b : Option Blk}
    (hz : ρ z = none) {e : Eff} (he : eff P E γ base ops i tm ((z, b) :: h) = some e) : eff P E γ base ops i tm h = some e := by
  unfold eff at he ⊢
  split at he
  · cases he
  · split at he
    · cases he
    · exact he
    · split at he
      · cases he
      · rename_i hop
        rw [effOp_weaken hE hev hz hop]
        exact he

theorem eff_mono {P : Program} {E : Env} (hE : EnvOk P E) {γ : Nat → Option Bool} {base : Nat} {ops : Array Oper} {i : Nat} {tm : List AV} {h h' : AH}
    (hh : ∀ id B, h.get id = some B → h'.get id = some B) {e : Eff} (he : eff P E γ base ops i tm h = some e) : eff P E γ base ops i tm h' = some e := by
  unfold eff at he ⊢
  split at he
  · cases he
  · split at he
    · cases he
    · exact he
    · split at he
      · cases he
      · rename_i hop
        rw [effOp_mono hE hh hop]
        exact he

theorem AH.get_comm {u v h : AH} (hd : ∀ p ∈ u, ∀ q ∈ v, p.1 ≠ q.1) (id : Nat) : AH.get (v ++ (u ++ h)) id = AH.get (u ++ (v ++ h)) id := by
  rw [AH.get_append v, AH.get_append u, AH.get_append u, AH.get_append v]
  by_cases hu : ∃ p ∈ u, p.1 = id
  · by_cases hv : ∃ q ∈ v, q.1 = id
    · obtain ⟨p, hp, hpi⟩ := hu
      obtain ⟨q, hq, hqi⟩ := hv
      exact absurd (hpi.trans hqi.symm) (hd p hp q hq)
    · simp [hu, hv]
  · simp [hu]

/-- Two that may be exchanged, exchanged. -/
theorem swap {P : Program} {E : Env} (hE : EnvOk P E) {F : Fr} {ds : List Deferred} {ρ : Ren} {γ : Nat → Option Bool} {base : Nat} {ops : Array Oper} {i j : Nat} {x y : Oper} (hi : ops[i]? = some x) (hj : ops[j]? = some y) (hij : i ≠ j)
    (hind : indep E ops x y = true) {s : St} {a : Act} {w : World} (hs : Sim F ds ρ s a w) (ri : ρ (base + i) = none) (rj : ρ (base + j) = none) {e f : Eff}
    (he : eff P E γ base ops i s.tm s.h = some e) (hf : eff P E γ base ops j (s.put e).tm (s.put e).h = some f) :
    eff P E γ base ops j s.tm s.h = some f ∧ eff P E γ base ops i (s.put f).tm (s.put f).h = some e ∧ Eqv ((s.put f).put e) ((s.put e).put f) := by
  simp only [indep, Bool.and_eq_true] at hind
  obtain ⟨hap, hx, hy⟩ := hind
  obtain ⟨p1, p2, p3⟩ := Oper.apart_spec hap
  have hed := eff_dst hE hi he
  have hfd := eff_dst hE hj hf
  have fresh : ∀ {z : Nat} {B : Blk}, s.h.get z = some B → ρ z ≠ none := by
    intro z B hz
    obtain ⟨b, _, hb, _⟩ := hs.h.blk z B hz
    rw [hb]; simp
  -- the later one does not see the earlier one
  have hf1 : eff P E γ base ops j s.tm (e.ups ++ s.h) = some f := by
    rw [← hf]
    refine (eff_congr hj (fun t ht => ?_)).symm
    exact putA_get fun d hd => by
      rw [hed] at hd
      rintro rfl
      exact p1 _ hd ht
  have hf2 : eff P E γ base ops j s.tm s.h = some f := by
    cases hwi : isWr E x.op with
    | true =>
      have hwj : isWr E y.op = false := by cases hh : isWr E y.op <;> simp_all
      have hrj : isRd E y.op = false := by cases hh : isRd E y.op <;> simp_all
      rw [eff_free hj hwj hrj]; exact hf1
    | false =>
      rcases (eff_lays hi hwi he).2 with hu | ⟨b, hu⟩
      · rw [hu] at hf1; exact hf1
      · rw [hu] at hf1; exact eff_weaken hE (look_ok hs.tm) ri hf1
  have he1 : eff P E γ base ops i s.tm (f.ups ++ s.h) = some e := by
    cases hwj : isWr E y.op with
    | true =>
      have hwi : isWr E x.op = false := by cases hh : isWr E x.op <;> simp_all
      have hri : isRd E x.op = false := by cases hh : isRd E x.op <;> simp_all
      rw [eff_free (h' := s.h) hi hwi hri]; exact he
    | false =>
      rcases (eff_lays hj hwj hf2).2 with hu | ⟨b, hu⟩
      · rw [hu]; exact he
      · rw [hu]
        refine eff_mono hE (fun id B hB => ?_) he
        show AH.get ((base + j, b) :: s.h) id = some B
        rw [AH.get_cons, if_neg]
        · exact hB
        · rintro rfl; exact fresh hB rj
  refine ⟨hf2, ?_, ?_⟩
  · rw [← he1]
    exact eff_congr hi (fun t ht => putA_get fun d hd => by
      rw [hfd] at hd
      rintro rfl
      exact p3 _ hd ht)
  · refine ⟨?_, ?_, ?_⟩
    · exact putA_comm fun d hd => by
        rw [hfd] at hd
        rw [hed]
        intro hd'
        exact p2 d hd' hd
    · intro id
      show AH.get (e.ups ++ (f.ups ++ s.h)) id = AH.get (f.ups ++ (e.ups ++ s.h)) id
      refine AH.get_comm (fun p hp q hq => ?_) id
      cases hwi : isWr E x.op with
      | true =>
        have hwj : isWr E y.op = false := by cases hh : isWr E y.op <;> simp_all
        rcases (eff_lays hj hwj hf2).2 with hu | ⟨b, hu⟩
        · rw [hu] at hp; simp at hp
        · rw [hu] at hp; simp at hp; subst hp
          rcases (eff_writes hE hi hwi he).2 q hq with hq | ⟨B, hB⟩
          · rw [hq]; simp; exact fun hh => hij hh.symm
          · intro hpq
            exact fresh hB (by rw [← hpq]; exact rj)
      | false =>
        rcases (eff_lays hi hwi he).2 with hu | ⟨b, hu⟩
        · rw [hu] at hq; simp at hq
        · rw [hu] at hq; simp at hq; subst hq
          cases hwj : isWr E y.op with
          | true =>
            rcases (eff_writes hE hj hwj hf2).2 p hp with hp | ⟨B, hB⟩
            · rw [hp]; simp; exact fun hh => hij hh.symm
            · intro hpq
              exact fresh hB (by rw [hpq]; exact ri)
          | false =>
            rcases (eff_lays hj hwj hf2).2 with hu | ⟨b', hu⟩
            · rw [hu] at hp; simp at hp
            · rw [hu] at hp; simp at hp; subst hp
              simp; exact fun hh => hij hh.symm
    · show (e.c && (f.c && s.ok)) = (f.c && (e.c && s.ok))
      cases s.ok <;> cases f.c <;> cases e.c <;> rfl

/-- Behind one step there is a world that fits. -/
theorem step_exists {P : Program} {E : Env} (hE : EnvOk P E) {F : Fr} {ds : List Deferred} {ρ : Ren} {γ : Nat → Option Bool} {base : Nat} {ops : Array Oper} {i : Nat} {s : St} {e : Eff} {a : Act} {w : World}
    (he : eff P E γ base ops i s.tm s.h = some e) (hc : e.c = true) (hs : Sim F ds ρ s a w) (hid : ρ (base + i) = none) :
    ∃ a' w' ρ', ρ.le ρ' ∧ (∀ j, j ≠ base + i → ρ' j = ρ j) ∧ Sim F ds ρ' (s.put e) a' w' := by
  have h := step_sim hE he hc hs hid (K := fun a' w' => ∃ ρ', ρ.le ρ' ∧ (∀ j, j ≠ base + i → ρ' j = ρ j) ∧ Sim F ds ρ' (s.put e) a' w') (Q := fun _ _ _ => False)
    (fun a' w' ρ' h1 h2 h3 => ⟨ρ', h1, h2, h3⟩)
  have conv : ∀ {o : Oper} {K : Act → World → Prop}, o.wp P a w K (fun _ _ _ => False) → ∃ a' w', K a' w' := by
    intro o K hh
    unfold Oper.wp at hh
    generalize (execOp a.eval o).run P w = r at hh
    cases r with
    | ok n w' =>
      cases n <;> simp only [Oper.upon] at hh
      · exact ⟨_, _, hh⟩
      · exact ⟨_, _, hh⟩
      · obtain ⟨ee, w'', fr, h1, _⟩ := hh []
        cases ee with
        | returned v => exact ⟨_, _, h1⟩
        | panicked ch => exact h1.elim
        | outgrown => obtain ⟨_, _, hf⟩ := h1; exact hf.elim
      · exact ⟨_, _, hh⟩
      · obtain ⟨v, w'', h1, _⟩ := hh default []
        exact ⟨_, _, h1⟩
    | halt x w' => cases x <;> simp only [Oper.upon] at hh
  unfold wpOp at h
  split at h
  · obtain ⟨ρ', h1, h2, h3⟩ := h; exact ⟨_, _, ρ', h1, h2, h3⟩
  · split at h
    · rcases h with h | ⟨_, a', w', hf⟩
      · obtain ⟨a', w', ρ', h1, h2, h3⟩ := conv h; exact ⟨a', w', ρ', h1, h2, h3⟩
      · exact hf.elim
    · obtain ⟨ρ', h1, h2, h3⟩ := h; exact ⟨_, _, ρ', h1, h2, h3⟩

theorem move_front {P : Program} {E : Env} (hE : EnvOk P E) {F : Fr} {ds : List Deferred} {γ : Nat → Option Bool} {base : Nat} {ops : Array Oper} {i : Nat} {y : Oper} (hi : ops[i]? = some y) {B : List Nat} :
    ∀ {A : List Nat} {s s' : St} {ρ : Ren} {a : Act} {w : World}, (∀ j ∈ A, j ≠ i ∧ ∃ x, ops[j]? = some x ∧ indep E ops x y = true) → A.Nodup → runL P E γ base ops (A ++ i :: B) s = some s' → s'.ok = true →
      Sim F ds ρ s a w → (∀ j ∈ A, ρ (base + j) = none) → ρ (base + i) = none → ∃ s1, runL P E γ base ops (i :: (A ++ B)) s = some s1 ∧ Eqv s' s1 := by
  intro A
  induction A with
  | nil => intro s s' ρ a w _ _ h _ _ _ _; exact ⟨s', h, Eqv.refl _⟩
  | cons j A ih =>
    intro s s' ρ a w hA hnd h hok hs hr hri
    simp only [List.cons_append, runL] at h
    split at h
    · cases h
    · rename_i e he
      have hok1 := runL_ok h hok
      have hec : e.c = true := by simp [St.put] at hok1; exact hok1.1
      obtain ⟨a1, w1, ρ1, hle, hne, hs1⟩ := step_exists hE he hec hs (hr j (by simp))
      have hji := (hA j (by simp)).1
      obtain ⟨s1, h1, hq1⟩ := ih (fun k hk => hA k (by simp [hk])) (List.nodup_cons.1 hnd).2 h hok hs1
        (fun k hk => by
          rw [hne]
          · exact hr k (by simp [hk])
          · intro hh
            have : k = j := by omega
            subst this
            exact (List.nodup_cons.1 hnd).1 hk)
        (by
          rw [hne]
          · exact hri
          · intro hh; exact hji (by omega))
      simp only [runL] at h1
      split at h1
      · cases h1
      · rename_i f hf
        obtain ⟨x, hx, hind⟩ := (hA j (by simp)).2
        obtain ⟨g1, g2, g3⟩ := swap hE hx hi hji hind hs (hr j (by simp)) hri he hf
        obtain ⟨s2, h2, hq2⟩ := runL_eqv hE g3.symm h1
        refine ⟨s2, ?_, hq1.trans hq2⟩
        simp only [runL, g1, List.cons_append, g2]
        exact h2

/-! Which must go ahead of which. -/

/-- Of each operation those that must go ahead of it, as bits. -/
def preds (after : List Edge) (acc : List Nat) : Nat :=
  match after with
  | [] => 0
  | e :: t => bif Region.binds .any e then (2 ^ e.on ||| acc.getD e.on 0) ||| preds t acc else preds t acc

def closure : List Oper → List Nat → List Nat
  | [], acc => acc
  | o :: t, acc => closure t (acc ++ [preds o.after.toList acc])

def chkRow (E : Env) (ops : Array Oper) (y : Oper) (bits : Nat) : List Oper → Nat → Bool
  | [], _ => true
  | x :: t, j => (indep E ops x y || Nat.testBit bits j) && chkRow E ops y bits t (j + 1)

def chkRows (E : Env) (ops : Array Oper) (l : List Oper) (bits : List Nat) : List Oper → Nat → Bool
  | [], _ => true
  | y :: t, i => chkRow E ops y (bits.getD i 0) (l.take i) 0 && chkRows E ops l bits t (i + 1)

def backOk : List Edge → Nat → Bool
  | [], _ => true
  | e :: t, i => (!Region.binds .any e || Nat.blt e.on i) && backOk t i

def backs : List Oper → Nat → Bool
  | [], _ => true
  | o :: t, i => backOk o.after.toList i && backs t (i + 1)

/-- A region whose operations come to the same in whatever order. -/
def chk (E : Env) (ops : Array Oper) : Bool := backs ops.toList 0 && chkRows E ops ops.toList (closure ops.toList []) ops.toList 0

end Go.Rq
