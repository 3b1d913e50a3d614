/- Equality of values, cell by cell. -/
import Derived.Test.YtdbcjiggimppdaaRqB
namespace Go.Rq
open Go

/-- Kinds of cells: 0 a bool, 1 an integer, 2 a string. -/
def cmpK : Nat → Value → Value → Option Bool
  | 0, .bool a, .bool b => some (a == b)
  | 1, .int k a, .int k' b => match decide (k = k') with
    | true => some (a == b)
    | false => none
  | 2, .string a, .string b => some (a == b)
  | _, _, _ => none

def cmpCells : List Nat → List Value → List Value → Option Bool
  | [], [], [] => some true
  | k :: ks, x :: xs, y :: ys => match cmpK k x y with
    | none => none
    | some b => match cmpCells ks xs ys with
      | none => none
      | some c => some (b && c)
  | _, _, _ => none

theorem cmpCells_append {j k : List Nat} : ∀ {a b c d : List Value} {r : Bool}, a.length = j.length → c.length = j.length → cmpCells (j ++ k) (a ++ b) (c ++ d) = some r →
    ∃ p q, cmpCells j a c = some p ∧ cmpCells k b d = some q ∧ r = (p && q) := by
  induction j with
  | nil => intro a b c d r hl hl' h; cases a <;> cases c <;> simp_all [cmpCells]
  | cons x t ih =>
    intro a b c d r hl hl' h
    cases a with
    | nil => simp at hl
    | cons y u =>
      cases c with
      | nil => simp at hl'
      | cons z v =>
        simp only [List.cons_append, cmpCells] at h
        split at h
        · cases h
        · rename_i e he
          split at h
          · cases h
          · rename_i f hf
            simp at h
            obtain ⟨p, q, hp, hq, rfl⟩ := ih (by simpa using hl) (by simpa using hl') hf
            exact ⟨e && p, q, by simp [cmpCells, he, hp], hq, by rw [← h, Bool.and_assoc]⟩

theorem cmpCells_length : ∀ {ks : List Nat} {xs ys : List Value} {b : Bool}, cmpCells ks xs ys = some b → xs.length = ks.length ∧ ys.length = ks.length
  | [], [], [], _, _ => ⟨rfl, rfl⟩
  | k :: ks, x :: xs, y :: ys, b, h => by
    simp only [cmpCells] at h
    split at h
    · cases h
    · split at h
      · cases h
      · rename_i hc
        have := cmpCells_length hc
        simp [this.1, this.2]
  | [], _ :: _, _, _, h => by simp [cmpCells] at h
  | [], [], _ :: _, _, h => by simp [cmpCells] at h
  | _ :: _, [], _, _, h => by simp [cmpCells] at h
  | _ :: _, _ :: _, [], _, h => by simp [cmpCells] at h

/-- Are fields laid one behind the other, from a place on? The kinds of their cells. -/
def rowOk (f : TypeId → Option (List Nat)) : List Field → Nat → Option (List Nat)
  | [], _ => some []
  | fl :: t, n => bif (fl.name != "_") && Nat.beq fl.offset n then
      match f fl.type with
      | some [] => none
      | some k => match rowOk f t (n + k.length) with
        | some l => some (k ++ l)
        | none => none
      | none => none
    else none

def rep (k : List Nat) : Nat → List Nat
  | 0 => []
  | n + 1 => k ++ rep k n

theorem rep_length (k : List Nat) (n : Nat) : (rep k n).length = n * k.length := by
  induction n with
  | zero => simp [rep]
  | succ n ih => simp [rep, ih, Nat.add_mul, Nat.add_comm]

/-- A type whose values are equal where all their cells are, in their order: the kinds of its cells. -/
def plan (P : Program) : Nat → TypeId → Option (List Nat)
  | 0, _ => none
  | d + 1, t => match P.underlying t, sz P t with
    | some .bool, some 1 => some [0]
    | some (.int _), some 1 => some [1]
    | some .string, some 1 => some [2]
    | some (.struct fs), some n => bif P.stoodInHeld t then none else
      match rowOk (plan P d) fs.toList 0 with
      | some m => bif Nat.beq m.length n then some m else none
      | none => none
    | some (.array len el), some n => match plan P d el with
      | some [] => none
      | some k => bif Nat.beq (len * k.length) n then some (rep k len) else none
      | none => none
    | _, _ => none

/-- The value of a type that has these cells. -/
def valOf (P : Program) (t : TypeId) (xs : List Value) : Value :=
  match P.underlying t with
  | some d => match isRow d with
    | true => .agg xs.toArray
    | false => xs.getD 0 undef
  | none => undef

theorem plan_sz {P : Program} : ∀ {d : Nat} {t : TypeId} {n : List Nat}, plan P d t = some n → sz P t = some n.length
  | 0, _, _, h => by simp [plan] at h
  | d + 1, t, n, h => by
    simp only [plan] at h
    split at h
    · simp at h; subst h; assumption
    · simp at h; subst h; assumption
    · simp at h; subst h; assumption
    · rename_i fs m hu hs
      cases hst : P.stoodInHeld t <;> simp [hst] at h
      split at h
      · rename_i m' hm'
        cases hb : Nat.beq m'.length m <;> simp [hb] at h
        have := Nat.eq_of_beq_eq_true hb
        subst h; rw [hs, this]
      · cases h
    · rename_i len el m hu hs
      split at h
      · cases h
      · rename_i k _ hk
        cases hb : Nat.beq (len * k.length) m <;> simp [hb] at h
        have := Nat.eq_of_beq_eq_true hb
        subst h; rw [hs, rep_length, this]
      · cases h
    · cases h

theorem part_valOf {P : Program} {t : TypeId} {n : List Nat} {off : Nat} {xs : Array Value} {d : Nat} (hp : plan P d t = some n) (hle : off + n.length ≤ xs.size) (w : World) :
    (part t xs off).run P w = .ok (valOf P t ((xs.toList.drop off).take n.length)) w := by
  have hs := plan_sz hp
  have e : xs.extract off (off + n.length) = (List.take n.length (List.drop off xs.toList)).toArray := by
    apply Array.ext'
    simp [Array.toList_extract, List.extract_eq_take_drop]
  cases d with
  | zero => simp [plan] at hp
  | succ d =>
    simp only [plan, hs] at hp
    split at hp
    · rename_i hu h1; simp at h1
      have hlt : off < xs.size := by omega
      simp [part, run_isAgg hu, isRow, valOf, hu, hlt, h1]
    · rename_i k hu h1; simp at h1
      have hlt : off < xs.size := by omega
      simp [part, run_isAgg hu, isRow, valOf, hu, hlt, h1]
    · rename_i hu h1; simp at h1
      have hlt : off < xs.size := by omega
      simp [part, run_isAgg hu, isRow, valOf, hu, hlt, h1]
    · rename_i fs m hu h1
      simp [part, run_isAgg hu, isRow, valOf, hu, run_sizeOf hs, e]
    · rename_i len el m hu h1
      simp [part, run_isAgg hu, isRow, valOf, hu, run_sizeOf hs, e]
    · cases hp

theorem drop_split {α : Type} (l : List α) (n k : Nat) : l.drop n = (l.drop n).take k ++ l.drop (n + k) := by
  rw [← List.drop_drop, List.take_append_drop]

theorem fields_run {P : Program} {d e : Nat}
    (ih : ∀ (t : TypeId) (k : List Nat) (xs ys : List Value) (b : Bool) (w : World), plan P d t = some k → cmpCells k xs ys = some b →
      (Op.equalIn e t (valOf P t xs) (valOf P t ys)).run P w = .ok b w) (xs ys : List Value) (w : World) :
    ∀ (fs : List Field) (n : Nat) (b : Bool) (ks : List Nat), rowOk (plan P d) fs n = some ks → cmpCells ks (xs.drop n) (ys.drop n) = some b →
      (forIn (m := Sem) fs ((none, ()) : Option Bool × Unit) fun f __s =>
            if f.name = "_" then pure (ForInStep.yield (none, ()))
            else do
              let __do_lift ← part f.type xs.toArray f.offset
              let __do_lift_1 ← part f.type ys.toArray f.offset
              let __do_lift ← Op.equalIn e f.type __do_lift __do_lift_1
              if __do_lift = false then pure (ForInStep.done (some false, ())) else pure (ForInStep.yield (none, ()))).run P w =
        .ok (if b then (none, ()) else (some false, ())) w := by
  intro fs
  induction fs with
  | nil =>
    intro n b ks h hc
    simp [rowOk] at h
    subst h
    have := cmpCells_length hc
    obtain ⟨h1, h2⟩ := this
    have h1' := List.length_eq_zero_iff.1 h1
    have h2' := List.length_eq_zero_iff.1 h2
    rw [h1', h2'] at hc
    simp [cmpCells] at hc
    subst hc
    simp
  | cons fl t iht =>
    intro n b ks h hc
    simp only [rowOk] at h
    cases hb : ((fl.name != "_") && Nat.beq fl.offset n) <;> simp only [hb, cond_true, cond_false] at h
    · cases h
    · simp only [Bool.and_eq_true] at hb
      have hn : fl.name ≠ "_" := by simpa using hb.1
      have ho : fl.offset = n := Nat.eq_of_beq_eq_true hb.2
      split at h
      · cases h
      · rename_i k hne hk
        have hpos : 0 < k.length := by cases k with | nil => exact absurd rfl hne | cons => simp
        split at h
        · rename_i l hl
          simp at h; subst h
          have hlen := cmpCells_length hc
          simp at hlen
          rw [drop_split xs n k.length, drop_split ys n k.length] at hc
          obtain ⟨p, q, hp, hq, rfl⟩ := cmpCells_append (by simp; omega) (by simp; omega) hc
          have h1 := part_valOf (P := P) (off := n) (xs := xs.toArray) hk (by simp; have := (cmpCells_length hp).1; simp at this; omega) w
          have h2 := part_valOf (P := P) (off := n) (xs := ys.toArray) hk (by simp; have := (cmpCells_length hp).2; simp at this; omega) w
          have h3 := ih fl.type k _ _ p w hk hp
          have h4 := iht (n + k.length) q l hl hq
          rw [List.forIn_cons]
          simp only [hn, if_false, Sem.run_bind, ho, h1, Result.andThen_ok]
          simp only [h2, Result.andThen_ok, h3]
          cases p with
          | true => simp [h4]
          | false => simp
        · cases h
      · cases h

theorem elems_run {P : Program} {d e : Nat} {el : TypeId} {k : List Nat} (hk : plan P d el = some k) (hpos : 0 < k.length)
    (ih : ∀ (xs ys : List Value) (b : Bool) (w : World), cmpCells k xs ys = some b →
      (Op.equalIn e el (valOf P el xs) (valOf P el ys)).run P w = .ok b w) (xs ys : List Value) (w : World) :
    ∀ (c i : Nat) (b : Bool), cmpCells (rep k c) (xs.drop (i * k.length)) (ys.drop (i * k.length)) = some b →
      (forIn (m := Sem) (List.range' i c) ((none, ()) : Option Bool × Unit) fun i __s => do
            let __do_lift ← part el xs.toArray (i * k.length)
            let __do_lift_1 ← part el ys.toArray (i * k.length)
            let __do_lift ← Op.equalIn e el __do_lift __do_lift_1
            if __do_lift = false then pure (ForInStep.done (some false, ())) else pure (ForInStep.yield (none, ()))).run P w =
        .ok (if b then (none, ()) else (some false, ())) w := by
  intro c
  induction c with
  | zero =>
    intro i b hc
    obtain ⟨h1, h2⟩ := cmpCells_length hc
    have h1' := List.length_eq_zero_iff.1 (h1.trans rfl)
    have h2' := List.length_eq_zero_iff.1 (h2.trans rfl)
    rw [h1', h2'] at hc
    simp [rep, cmpCells] at hc
    subst hc
    simp
  | succ c ihc =>
    intro i b hc
    have e2 : (i + 1) * k.length = i * k.length + k.length := by rw [Nat.add_mul]; omega
    have hlen := cmpCells_length hc
    simp [rep] at hlen
    rw [drop_split xs (i * k.length) k.length, drop_split ys (i * k.length) k.length, rep] at hc
    obtain ⟨p, q, hp, hq, rfl⟩ := cmpCells_append (by simp; omega) (by simp; omega) hc
    have h1 := part_valOf (P := P) (off := i * k.length) (xs := xs.toArray) hk (by simp; have := (cmpCells_length hp).1; simp at this; omega) w
    have h2 := part_valOf (P := P) (off := i * k.length) (xs := ys.toArray) hk (by simp; have := (cmpCells_length hp).2; simp at this; omega) w
    have h3 := ih _ _ p w hp
    have h4 := ihc (i + 1) q (by rw [e2]; exact hq)
    rw [List.range'_succ, List.forIn_cons]
    simp only [Sem.run_bind, h1, Result.andThen_ok]
    simp only [h2, Result.andThen_ok, h3]
    cases p with
    | true => simp; exact h4
    | false => simp

theorem cmpCells_one {k : Nat} {xs ys : List Value} {b : Bool} (h : cmpCells [k] xs ys = some b) : ∃ x y, xs = [x] ∧ ys = [y] ∧ cmpK k x y = some b := by
  obtain ⟨h1, h2⟩ := cmpCells_length h
  obtain ⟨x, rfl⟩ := List.length_eq_one_iff.1 h1
  obtain ⟨y, rfl⟩ := List.length_eq_one_iff.1 h2
  simp only [cmpCells] at h
  split at h
  · cases h
  · rename_i c hc; simp at h; subst h; exact ⟨x, y, rfl, rfl, hc⟩

theorem plan_run {P : Program} : ∀ (d : Nat) (e : Nat), d ≤ e → ∀ (t : TypeId) (k : List Nat) (xs ys : List Value) (b : Bool) (w : World), plan P d t = some k →
    cmpCells k xs ys = some b → (Op.equalIn e t (valOf P t xs) (valOf P t ys)).run P w = .ok b w := by
  intro d
  induction d with
  | zero => intro e _ t k xs ys b w h; simp [plan] at h
  | succ d ih =>
    intro e he t k xs ys b w h hc
    obtain ⟨e, rfl⟩ : ∃ e', e = e' + 1 := ⟨e - 1, by omega⟩
    have ih' := ih e (by omega)
    simp only [plan] at h
    split at h
    · rename_i hu hs
      simp at h; subst h
      obtain ⟨x, y, rfl, rfl, hxy⟩ := cmpCells_one hc
      cases x <;> cases y <;> simp [cmpK] at hxy
      subst hxy
      simp [valOf, hu, isRow, Op.equalIn, underlying]
    · rename_i kk hu hs
      simp at h; subst h
      obtain ⟨x, y, rfl, rfl, hxy⟩ := cmpCells_one hc
      cases x <;> cases y <;> simp [cmpK] at hxy
      rename_i k1 a k2 c
      by_cases hk : k1 = k2
      · subst hk; simp at hxy; subst hxy
        simp [valOf, hu, isRow, Op.equalIn, underlying]
      · simp [hk] at hxy
    · rename_i hu hs
      simp at h; subst h
      obtain ⟨x, y, rfl, rfl, hxy⟩ := cmpCells_one hc
      cases x <;> cases y <;> simp [cmpK] at hxy
      subst hxy
      simp [valOf, hu, isRow, Op.equalIn, underlying]
    · rename_i fs m hu hs
      cases hst : P.stoodInHeld t <;> simp [hst] at h
      split at h
      · rename_i m' hm'
        cases hb : Nat.beq m'.length m <;> simp [hb] at h
        subst h
        have := fields_run ih' xs ys w fs.toList 0 b _ hm' (by simpa using hc)
        simp only [Array.forIn_toList] at this
        simp only [Op.equalIn, valOf, hu, isRow, Sem.run_bind, run_underlying hu, Result.andThen_ok, run_program, hst]
        simp [this]
        cases b <;> simp
      · cases h
    · rename_i len el m hu hs
      split at h
      · cases h
      · rename_i k' hne hk'
        have hpos : 0 < k'.length := by cases k' with | nil => exact absurd rfl hne | cons => simp
        cases hb : Nat.beq (len * k'.length) m <;> simp [hb] at h
        subst h
        have := elems_run hk' hpos (fun xs ys b w => ih' el k' xs ys b w hk') xs ys w len 0 b (by simpa using hc)
        simp only [Op.equalIn, valOf, hu, isRow, Sem.run_bind, run_underlying hu, Result.andThen_ok, run_sizeOf (plan_sz hk')]
        simp [this]
        cases b <;> simp
      · cases h
    · cases h

/-- '==' between two rows of cells of a type that is equal cell by cell. -/
theorem eql_run {P : Program} {d : Nat} {t : TypeId} {k : List Nat} (hd : d ≤ 10000) (hp : plan P d t = some k) (hr : (match P.underlying t with | some u => isRow u | none => false) = true)
    (hg : P.eqGuardType P.depth t = false) {xs ys : Array Value} {b : Bool} (hc : cmpCells k xs.toList ys.toList = some b) (x y : Operand) (w : World) :
    (do eqGuard .eql t x y (.agg xs) (.agg ys); binOp .eql t (.agg xs) (.agg ys) : Sem Value).run P w = .ok (.bool b) w ∧
    (do eqGuard .neq t x y (.agg xs) (.agg ys); binOp .neq t (.agg xs) (.agg ys) : Sem Value).run P w = .ok (.bool !b) w := by
  have h := plan_run d 10000 hd t k xs.toList ys.toList b w hp hc
  have hv : ∀ zs : Array Value, valOf P t zs.toList = .agg zs := by
    intro zs
    unfold valOf
    split at hr
    · rename_i u hu; simp [hr]
    · cases hr
  rw [hv, hv] at h
  constructor <;> simp [eqGuard, hg, binOp, Op.equal, Op.maxDepth, h]

end Go.Rq
