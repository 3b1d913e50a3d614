/- Functions gone through where they are called, that may write to what they are handed and lay one block; functions that lay one block under a condition. -/
import Derived.Test.YtbamkkbefjgeoaaGreatRq11
import Derived.Test.YtbamkkbefjgeoaaGreatRq09
namespace Go.Rq
open Go

/-! A name is changed. -/
def AV.mv0 (m z : Nat) : AV → AV
  | .ptr i o => .ptr (bif Nat.beq i m then z else i) o
  | .slc i o l c => .slc (bif Nat.beq i m then z else i) o l c
  | .own i es k l => .own (bif Nat.beq i m then z else i) es k l
  | a => a

def mvs (m z : Nat) : List AV → List AV
  | [] => []
  | a :: t => a.mv0 m z :: mvs m z t

def AV.mv (m z : Nat) : AV → AV
  | .tup cs => .tup (mvs m z cs)
  | a => a.mv0 m z

def ok0 (top m : Nat) (a : AV) : Bool := a.lt0 top || (match a with
  | .ptr i _ => Nat.beq i m
  | .slc i _ _ _ => Nat.beq i m
  | .own i _ _ _ => Nat.beq i m
  | _ => false)

def allOk0 (top m : Nat) : List AV → Bool
  | [] => true
  | a :: t => ok0 top m a && allOk0 top m t

def AV.okM (top m : Nat) : AV → Bool
  | .tup cs => allOk0 top m cs
  | a => ok0 top m a

def new0 (top : Nat) : AV → Option Nat
  | .ptr i _ => bif Nat.ble top i then some i else none
  | .slc i _ _ _ => bif Nat.ble top i then some i else none
  | .own i _ _ _ => bif Nat.ble top i then some i else none
  | _ => none

def newS (top : Nat) : List AV → Option Nat
  | [] => none
  | a :: t => match new0 top a with
    | some i => some i
    | none => newS top t

def AV.new (top : Nat) : AV → Option Nat
  | .tup cs => newS top cs
  | a => new0 top a

/-- How a naming goes on in another, but for one name that is changed. -/
structure Mv (ρ' ρ'' : Ren) (top m z : Nat) : Prop where
  lo : ∀ id, id < top → ∀ b, ρ' id = some b → ρ'' id = some b ∧ ρ''.cells id = ρ'.cells id ∧ ρ''.base id = ρ'.base id
  nm : ∀ b, ρ' m = some b → ρ'' z = some b ∧ ρ''.cells z = ρ'.cells m ∧ ρ''.base z = ρ'.base m
  ge : top ≤ m

theorem beq_ne {i m : Nat} (h : i ≠ m) : Nat.beq i m = false := by
  cases hb : Nat.beq i m with
  | false => rfl
  | true => exact absurd (Nat.eq_of_beq_eq_true hb) h

theorem Rv.mv0 {ρ' ρ'' : Ren} {top m z : Nat} (M : Mv ρ' ρ'' top m z) {a : AV} {v : Value} (h : Rv ρ' a v) (e : ok0 top m a = true) : Rv ρ'' (a.mv0 m z) v := by
  unfold ok0 at e
  rw [Bool.or_eq_true] at e
  cases h with
  | any => exact .any _
  | v => exact .v _
  | lit b => exact .lit b
  | u x => exact .u x
  | bit b => exact .bit b
  | @ptr id off b hb =>
    rcases e with e | e
    · have hlt : id < top := Nat.le_of_ble_eq_true e
      have hne : id ≠ m := by have := M.ge; omega
      obtain ⟨h1, -, h3⟩ := M.lo id hlt b hb
      simp only [AV.mv0, beq_ne hne, cond_false]
      rw [← h3]; exact .ptr h1
    · have e := Nat.eq_of_beq_eq_true e
      subst e
      obtain ⟨h1, -, h3⟩ := M.nm b hb
      have hbq : Nat.beq id id = true := Nat.beq_refl id
      simp only [AV.mv0, hbq, cond_true]
      rw [← h3]; exact .ptr h1
  | @slc id off len cap b hb =>
    rcases e with e | e
    · have hlt : id < top := Nat.le_of_ble_eq_true e
      have hne : id ≠ m := by have := M.ge; omega
      obtain ⟨h1, -, h3⟩ := M.lo id hlt b hb
      simp only [AV.mv0, beq_ne hne, cond_false]
      rw [← h3]; exact .slc h1
    · have e := Nat.eq_of_beq_eq_true e
      subst e
      obtain ⟨h1, -, h3⟩ := M.nm b hb
      have hbq : Nat.beq id id = true := Nat.beq_refl id
      simp only [AV.mv0, hbq, cond_true]
      rw [← h3]; exact .slc h1
  | @own id es k len b cap hb h0 hc hl hm =>
    rcases e with e | e
    · have hlt : id < top := Nat.le_of_ble_eq_true e
      have hne : id ≠ m := by have := M.ge; omega
      obtain ⟨h1, h2, h3⟩ := M.lo id hlt b hb
      simp only [AV.mv0, beq_ne hne, cond_false]
      exact .own h1 (h3.trans h0) (hc.trans h2.symm) hl hm
    · have e := Nat.eq_of_beq_eq_true e
      subst e
      obtain ⟨h1, h2, h3⟩ := M.nm b hb
      have hbq : Nat.beq id id = true := Nat.beq_refl id
      simp only [AV.mv0, hbq, cond_true]
      exact .own h1 (h3.trans h0) (hc.trans h2.symm) hl hm
  | @ownE id es k b j cap hb hk =>
    rcases e with e | e
    · have hlt : id < top := Nat.le_of_ble_eq_true e
      have hne : id ≠ m := by have := M.ge; omega
      obtain ⟨h1, h2, h3⟩ := M.lo id hlt b hb
      simp only [AV.mv0, beq_ne hne, cond_false]
      exact .ownE h1 hk
    · have e := Nat.eq_of_beq_eq_true e
      subst e
      obtain ⟨h1, h2, h3⟩ := M.nm b hb
      have hbq : Nat.beq id id = true := Nat.beq_refl id
      simp only [AV.mv0, hbq, cond_true]
      exact .ownE h1 hk
  | agg _ _ => rcases e with e | e <;> cases e
  | tup _ _ => rcases e with e | e <;> cases e
  | @fn f as bs xs ys hl h kl k =>
    rcases e with e | e
    · cases as with
      | cons => cases e
      | nil =>
        cases bs with
        | cons => cases e
        | nil => exact .fn hl (fun i a x ha => by simp at ha) kl (fun i a x ha => by simp at ha)
    · cases e
  | ifc _ => rcases e with e | e <;> cases e
  | @mp id b hb =>
    rcases e with e | e
    · exact .mp (M.lo id (Nat.le_of_ble_eq_true e) b hb).1
    · cases e

theorem Rvs.mvs {ρ' ρ'' : Ren} {top m z : Nat} (M : Mv ρ' ρ'' top m z) : ∀ {as : List AV} {xs : List Value}, Rvs ρ' as xs → allOk0 top m as = true → Rvs ρ'' (Rq.mvs m z as) xs
  | [], xs, h, _ => by rw [h.unnil]; exact .nil
  | a :: t, xs, h, e => by
    obtain ⟨x, ys, rfl, hx, ht⟩ := h.uncons
    simp only [allOk0, Bool.and_eq_true] at e
    exact .cons (hx.mv0 M e.1) (Rvs.mvs M ht e.2)

theorem Rv.mv {ρ' ρ'' : Ren} {top m z : Nat} (M : Mv ρ' ρ'' top m z) {a : AV} {v : Value} (h : Rv ρ' a v) (e : a.okM top m = true) : Rv ρ'' (a.mv m z) v := by
  cases a with
  | tup cs =>
    obtain ⟨xs, rfl, hx⟩ := h.tup_iff
    have := Rv.tup_mk (Rvs.mvs M hx e)
    show Rv ρ'' (.tup (Rq.mvs m z cs)) (.tuple xs)
    simpa using this
  | _ => exact h.mv0 M e

/-! The blocks that are handed, and what becomes of them. -/
def viewW (h : AH) : List Nat → Option AH
  | [] => some []
  | i :: t => match AH.get h i with
    | none => none
    | some B => match viewW h t with
      | none => none
      | some l => bif allLt 0 B.cs then some ((i, some B) :: l) else none

theorem viewW_get {h : AH} : ∀ {ids : List Nat} {l : AH}, viewW h ids = some l → ∀ id B, l.get id = some B → id ∈ ids ∧ h.get id = some B ∧ allLt 0 B.cs = true
  | [], l, e, id, B, g => by simp [viewW] at e; subst e; simp [AH.get] at g
  | i :: t, l, e, id, B, g => by
    simp only [viewW] at e
    split at e
    · cases e
    · rename_i B0 hB0
      split at e
      · cases e
      · rename_i l' hl'
        cases hc : allLt 0 B0.cs with
        | false => rw [hc] at e; simp at e
        | true =>
          rw [hc] at e; simp at e; subst e
          rw [AH.get_cons] at g
          split at g
          · rename_i e; subst e; simp at g; subst g; exact ⟨by simp, hB0, hc⟩
          · obtain ⟨h1, h2⟩ := viewW_get hl' id B g
            exact ⟨by simp [h1], h2⟩

theorem viewW_all {h : AH} : ∀ {ids : List Nat} {l : AH}, viewW h ids = some l → ∀ id ∈ ids, ∃ B, h.get id = some B
  | [], l, e, id, hi => by simp at hi
  | i :: t, l, e, id, hi => by
    simp only [viewW] at e
    split at e
    · cases e
    · rename_i B0 hB0
      split at e
      · cases e
      · rename_i l' hl'
        rcases List.mem_cons.1 hi with rfl | hi
        · exact ⟨B0, hB0⟩
        · exact viewW_all hl' id hi

theorem viewW_congr {h h' : AH} : ∀ {ids : List Nat} {l : AH}, (∀ i ∈ ids, ∀ B, h.get i = some B → h'.get i = some B) → viewW h ids = some l → viewW h' ids = some l
  | [], l, _, e => e
  | i :: t, l, k, e => by
    simp only [viewW] at e ⊢
    split at e
    · cases e
    · rename_i B0 hB0
      split at e
      · cases e
      · rename_i l' hl'
        rw [k i (by simp) B0 hB0, viewW_congr (fun j hj => k j (by simp [hj])) hl']
        exact e

def backH (h : AH) : List Nat → Option AH
  | [] => some []
  | i :: t => match backH h t with
    | none => none
    | some l => match AH.get h i with
      | none => some ((i, none) :: l)
      | some B => bif allLt 0 B.cs then some ((i, some B) :: l) else none

theorem backH_get {h g : AH} : ∀ {ids : List Nat} {l : AH}, backH h ids = some l → ∀ id, AH.get (l ++ g) id = if id ∈ ids then AH.get h id else AH.get g id
  | [], l, e, id => by simp [backH] at e; subst e; simp
  | i :: t, l, e, id => by
    simp only [backH] at e
    split at e
    · cases e
    · rename_i l' hl'
      have ih := backH_get (g := g) hl' id
      have key : ∀ o, h.get i = o → AH.get (((i, o) :: l') ++ g) id = if id ∈ i :: t then h.get id else AH.get g id := by
        intro o ho
        rw [List.cons_append, AH.get_cons, ih]
        by_cases hi : i = id
        · subst hi; simp [ho]
        · have : id ∈ i :: t ↔ id ∈ t := by
            rw [List.mem_cons]
            exact ⟨fun h => h.resolve_left (fun e => hi e.symm), .inr⟩
          rw [if_neg hi]
          simp only [this]
      split at e
      · rename_i hn; simp at e; subst e; exact key _ hn
      · rename_i B hB
        obtain ⟨-, e⟩ := cond_some e
        simp at e; subst e
        exact key _ hB

theorem backH_flat {h : AH} : ∀ {ids : List Nat} {l : AH}, backH h ids = some l → ∀ id ∈ ids, ∀ B, h.get id = some B → allLt 0 B.cs = true
  | [], l, e, id, hi => by simp at hi
  | i :: t, l, e, id, hi => by
    intro B hB
    simp only [backH] at e
    split at e
    · cases e
    · rename_i l' hl'
      rcases List.mem_cons.1 hi with rfl | hi
      · rw [hB] at e
        exact (cond_some e).1
      · exact backH_flat hl' id hi B hB

theorem backH_dom {h : AH} : ∀ {ids : List Nat} {l : AH}, backH h ids = some l → ∀ p ∈ l, p.1 ∈ ids
  | [], l, e, p, hp => by simp [backH] at e; subst e; simp at hp
  | i :: t, l, e, p, hp => by
    simp only [backH] at e
    split at e
    · cases e
    · rename_i l' hl'
      have ih := backH_dom hl' p
      split at e
      · simp at e; subst e
        rcases List.mem_cons.1 hp with rfl | hp
        · simp
        · simp [ih hp]
      · obtain ⟨-, e⟩ := cond_some e
        simp at e; subst e
        rcases List.mem_cons.1 hp with rfl | hp
        · simp
        · simp [ih hp]

open Classical in
/-- All blocks stay but those that may be written. -/
noncomputable def actF (ρ : Ren) (h0 : AH) (w : World) : Fr := ⟨fun b => if ∃ i B, h0.get i = some B ∧ B.wr = true ∧ ρ i = some b then none else w.heap[b]?, w.os, w.tape, w.output⟩

theorem actF_none {ρ : Ren} {h0 : AH} {w : World} {b : Nat} (h : (actF ρ h0 w).blocks b = none) : (∃ i B, h0.get i = some B ∧ B.wr = true ∧ ρ i = some b) ∨ w.heap[b]? = none := by
  unfold actF at h
  simp only at h
  split at h
  · rename_i h1; exact .inl h1
  · exact .inr h
theorem actF_some {ρ : Ren} {h0 : AH} {w : World} {b : Nat} {o : Obj} (h : ¬ ∃ i B, h0.get i = some B ∧ B.wr = true ∧ ρ i = some b) (ho : w.heap[b]? = some o) : (actF ρ h0 w).blocks b = some o := by
  unfold actF
  simp only
  rw [if_neg h, ho]

theorem nameless {ρ ρ' : Ren} {cs : List AV} (h : allLt 0 cs = true) {i : Nat} {a : AV} {x : Value} (ha : cs[i]? = some a) (hr : Rv ρ a x) : Rv ρ' a x :=
  (hr.lt (n := 0) (allLt_spec h a (List.mem_of_getElem? ha))).mono (fun j c hj => absurd (Ren.cut_some hj).1 (by omega))

theorem namelessM {ρ ρ' : Ren} {cs : List AV} (h : allLt 0 cs = true) {a : AV} {x : Value} (ha : a ∈ cs) (hr : Rv ρ a x) : Rv ρ' a x := by
  obtain ⟨i, hi⟩ := List.getElem?_of_mem ha
  exact nameless h hi hr

section
variable {F : Fr} {ρ ρ' : Ren} {h h0 h' ups : AH} {w w' : World} {ids : List Nat} {top : Nat}

theorem viewW_ok (r : RW F ρ h w) (hv : viewW h ids = some h0) (hn : ∀ i ∈ ids, i < top) : RW (actF ρ h0 w) (ρ.cut top) h0 w := by
  refine ⟨fun id B hB => ?_, fun id id' B B' b hB hB' hw hb hb' => ?_, fun b o ho => ?_, rfl, rfl, rfl, fun g cs e => ?_⟩
  rotate_left 3
  · obtain ⟨xs, ty, fr, g1, g2⟩ := r.gc g cs e
    refine ⟨xs, ty, fr, actF_some ?_ (r.fr _ _ g1), g2⟩
    rintro ⟨i, B, k1, k2, k3⟩
    obtain ⟨-, k1, -⟩ := viewW_get hv i B k1
    obtain ⟨b', o, l1, -, -, l4, -⟩ := r.blk i B k1
    rw [k3] at l1; simp at l1; subst l1
    rw [l4 k2] at g1; cases g1
  · obtain ⟨hi, h1, h2⟩ := viewW_get hv id B hB
    obtain ⟨b, o, h3, h4, h5, h8⟩ := r.blk id B h1
    refine ⟨b, _, by rw [Ren.cut_lt (hn id hi)]; exact h3, h4, h5.keep rfl (fun hh => hh) rfl rfl (fun a ha x hx => namelessM h2 ha hx), fun hwr => ?_, h8.2⟩
    unfold actF
    simp only
    exact if_pos ⟨id, B, hB, hwr, h3⟩
  · obtain ⟨hi, h1, -⟩ := viewW_get hv id B hB
    obtain ⟨hi', h1', -⟩ := viewW_get hv id' B' hB'
    exact r.inj id id' B B' b h1 h1' hw (Ren.cut_some hb).2 (Ren.cut_some hb').2
  · unfold actF at ho
    simp only at ho
    split at ho
    · cases ho
    · exact ho

theorem act_free (r : RW F ρ h w) (hv : viewW h ids = some h0) {b : Nat} (hb : (actF ρ h0 w).blocks b = none) : F.blocks b = none := by
  rcases actF_none hb with ⟨i, B, h1, h2, h3⟩ | hn
  · obtain ⟨-, g1, -⟩ := viewW_get hv i B h1
    obtain ⟨b', o, k1, k2, k3, k4, k5⟩ := r.blk i B g1
    rw [h3] at k1; simp at k1; subst k1
    exact k4 h2
  · cases hF : F.blocks b with
    | none => rfl
    | some o => have := r.fr b o hF; rw [hn] at this; cases this

theorem act_other (r : RW F ρ h w) (hv : viewW h ids = some h0) {id : Nat} (hi : id ∉ ids) {B : Blk} (hB : h.get id = some B) {b : Nat} (hb : ρ id = some b) : ¬ ∃ i B, h0.get i = some B ∧ B.wr = true ∧ ρ i = some b := by
  rintro ⟨i, C, h1, h2, h3⟩
  obtain ⟨g0, g1, -⟩ := viewW_get hv i C h1
  have := r.inj i id C B b g1 hB h2 h3 hb
  subst this
  exact hi g0

theorem act_back (r : RW F ρ h w) (hv : viewW h ids = some h0) (hn : ∀ i ∈ ids, i < top) (r1 : RW (actF ρ h0 w) ρ' h' w') (he : ∀ id, id < top → Ren.eqAt ρ' (ρ.cut top) id) (hb : backH h' ids = some ups) : RW F ρ (ups ++ h) w' := by
  have same : ∀ {id b : Nat}, id ∈ ids → ρ' id = some b → ρ id = some b ∧ ρ.cells id = ρ'.cells id ∧ ρ.base id = ρ'.base id := by
    intro id b hi hr
    have e := he id (hn id hi)
    have e1 : ρ.cut top id = some b := e.f.symm.trans hr
    have e2 := e.cells b e1
    exact ⟨(Ren.cut_some e1).2, e2.1.symm, e2.2.symm⟩
  have back : ∀ {id b : Nat}, id ∈ ids → ρ id = some b → ρ' id = some b := by
    intro id b hi hr
    rw [(he id (hn id hi)).f, Ren.cut_lt (hn id hi)]
    exact hr
  refine ⟨fun id B hB => ?_, fun id id' B B' b hB hB' hw hr hr' => ?_, fun b o ho => ?_, r1.os.trans r.os, r1.tape.trans r.tape, r1.out.trans r.out, r.gc⟩
  · rw [backH_get hb] at hB
    split at hB
    · rename_i hi
      obtain ⟨b, o, h1, h2, h3, h6, h7⟩ := r1.blk id B hB
      obtain ⟨s1, s2, s3⟩ := same hi h1
      have hfl := backH_flat hb id hi B hB
      exact ⟨b, _, s1, h2, h3.keep s3 (fun hh => hh) rfl rfl (fun a ha x hx => namelessM hfl ha hx), fun hwr => act_free r hv (h6 hwr), h7.trans s2.symm⟩
    · rename_i hi
      obtain ⟨b, o, h1, h2, h3, h4, h5⟩ := r.blk id B hB
      exact ⟨b, o, h1, r1.fr b o (actF_some (act_other r hv hi hB h1) h2), h3, h4, h5⟩
  · rw [backH_get hb] at hB hB'
    split at hB
    · rename_i hi
      split at hB'
      · rename_i hi'
        exact r1.inj id id' B B' b hB hB' hw (back hi hr) (back hi' hr')
      · rename_i hi'
        exfalso
        obtain ⟨b0, o, h1, h2, h3, h4, h5⟩ := r1.blk id B hB
        rw [back hi hr] at h1; simp at h1; subst h1
        rcases actF_none (h4 hw) with hx | hx
        · exact act_other r hv hi' hB' hr' hx
        · obtain ⟨b1, o1, k1, k2, -⟩ := r.blk id' B' hB'
          rw [hr'] at k1; simp at k1; subst k1
          rw [hx] at k2; cases k2
    · rename_i hi
      split at hB'
      · rename_i hi'
        obtain ⟨B0, hB0⟩ := viewW_all hv id' hi'
        exact r.inj id id' B B0 b hB hB0 hw hr hr'
      · exact r.inj id id' B B' b hB hB' hw hr hr'
  · refine r1.fr b o (actF_some ?_ (r.fr b o ho))
    rintro ⟨i, C, h1, h2, h3⟩
    obtain ⟨-, g1, -⟩ := viewW_get hv i C h1
    obtain ⟨b', o', k1, k2, k3, k4, k5⟩ := r.blk i C g1
    rw [h3] at k1; simp at k1; subst k1
    rw [k4 h2] at ho; cases ho

theorem act_apart (r : RW F ρ h w) (hv : viewW h ids = some h0) (hn : ∀ i ∈ ids, i < top) (r1 : RW (actF ρ h0 w) ρ' h' w') (he : ∀ id, id < top → Ren.eqAt ρ' (ρ.cut top) id) (hb : backH h' ids = some ups)
    {m : Nat} {B : Blk} (hm : top ≤ m) (hB : h'.get m = some B) (hw : B.wr = true) {b : Nat} (hr : ρ' m = some b) : ∀ j C, AH.get (ups ++ h) j = some C → ρ j ≠ some b := by
  intro j C hj hjb
  rw [backH_get hb] at hj
  split at hj
  · rename_i hi
    have : ρ' j = some b := by rw [(he j (hn j hi)).f, Ren.cut_lt (hn j hi)]; exact hjb
    have := r1.inj m j B C b hB hj hw hr this
    have := hn j hi
    omega
  · rename_i hi
    obtain ⟨b0, o, h1, h2, h3, h4, h5⟩ := r1.blk m B hB
    rw [hr] at h1; simp at h1; subst h1
    rcases actF_none (h4 hw) with hx | hx
    · exact act_other r hv hi hj hjb hx
    · obtain ⟨b1, o1, k1, k2, -⟩ := r.blk j C hj
      rw [hjb] at k1; simp at k1; subst k1
      rw [hx] at k2; cases k2
end

/-! A function gone through where it is called. -/
def stripQ : Tree (AV × AH) → Option (AV × AH)
  | .leaf a => some a
  | .need true t => stripQ t
  | _ => none

theorem stripQ_holds : ∀ {t : Tree (AV × AH)} {r : AV × AH}, stripQ t = some r → t.holds (fun q => q = r)
  | .leaf a, r, h => by simp [stripQ] at h; exact h
  | .need true t, r, h => by simp only [stripQ] at h; exact ⟨rfl, stripQ_holds h⟩
  | .need false t, r, h => by simp [stripQ] at h
  | .br _ _ _, r, h => by simp [stripQ] at h
  | .same _ _ _, r, h => by simp [stripQ] at h
  | .fail, r, h => by simp [stripQ] at h

/-- What comes back: blocks that were handed, and one new one at most. -/
def backQ (top : Nat) (ids : List Nat) (z : Nat) (q : AV × AH) : Option (Bool × AV × AH) :=
  match backH q.2 ids with
  | none => none
  | some ups => match isFlat q.1 || q.1.lt top with
    | true => some (true, q.1, ups)
    | false => match q.1.new top with
      | none => none
      | some m => match q.2.get m with
        | none => none
        | some B => match B.wr && (allLt 0 B.cs && (q.1.okM top m && (Nat.ble top m && B.cell))) with
          | true => some (true, q.1.mv m z, (z, some B) :: ups)
          | false => none

def actG (P : Program) (E : Env) (sym : List Tmp) (lf f : Nat) (args : List AV) (h : AH) (z : Nat) : Option (Bool × AV × AH) :=
  match allLt (topOf (idsOf args)) args with
  | false => none
  | true => match viewW h (idsOf args) with
    | none => none
    | some h0 => match stripQ (afun P E sym (fun _ => none) lf f args h0 (topOf (idsOf args))).strict with
      | none => none
      | some q => backQ (topOf (idsOf args)) (idsOf args) z q

theorem act_ok {P : Program} {E : Env} {sym : List Tmp} {lf f : Nat} (X : Ctx P E sym (fun _ => none) lf f) : ActOk P 1 f (actG P E sym lf f) := by
  obtain ⟨fn, c, hf, hb, hok, htab⟩ := X.body
  have cong : ∀ {args : List AV} {h h' : AH} {z : Nat} {x : Bool × AV × AH}, (∀ i ∈ idsOf args, ∀ B, h.get i = some B → h'.get i = some B) → actG P E sym lf f args h z = some x → actG P E sym lf f args h' z = some x := by
    intro args h h' z x hh hg
    unfold actG at hg ⊢
    split at hg
    · cases hg
    · split at hg
      · cases hg
      · rename_i h0 hv
        simp only [viewW_congr hh hv]
        exact hg
  refine ⟨?_, fun args h h' z x hle hg => cong (fun i _ B hB => hle i B hB) hg, fun F ρ args xs z u h w x hx hw hu hg => cong (fun i hi B hB => by
      rw [AH.get_append, if_neg (fun ⟨p, hp, e⟩ => hx.ids_ne (hu p hp) i hi e.symm)] at hB; exact hB) hg, fun args h z c' r ups hg => ?_⟩
  · intro F ρ args xs h z r ups w hg hx hw hzR
    have hz : ρ z = none := hzR z (inR_self (Nat.le_refl 1))
    unfold actG at hg
    split at hg
    · cases hg
    rename_i hlt
    split at hg
    · cases hg
    rename_i h0 hv
    split at hg
    · cases hg
    rename_i q hq
    have hn : ∀ i ∈ idsOf args, i < topOf (idsOf args) := fun i hi => topOf_lt hi
    have hcall := afun_calls X.env X.mixed hf hb hok (tabOk_none c) (K := fun a h' => (a, h') = q) (Tree.holds_strict (Tree.holds_mono (fun a h => h) (stripQ_holds hq))) (F := actF ρ h0 w)
      (hx.lt_all hlt) (viewW_ok hw hv hn) (fun id hid => Ren.cut_ge hid)
    refine Calls.mono hcall ?_
    rintro e w' ⟨v, q', h', ρ', rfl, hk, hrv, hrw, hsame⟩
    subst hk
    unfold backQ at hg
    split at hg
    · cases hg
    rename_i ups' hbk
    have hback := act_back hw hv hn hrw hsame hbk
    split at hg
    · rename_i hfl
      simp at hg
      obtain ⟨rfl, rfl⟩ := hg
      refine ⟨v, ρ, rfl, Ren.le_refl _, fun _ _ => rfl, ?_, hback⟩
      rw [Bool.or_eq_true] at hfl
      rcases hfl with hfl | hfl
      · unfold isFlat at hfl
        split at hfl
        · rename_i y hy
          rw [hrv.flat_eq hy]
          exact .of_flat hy
        · cases hfl
      · refine (hrv.lt hfl).mono (fun j b hj => ?_)
        obtain ⟨h1, h2⟩ := Ren.cut_some hj
        have e := hsame j h1
        have e1 : ρ.cut (topOf (idsOf args)) j = some b := e.f.symm.trans h2
        have e2 := e.cells b e1
        exact ⟨(Ren.cut_some e1).2, e2.1.symm, e2.2.symm⟩
    · split at hg
      · cases hg
      rename_i m hm
      split at hg
      · cases hg
      rename_i B hB
      split at hg
      · rename_i hc
        simp only [Bool.and_eq_true] at hc
        obtain ⟨c1, c2, c3, c4, c5⟩ := hc
        have c4 := Nat.le_of_ble_eq_true c4
        simp at hg
        obtain ⟨rfl, rfl⟩ := hg
        obtain ⟨b, o, k1, k2, ⟨cx, fr, rfl, k3, k4, k5⟩, k6, k7⟩ := hrw.blkC (getC_mk hB c5)
        have kz := (k3 c1).2
        rw [(k3 c1).1] at k2
        rw [kz, Nat.zero_add] at k4
        rw [kz] at k5
        simp only [Nat.zero_add] at k5
        have had := hback.adopt hz (act_free hw hv (k6 c1)) (act_apart hw hv hn hrw hsame hbk c4 hB c1 k1) B.ty B.cs k2 k4 (fun σ i a x ha hx => nameless c2 ha (k5 i a x ha hx))
        have eB : (⟨true, B.ty, B.cs⟩ : Blk) = B := by
          obtain ⟨wr, ty, cs⟩ := B
          simp at c1; subst c1; rfl
        rw [eB] at had
        refine ⟨v, ρ.upd z b cx.size, rfl, Ren.le_upd hz, fun j hj => Ren.upd_ne ρ (fun e => hj (by subst e; exact inR_self (Nat.le_refl 1))), ?_, had⟩
        refine hrv.mv (ρ'' := ρ.upd z b cx.size) (m := m) (z := z) ⟨fun id hid b' hb' => ?_, fun b' hb' => ?_, c4⟩ c3
        · have e := hsame id hid
          have e1 : ρ.cut (topOf (idsOf args)) id = some b' := e.f.symm.trans hb'
          have e2 := e.cells b' e1
          obtain ⟨g1, g2, g3⟩ := Ren.le_upd (b := b) (n := cx.size) hz id b' (Ren.cut_some e1).2
          exact ⟨g1, g2.trans e2.1.symm, g3.trans e2.2.symm⟩
        · rw [k1] at hb'; simp at hb'; subst hb'
          exact ⟨Ren.upd_same _ _ _ _, (Ren.upd_cells _ _ _ _).trans (by simpa [count] using k7), (Ren.upd_base _ _ _ _).trans kz.symm⟩
      · cases hg
  · unfold actG at hg
    split at hg
    · cases hg
    split at hg
    · cases hg
    rename_i h0 hv
    split at hg
    · cases hg
    unfold backQ at hg
    split at hg
    · cases hg
    rename_i ups' hbk
    have old : ∀ p ∈ ups', inR z 1 p.1 ∨ ∃ B, h.get p.1 = some B := fun p hp => .inr (viewW_all hv _ (backH_dom hbk p hp))
    split at hg
    · simp at hg
      obtain ⟨-, -, rfl⟩ := hg
      exact old
    · split at hg
      · cases hg
      split at hg
      · cases hg
      split at hg
      · simp at hg
        obtain ⟨-, -, rfl⟩ := hg
        intro p hp
        rcases List.mem_cons.1 hp with rfl | hp
        · exact .inl (inR_self (Nat.le_refl 1))
        · exact old p hp
      · cases hg

abbrev ActTab := List (FuncId × (List AV → AH → Nat → Option (Bool × AV × AH)))

def lookAT : ActTab → FuncId → Option (List AV → AH → Nat → Option (Bool × AV × AH))
  | [], _ => none
  | (f, g) :: t, k => bif Nat.beq f k then some g else lookAT t k

theorem lookAT_mem : ∀ {ps : ActTab} {f : FuncId} {g}, lookAT ps f = some g → (f, g) ∈ ps
  | [], f, g, h => by simp [lookAT] at h
  | (k, q) :: t, f, g, h => by
    simp only [lookAT] at h
    cases hb : Nat.beq k f with
    | true => rw [hb] at h; simp at h; subst h; rw [Nat.eq_of_beq_eq_true hb]; simp
    | false => rw [hb] at h; exact List.mem_cons_of_mem _ (lookAT_mem h)

def TabAOk (P : Program) (ps : ActTab) : Prop := ∀ p ∈ ps, Enters P p.1 ∧ ActOk P 1 p.1 p.2
theorem TabAOk.nil {P : Program} : TabAOk P [] := fun p h => by simp at h
theorem TabAOk.cons {P : Program} {f : FuncId} {g : List AV → AH → Nat → Option (Bool × AV × AH)} {t : ActTab} (h1 : Enters P f) (h : ActOk P 1 f g) (r : TabAOk P t) : TabAOk P ((f, g) :: t) := by
  intro p hp
  rcases List.mem_cons.1 hp with rfl | hp
  · exact ⟨h1, h⟩
  · exact r p hp

/-- All kinds of tables; types of strings; an assignment under a bool in a slot of ms is made of both values. -/
def envA (eqs : List (TypeId × List Nat)) (ps : PureTab) (hs : HeapTab) (ls : LayTab) (cs : ActTab) (ss : List TypeId) (ms : List Tmp) (fr : Bool) (ro : List FuncId) : Env := ⟨lookP ps, lookHT hs, lookE eqs, false, true, ss, ms, lookLT ls, none, lookAT cs, fr, ro, 1⟩
theorem envA_ok {P : Program} {eqs : List (TypeId × List Nat)} {ps : PureTab} {hs : HeapTab} {ls : LayTab} {cs : ActTab} {ss : List TypeId} {ms : List Tmp} {fr : Bool} {ro : List FuncId} (he : EqsOk P eqs) (hp : TabPOk P ps) (hh : TabHOk P hs) (hl : TabLOk P ls) (ha : TabAOk P cs) : EnvOk P (envA eqs ps hs ls cs ss ms fr ro) :=
  ⟨fun _ _ h => he _ (lookE_mem h), fun _ _ h => hp _ (lookP_mem h), fun _ _ h => hh _ (lookHT_mem h), fun _ _ h => hl _ (lookLT_mem h), fun _ _ h => ha _ (lookAT_mem h), Nat.le_refl 1⟩

/-! A function of exact arguments that lays one block and hands back what names it, where a condition holds. -/
def layN {α γ : Type} (A : Cod α) (t : TypeId) (C : CC γ) (ok : α → Bool) (R : AV) (F : α → γ) : List AV → Nat → Option (Bool × AV × Blk)
  | [a], z => match A.dec a with
    | none => none
    | some x => some (ok x, R.mv 0 z, ⟨true, t, C.enc (F x)⟩)
  | _, _ => none

def outNm (t : TypeId) (q : AV × AH) : AV := match q.1.new 0 with
  | none => .any
  | some i => match q.2.get i with
    | none => .any
    | some B => match B.wr && (Nat.beq B.ty t && q.1.okM 0 i) with
      | true => .tup [q.1.mv i 0, .agg B.cs]
      | false => .any

def afunN (P : Program) (E : Env) (sym : List Tmp) (lf f : Nat) (t : TypeId) (args : List AV) : Tree AV := (afun P E sym (fun _ => none) lf f args [] 0).bind fun q => .leaf (outNm t q)

theorem outNm_eq {t : TypeId} {q : AV × AH} {R : AV} {cs : List AV} (h : outNm t q = .tup [R, .agg cs]) : ∃ i, q.1.okM 0 i = true ∧ q.1.mv i 0 = R ∧ q.2.get i = some ⟨true, t, cs⟩ := by
  unfold outNm at h
  split at h
  · cases h
  · rename_i i hi
    split at h
    · cases h
    · rename_i B hB
      split at h
      · rename_i hc
        simp only [Bool.and_eq_true] at hc
        simp at h
        obtain ⟨rfl, h2⟩ := h
        refine ⟨i, hc.2.2, rfl, ?_⟩
        rw [hB]
        obtain ⟨wr, ty, cs'⟩ := B
        have e1 : wr = true := hc.1
        have e2 : ty = t := Nat.eq_of_beq_eq_true hc.2.1
        have e3 : cs' = cs := h2
        rw [e1, e2, e3]
      · cases h

theorem mv0_mv0 (a : AV) {i z : Nat} (h : ok0 0 i a = true) : (a.mv0 i 0).mv0 0 z = a.mv0 i z := by
  unfold ok0 at h
  rw [Bool.or_eq_true] at h
  have no : ∀ j, Nat.blt j 0 = true → False := fun j hj => by
    have := Nat.le_of_ble_eq_true hj
    omega
  cases a with
  | ptr j o =>
    rcases h with h | h
    · exact (no j h).elim
    · have e := Nat.eq_of_beq_eq_true h
      subst e
      have hb : Nat.beq j j = true := Nat.beq_refl j
      simp only [AV.mv0, hb, cond_true]
      rfl
  | slc j o l c =>
    rcases h with h | h
    · exact (no j h).elim
    · have e := Nat.eq_of_beq_eq_true h
      subst e
      have hb : Nat.beq j j = true := Nat.beq_refl j
      simp only [AV.mv0, hb, cond_true]
      rfl
  | own j es k l =>
    rcases h with h | h
    · exact (no j h).elim
    · have e := Nat.eq_of_beq_eq_true h
      subst e
      have hb : Nat.beq j j = true := Nat.beq_refl j
      simp only [AV.mv0, hb, cond_true]
      rfl
  | _ => rfl

theorem mvs_mvs {i z : Nat} : ∀ {l : List AV}, allOk0 0 i l = true → Rq.mvs 0 z (Rq.mvs i 0 l) = Rq.mvs i z l
  | [], _ => rfl
  | a :: t, h => by
    simp only [allOk0, Bool.and_eq_true] at h
    simp only [Rq.mvs]
    rw [mv0_mv0 a h.1, mvs_mvs h.2]

theorem mv_mv {a : AV} {i z : Nat} (h : a.okM 0 i = true) : (a.mv i 0).mv 0 z = a.mv i z := by
  cases a with
  | tup cs =>
    show AV.tup (Rq.mvs 0 z (Rq.mvs i 0 cs)) = .tup (Rq.mvs i z cs)
    rw [mvs_mvs h]
  | _ => exact mv0_mv0 (i := i) (z := z) _ h

theorem layN_ok {P : Program} {E : Env} {sym : List Tmp} {lf f : Nat} (X : Ctx P E sym (fun _ => none) lf f) {α γ : Type} {t : TypeId} {A : Cod α} {C : CC γ} {ok : α → Bool} {R : AV} {F : α → γ}
    (hr : ∀ x, ok x = true → (afunN P E sym lf f t [A.enc x]).holds (fun a => a = .tup [R, .agg (C.enc (F x))])) : LayOk P f (layN A t C ok R F) := by
  obtain ⟨fn, c, hf, hb, hok, htab⟩ := X.body
  constructor
  · intro F' ρ args xs h z r Bz w hg hx hw hz
    unfold layN at hg
    split at hg
    · rename_i a
      split at hg
      · cases hg
      rename_i x hd
      simp at hg
      obtain ⟨hk, rfl, rfl⟩ := hg
      obtain ⟨v, ys, rfl, hv, hx'⟩ := hx.uncons
      rw [hx'.unnil]
      have e0 := A.h2 ρ _ _ _ hd hv
      subst e0
      have hq := Tree.holds_bind (g := fun q => .leaf (outNm t q)) (hr x hk)
      have := afun_calls X.env X.mixed hf hb hok htab (K := fun q h' => ∃ i, q.okM 0 i = true ∧ q.mv i 0 = R ∧ h'.get i = some ⟨true, t, C.enc (F x)⟩)
        (Tree.holds_mono (fun q hq => outNm_eq hq) hq) (F := frameOf w) (ρ := Ren.empty) (xs := [A.val x]) (w := w) (.cons (.of_flat (A.h1 x)) .nil) (RW.init w _ hw.gw) (fun _ _ => rfl)
      refine Calls.mono this ?_
      rintro e w' ⟨u, q, h', ρ', rfl, ⟨i, hm, hR, hget⟩, hrv, hrw, _⟩
      obtain ⟨b, o, p1, p2, ⟨cx, fr, rfl, p3, p4, p5⟩, p6, p7⟩ := hrw.blkF hget (C.h1 _)
      have pz := (p3 rfl).2
      rw [(p3 rfl).1] at p2
      rw [pz] at p4 p5
      simp only [Nat.zero_add] at p4 p5
      have hnew : w.heap[b]? = none := p6 rfl
      have hrel := rvs_prefix (ρ := ρ') (cs := C.enc (F x)) (xs := cx.toList) (by simpa using p4) (fun i a x ha hx => p5 i a x ha (by simpa using hx))
      have hval := hrel.flats_eq (C.h1 (F x))
      have hF : F'.blocks b = none := by
        cases hb : F'.blocks b with
        | none => rfl
        | some o => have := hw.fr b o hb; rw [hnew] at this; cases this
      refine ⟨u, ρ.upd z b cx.size, rfl, Ren.le_upd hz, fun j hj => Ren.upd_ne ρ hj, ?_, ?_⟩
      · rw [← hR, mv_mv hm]
        refine hrv.mv (ρ'' := ρ.upd z b cx.size) (m := i) (z := z) (top := 0) ⟨fun id hid => absurd hid (by omega), fun b' hb' => ?_, Nat.zero_le _⟩ hm
        rw [p1] at hb'; simp at hb'; subst hb'
        exact ⟨Ren.upd_same _ _ _ _, (Ren.upd_cells _ _ _ _).trans (by simpa [count] using p7), (Ren.upd_base _ _ _ _).trans pz.symm⟩
      · refine (hw.below hrw.to_below).adopt hz hF (fun j B hj e => ?_) t (C.enc (F x)) p2 p4 (fun σ j a v ha hv => ?_)
        · obtain ⟨b', o', q1, q2, _⟩ := hw.blk j B hj
          rw [q1] at e; simp at e; subst e
          rw [hnew] at q2; cases q2
        · have h8 := Rvs.of_flats (ρ := σ) (C.h1 (F x))
          refine h8.2 j a v ha ?_
          rw [← hval, List.getElem?_take, if_pos (List.getElem?_eq_some_iff.1 ha).1]
          simpa using hv
    · cases hg

/-! Bytes. -/
def bytL (b : Nat → Int) : Nat → Nat → List AV
  | _, 0 => []
  | i, n + 1 => .v (.int .u8 (b i)) :: bytL b (i + 1) n
def bytV (b : Nat → Int) : Nat → Nat → List Value
  | _, 0 => []
  | i, n + 1 => .int .u8 (b i) :: bytV b (i + 1) n
def bytD : Nat → List AV → Option (List Int)
  | 0, [] => some []
  | n + 1, a :: t => match intOf .u8 a, bytD n t with
    | some x, some l => some (x :: l)
    | _, _ => none
  | _, _ => none

theorem bytL_len (b : Nat → Int) : ∀ n i, (bytL b i n).length = n
  | 0, i => rfl
  | n + 1, i => by simp [bytL, bytL_len b n]
theorem bytL_flat (b : Nat → Int) : ∀ n i, flats (bytL b i n) = some (bytV b i n)
  | 0, i => rfl
  | n + 1, i => by simp only [bytL, bytV, flats, scal, bytL_flat b n]
theorem bytD_val {ρ : Ren} : ∀ {n : Nat} {as : List AV} {vs : List Value} {l : List Int} (j : Nat) (f : Nat → Int), bytD n as = some l → Rvs ρ as vs → (∀ i, i < n → f (j + i) = l.getD i 0) → vs = bytV f j n
  | 0, [], vs, l, j, f, h, r, _ => by rw [r.unnil]; rfl
  | 0, _ :: _, vs, l, j, f, h, r, _ => by cases h
  | n + 1, [], vs, l, j, f, h, r, _ => by cases h
  | n + 1, a :: t, vs, l, j, f, h, r, hf => by
    simp only [bytD] at h
    split at h
    · rename_i x m hx hm
      simp at h; subst h
      obtain ⟨v, ys, rfl, hv, ht⟩ := r.uncons
      have h1 := (kInt .u8).h2 ρ a v x hx hv
      have h2 := bytD_val (j + 1) f hm ht (fun i hi => by
        have := hf (i + 1) (by omega)
        rw [show j + 1 + i = j + (i + 1) by omega, this]
        rfl)
      have h3 := hf 0 (by omega)
      rw [h1, h2]
      show Value.int .u8 x :: bytV f (j + 1) n = Value.int .u8 (f j) :: bytV f (j + 1) n
      rw [show f j = x from h3]
    · cases h

/-- So many bytes. -/
def cBy (n : Nat) : CC (Nat → Int) where
  n := n
  enc b := bytL b 0 n
  dec l := match bytD n l with
    | some m => some (fun i => m.getD i 0)
    | none => none
  val b := bytV b 0 n
  len b := bytL_len b n 0
  h1 b := bytL_flat b n 0
  h2 ρ as vs x h r := by
    split at h
    · rename_i m hm
      simp at h; subst h
      exact bytD_val 0 _ hm r (fun i _ => by rw [Nat.zero_add, List.getD_eq_getElem?_getD])
    · cases h
end Go.Rq

/- Functions that write to the slice that they are handed, and hand it back. -/
namespace Go.Rq
open Go

/-- The first argument is a slice that is written to and handed back; the others are exact. -/
def wrS {γ δ : Type} (s : SlA) (t : TypeId) (C : CC γ) (D : MC δ) (F : δ → γ → γ) : List AV → AH → Option (Bool × AV × AH)
  | a :: rest, h => match s.name a, D.dec rest with
    | some i, some z => match blkDecW C t h i with
      | some w => some (true, s.at i, [(i, some ⟨true, t, C.enc (F z w)⟩)])
      | none => none
    | _, _ => none
  | _, _ => none

theorem SlA.ids {s : SlA} {i : Nat} {l : List AV} : i ∈ idsOf (s.at i :: l) := by
  cases s <;> simp [SlA.at, idsOf]

theorem wrS_ok {P : Program} {E : Env} {sym : List Tmp} {lf f : Nat} {c : Code} {fn : Func} (hE : EnvOk P E) (hm : P.follows .mixedOrders = true) (hf : P.funcs.toList[f]? = some fn) (hb : fn.body = some c)
    (hok : codeOk E c = true) {γ δ : Type} {s : SlA} {t : TypeId} {D : MC δ} {C : CC γ} {F : δ → γ → γ}
    (hr : ∀ z w, (afunW P E sym lf f t (s.at 0 :: D.enc z) (C.enc w)).holds (fun a => a = .tup [s.at 0, .agg (C.enc (F z w))])) : HeapOk P f (wrS s t C D F) := by
  have key : ∀ {args : List AV} {h : AH} {o : Bool × AV × AH}, wrS s t C D F args h = some o → ∃ i rest z w, args = s.at i :: rest ∧ D.dec rest = some z ∧ blkDecW C t h i = some w ∧ s.name (s.at i) = some i ∧ o = (true, s.at i, [(i, some ⟨true, t, C.enc (F z w)⟩)]) := by
    intro args h o hg
    unfold wrS at hg
    split at hg
    · rename_i a rest
      split at hg
      · rename_i i z hi hz
        split at hg
        · rename_i w hw
          simp at hg
          have e := SlA.name_eq hi
          subst e
          exact ⟨i, rest, z, w, rfl, hz, hw, hi, hg.symm⟩
        · cases hg
      · cases hg
    · cases hg
  have again : ∀ {args : List AV} {h h' : AH} {o : Bool × AV × AH}, wrS s t C D F args h = some o → (∀ i, i ∈ idsOf args → ∀ B, h.get i = some B → h'.get i = some B) → wrS s t C D F args h' = some o := by
    intro args h h' o hg hh
    obtain ⟨i, rest, z, w, rfl, hz, hw, hi, rfl⟩ := key hg
    unfold wrS
    simp only [hi, hz, blkDecW_congr (hh i SlA.ids) hw]
  refine ⟨?_, fun args h h' x hle hg => again hg (fun i _ B hB => hle i B hB), fun ρ args xs z b h x hx hz hg => again hg (fun i hi B hB => by
      rw [AH.get_cons, if_neg (fun e => hx.ids_ne hz i hi e.symm)] at hB; exact hB), fun args h c' r ups hg => ?_, fun args h h' x hh hg => again hg hh⟩
  · intro F' ρ args xs h r ups w hg hx hw
    obtain ⟨i, rest, z, w0, rfl, h0, h1, hi, ho⟩ := key hg
    simp at ho
    obtain ⟨rfl, rfl⟩ := ho
    obtain ⟨v1, xs1, rfl, hv1, hx1⟩ := hx.uncons
    have e0 := D.h2 ρ _ _ _ h0 hx1
    subst e0
    unfold blkDecW at h1
    split at h1
    · cases h1
    rename_i Bk hBk
    split at h1
    · cases h1
    rename_i hc
    simp only [Bool.and_eq_true] at hc
    obtain ⟨c1, c2⟩ := hc
    have c2 := Nat.eq_of_beq_eq_true c2
    obtain ⟨b, o, p1, p2, ⟨cx, fr, rfl, p3, p4, p5⟩, p6, p7⟩ := hw.blkC hBk
    have pz := (p3 c1).2
    rw [(p3 c1).1, c2] at p2
    rw [pz] at p4 p5
    simp only [Nat.zero_add] at p4 p5
    have hpre := rvs_prefix (ρ := ρ) (cs := Bk.cs) (xs := cx.toList) (by simpa using p4) (fun i a x ha hx => p5 i a x ha (by simpa using hx))
    have hval := C.h2 ρ _ _ _ h1 hpre
    have hlen : (C.enc w0).length = Bk.cs.length := by
      have := (Rvs.of_flats (ρ := ρ) (C.h1 w0)).1
      rw [this, ← hval]; exact hpre.1.symm
    let F1 : Fr := ⟨fun k => if k = b then none else w.heap[k]?, w.os, w.tape, w.output⟩
    let σ : Ren := ⟨fun id => if id = 0 then some b else none, fun _ => cx.size, fun _ => 0⟩
    have hσ : σ 0 = some b := rfl
    have hgc : GF F1 := fun g cs e => by
      obtain ⟨xs, ty, fr, g1, g2⟩ := hw.gc g cs e
      refine ⟨xs, ty, fr, ?_, g2⟩
      show (if g = b then none else w.heap[g]?) = _
      rw [if_neg (fun e => by rw [e, p6 c1] at g1; cases g1)]
      exact hw.fr _ _ g1
    have hRW : RW F1 σ [(0, some ⟨true, t, C.enc w0⟩)] w := by
      refine ⟨fun id B hB => ?_, fun id id' B B' d hB hB' _ => ?_, fun k o hk => ?_, rfl, rfl, rfl, hgc⟩
      · rw [AH.get_cons] at hB
        split at hB
        · rename_i e; subst e; simp at hB; subst hB
          refine ⟨b, _, hσ, p2, .inl ⟨cx, (0, 0), rfl, fun _ => ⟨rfl, rfl⟩, by show 0 + (C.enc w0).length ≤ cx.size; rw [hlen, Nat.zero_add]; exact p4, fun j a v ha hv => ?_⟩, fun _ => if_pos rfl, rfl⟩
          rw [show σ.base 0 = 0 from rfl, Nat.zero_add] at hv
          have h8 := Rvs.of_flats (ρ := σ) (C.h1 w0)
          refine h8.2 j a v ha ?_
          rw [← hval, List.getElem?_take, if_pos (by rw [← hlen]; exact (List.getElem?_eq_some_iff.1 ha).1)]
          simpa using hv
        · simp [AH.get] at hB
      · have e : ∀ {k : Nat} {D : Blk}, AH.get [(0, some ⟨true, t, C.enc w0⟩)] k = some D → k = 0 := by
          intro k D hk
          rw [AH.get_cons] at hk
          split at hk
          · rename_i e; exact e.symm
          · simp [AH.get] at hk
        intro _ _
        rw [e hB, e hB']
      · have hk' : (if k = b then none else w.heap[k]?) = some o := hk
        split at hk'
        · cases hk'
        · exact hk'
    obtain ⟨b', q1, q2⟩ := SlA.moved (σ := σ) (j := 0) hv1
    rw [p1] at q1; simp at q1; subst q1
    have hs0 := q2 hσ p7 pz.symm
    have hq1 : (afun P E sym (fun _ => none) lf f (s.at 0 :: D.enc z) [(0, some ⟨true, t, C.enc w0⟩)] 1).holds (fun q : AV × AH => outW t q = .tup [s.at 0, .agg (C.enc (F z w0))]) := Tree.holds_bind (g := fun q => .leaf (outW t q)) (hr z w0)
    have hcalls := afun_calls hE hm hf hb hok (tabOk_none c) (K := fun q h' => q = s.at 0 ∧ h'.get 0 = some ⟨true, t, C.enc (F z w0)⟩)
      (Tree.holds_mono (fun q hq => outW_eq hq) hq1)
      (F := F1) (xs := v1 :: D.val z) (.cons hs0 (Rvs.of_flatL (D.h1 z))) hRW (fun id hid => by show (if id = 0 then some b else none) = none; rw [if_neg (by omega)])
    refine Calls.mono hcalls ?_
    rintro e w' ⟨v, q, h', ρ', rfl, ⟨rfl, hget⟩, hrv, hrw, hsame⟩
    obtain ⟨b', o', q1, q2, ⟨ys, fr', rfl, q3, q4, q5⟩, q6, q7⟩ := hrw.blkF hget (C.h1 _)
    obtain ⟨s1, s2⟩ := hsame 0 (by omega)
    rw [s1, hσ] at q1; simp at q1; subst q1
    rw [(q3 rfl).2, Nat.zero_add] at q4
    simp only [(q3 rfl).2, Nat.zero_add] at q5
    rw [(q3 rfl).1] at q2
    have q7 : ys.size = ρ'.cells 0 := q7
    have q8 := q7
    rw [(s2 b hσ).1] at q7
    refine ⟨v, rfl, ?_, ?_⟩
    · obtain ⟨b2, m1, m2⟩ := SlA.moved (σ := ρ) (j := i) hrv
      rw [s1, hσ] at m1; simp at m1; subst m1
      exact m2 p1 (by rw [← q8, q7]; exact p7.symm) (by rw [pz]; exact (q3 rfl).2.symm)
    · have hst := hw.wrote (w' := w') (getC_get hBk) p1 c1 (xs := cx) (by rw [c2]; exact p2) (C.enc (F z w0)) ys pz q7 q4 (fun j a v ha hv => by
        have h9 := Rvs.of_flats (ρ := ρ) (C.h1 (F z w0))
        have hlt : j < (C.enc (F z w0)).length := (List.getElem?_eq_some_iff.1 ha).1
        obtain ⟨u, hu, hau⟩ := h9.getD ha
        have hr' : Rvs ρ' (C.enc (F z w0)) (ys.toList.take (C.enc (F z w0)).length) := rvs_prefix (by simpa using q4) (fun i a x ha hx => q5 i a x ha (by simpa using hx))
        have hfl := hr'.flats_eq (C.h1 (F z w0))
        have : (ys.toList.take (C.enc (F z w0)).length)[j]? = some v := by rw [List.getElem?_take, if_pos hlt]; simpa using hv
        rw [hfl, hu] at this
        simp at this; subst this
        exact hau) (by rw [c2]; exact q2) (fun k o hk hko => hrw.fr k o (by show (if k = b then none else w.heap[k]?) = some o; rw [if_neg hk]; exact hko)) hrw.os hrw.tape hrw.out
      rw [c1, c2] at hst
      exact hst
  · obtain ⟨i, rest, z, w, rfl, h0, h1, hi, ho⟩ := key hg
    simp at ho
    obtain ⟨_, _, rfl⟩ := ho
    intro p hp
    simp at hp; subst hp
    unfold blkDecW at h1
    split at h1
    · cases h1
    · rename_i Bk hBk; exact ⟨Bk, getC_get hBk⟩
end Go.Rq

/- Functions that read one block by a pointer, with a loop; one datum alone; multiples by the bits. -/
namespace Go.Rq
open Go

theorem rdpT_ok {β γ δ : Type} {P : Program} {E : Env} {sym : List Tmp} {lf f : Nat} {tab : γ → δ → BTab} {c : Code} {fn : Func} (hE : EnvOk P E) (hm : P.follows .mixedOrders = true) (hf : P.funcs.toList[f]? = some fn) (hb : fn.body = some c)
    (hok : codeOk E c = true) {D : MC δ} {C : CC γ} {B : Cod β} {F : γ → δ → β} {t : TypeId}
    (htab : ∀ x z, TabOk P 1 (tab x z) c)
    (hr : ∀ x z, GivesH (afun P E sym (tab x z) lf f (.ptr 0 0 :: D.enc z) (oneAH C t x) 1) (B.val (F x z))) : HeapOk P f (rdp t C D B F) := by
  have key : ∀ {as : List AV} {h : AH} {o : Bool × AV × AH}, rdp t C D B F as h = some o → ∃ i rest x z, as = .ptr i 0 :: rest ∧ D.dec rest = some z ∧ blkDec C t h i = some x ∧ o = (true, B.enc (F x z), []) := by
    intro as h o hg
    unfold rdp at hg
    split at hg
    · rename_i i rest
      split at hg
      · rename_i x z hx hz
        simp at hg
        exact ⟨i, rest, x, z, rfl, hz, hx, hg.symm⟩
      · cases hg
    · cases hg
  have again : ∀ {as : List AV} {h h' : AH} {o : Bool × AV × AH}, rdp t C D B F as h = some o → (∀ i, i ∈ idsOf as → ∀ B, h.get i = some B → h'.get i = some B) → rdp t C D B F as h' = some o := by
    intro as h h' o hg hh
    obtain ⟨i, rest, x, z, rfl, hz, hx, rfl⟩ := key hg
    have hi : i ∈ idsOf (.ptr i 0 :: rest) := by simp [idsOf]
    unfold rdp
    simp only [hz, blkDec_congr (hh i hi) hx]
  refine ⟨?_, fun as h h' x hle hg => again hg (fun i _ B hB => hle i B hB), fun ρ as xs z b h x hx hz hg => again hg (fun i hi B hB => by
      rw [AH.get_cons, if_neg (fun e => hx.ids_ne hz i hi e.symm)] at hB; exact hB), fun as h c' r ups hg => ?_, fun as h h' x hh hg => again hg hh⟩
  · intro F' ρ as xs h r ups w hg hx hw
    obtain ⟨i, rest, x, z, rfl, hz, h1, ho⟩ := key hg
    simp at ho
    obtain ⟨rfl, rfl⟩ := ho
    obtain ⟨u, xs', rfl, hu, hx'⟩ := hx.uncons
    have hpv := D.h2 ρ _ _ _ hz hx'
    subst hpv
    obtain ⟨b, cx, fr, p1, p2, p3, p4, p5⟩ := blk_again hw h1
    let σ : Ren := ⟨fun id => if id = 0 then some b else none, fun _ => cx.size, fun _ => ρ.base i⟩
    have hσ : σ 0 = some b := rfl
    have hRW : RW (frameOf w) σ (oneAH C t x) w := by
      refine ⟨fun id B hB => ?_, fun id id' B B' d hB hB' hwr => ?_, fun _ _ h => h, rfl, rfl, rfl, hw.gw⟩
      · unfold oneAH at hB
        rw [AH.get_cons] at hB
        split at hB
        · rename_i e; subst e; simp at hB; subst hB
          exact ⟨b, _, hσ, p2, .inl ⟨cx, fr, rfl, (fun h => by cases h), p4, fun k a v ha hv => p5 σ k a v ha hv⟩, (fun h => by cases h), rfl⟩
        · simp [AH.get] at hB
      · unfold oneAH at hB
        rw [AH.get_cons] at hB
        split at hB
        · simp at hB; subst hB; cases hwr
        · simp [AH.get] at hB
    cases hu with
    | ptr hsb =>
      rw [p1] at hsb; simp at hsb; subst hsb
      have := afun_calls hE hm hf hb hok (htab x z) (K := fun q _ => flat q = some (B.val (F x z))) (hr x z).out (F := frameOf w) (.cons (show Rv σ (.ptr 0 0) (.pointer (some ⟨b, ρ.base i + 0, none⟩)) from Rv.ptr (ρ := σ) hσ) (Rvs.of_flatL (D.h1 z))) hRW (fun id hid => by show (if id = 0 then some b else none) = none; rw [if_neg (by omega)])
      refine Calls.mono this ?_
      rintro e w' ⟨v', q', h', ρ', rfl, hk', hrv, hrw, _⟩
      have := hrv.flat_eq hk'
      subst this
      exact ⟨_, rfl, .of_flat (B.h1 _), hw.below hrw.to_below⟩
  · obtain ⟨i, rest, x, z, _, _, _, ho⟩ := key hg
    simp at ho
    obtain ⟨_, _, rfl⟩ := ho
    simp


/-- One datum alone. -/
def ccIs {α : Type} (C : CC α) (y : α) (eqb : α → α → Bool) (h : ∀ x, eqb x y = true → x = y) : CC Unit where
  n := C.n
  enc _ := C.enc y
  dec l := match C.dec l with
    | some x => bif eqb x y then some () else none
    | none => none
  val _ := C.val y
  len _ := C.len y
  h1 _ := C.h1 y
  h2 ρ as vs x hd r := by
    split at hd
    · rename_i z hz
      cases hb : eqb z y with
      | false => rw [hb] at hd; cases hd
      | true => rw [C.h2 ρ _ _ _ hz r, h z hb]
    · cases hd

theorem wrapI {n : Int} (h0 : -9223372036854775808 ≤ n) (h1 : n < 9223372036854775808) : IntKind.i64.wrap n = n := by
  simp only [IntKind.wrap, IntKind.bits, IntKind.signed]
  simp
  omega

/-! Twice, and once more where a bit is set. -/
def sqG {A : Type} (tw su : A → A) (bt : Int → Int) : Nat → A → A
  | 0, u => u
  | k + 1, u => sqG tw su bt k (bif bt (k : Int) == 1 then su (tw u) else tw u)

theorem sq_law {A : Type} (tw su : A → A) (bt : Int → Int) (rt : XS → Tree (AExit × XS)) (I : Int × A → XS) (hr : ∀ (z : Int) (out : A), (rt (I (z, out))).strict =
    .br (decide (z ≥ 0))
      (.br (bt z == 1)
        (.leaf (.normal, I (IntKind.i64.wrap (z - 1), su (tw out))))
        (.leaf (.normal, I (IntKind.i64.wrap (z - 1), tw out))))
      (.leaf (.exit 0, I (z, out)))) {R : A} {Q : AExit → XS → Prop} (hK : Q .normal (I (-1, R))) :
    ∀ d : Int × A, (-1 ≤ d.1 ∧ d.1 ≤ 383 ∧ sqG tw su bt (d.1 + 1).toNat d.2 = R) → (rt (I d)).holds (fun r => match r.1 with
      | .normal => ∃ j : Int × A, (-1 ≤ j.1 ∧ j.1 ≤ 383 ∧ sqG tw su bt (j.1 + 1).toNat j.2 = R) ∧ (j.1 + 1).toNat < (d.1 + 1).toNat ∧ r.2 = I j
      | .exit q => if q = 0 then Q .normal r.2 else Q (.exit q) r.2
      | .ret => Q .ret r.2) := by
  rintro ⟨z, out⟩ ⟨h0, h1, h2⟩
  apply Tree.holds_strict
  rw [hr]
  refine ⟨fun hz => ?_, fun hz => ?_⟩
  · have hz : 0 ≤ z := by simpa using hz
    have hw : IntKind.i64.wrap (z - 1) = z - 1 := wrapI (by omega) (by omega)
    have hk : (z + 1).toNat = z.toNat + 1 := by omega
    simp only at h2
    rw [hk] at h2
    simp only [sqG] at h2
    rw [show ((z.toNat : Nat) : Int) = z by omega] at h2
    have hk' : (z - 1 + 1).toNat = z.toNat := by omega
    refine ⟨fun hb => ⟨⟨z - 1, su (tw out)⟩, ⟨by simp only; omega, by simp only; omega, ?_⟩, ?_, ?_⟩, fun hb => ⟨⟨z - 1, tw out⟩, ⟨by simp only; omega, by simp only; omega, ?_⟩, ?_, ?_⟩⟩
    · rw [hb] at h2
      simp only [hk']
      exact h2
    · show (z - 1 + 1).toNat < (z + 1).toNat
      omega
    · rw [hw]
    · rw [hb] at h2
      simp only [hk']
      exact h2
    · show (z - 1 + 1).toNat < (z + 1).toNat
      omega
    · rw [hw]
  · have hz : z = -1 := by
      have : ¬ 0 ≤ z := by simpa using hz
      omega
    subst hz
    have h2 : out = R := h2
    show (if (0 : Nat) = 0 then Q .normal (I (-1, out)) else Q (.exit 0) (I (-1, out)))
    rw [if_pos rfl, h2]
    exact hK
end Go.Rq
