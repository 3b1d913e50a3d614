/- Whole functions, gone through by the abstract machine. -/
import Derived.Test.YtdbcjiggimppdaaRqL
namespace Go.Rq
open Go

/-- Whether a value names blocks below a number alone (one level deep). -/
def AV.lt0 (n : Nat) : AV → Bool
  | .any => true
  | .v _ => true
  | .lit _ => true
  | .u _ => true
  | .bit _ => true
  | .ptr id _ => Nat.blt id n
  | .slc id _ _ _ => Nat.blt id n
  | .own id _ _ _ => Nat.blt id n
  | .fn _ [] [] => true
  | _ => false

def allLt0 (n : Nat) : List AV → Bool
  | [] => true
  | a :: t => a.lt0 n && allLt0 n t

def AV.lt (n : Nat) : AV → Bool
  | .agg cs => allLt0 n cs
  | .tup cs => allLt0 n cs
  | .fn _ as bs => allLt0 n as && allLt0 n bs
  | .ifc _ a => a.lt0 n
  | a => a.lt0 n

/-- Slots that are not kept are forgotten. -/
def trimTm (keep : List Tmp) (n : Nat) : List AV → Nat → Option (List AV)
  | [], _ => some []
  | a :: t, i => match trimTm keep n t (i + 1) with
    | none => none
    | some l => bif memb i keep then (bif a.lt n then some (a :: l) else none) else some (.any :: l)

def allLt (n : Nat) : List AV → Bool
  | [] => true
  | a :: t => a.lt n && allLt n t

/-- The blocks that are kept, in their order. -/
def trimH (n : Nat) (h : AH) : List Nat → Option AH
  | [] => some []
  | i :: t => match AH.get h i with
    | none => none
    | some B => match trimH n h t with
      | none => none
      | some l => bif allLt n B.cs then some ((i, some B) :: l) else none

/-- A state of which less is known: some slots, some blocks; names below n alone. -/
def trim (keep : List Tmp) (ids : List Nat) (n : Nat) (x : XS) : Option XS :=
  match trimTm keep n x.s.tm 0, trimH n x.s.h ids with
  | some tm, some h => some ⟨⟨tm, h, true⟩, n⟩
  | _, _ => none

/-- A block of code that is told: what is known ahead of it (which slots and blocks, the state), and what comes of it. -/
structure BEnt where
  keep : List Tmp
  ids : List Nat
  n : Nat
  pre : XS
  post : Tree (AExit × XS)

abbrev BTab := Nat → Option BEnt

theorem Rv.lt0 {ρ : Ren} {n : Nat} {a : AV} {x : Value} (h : Rv ρ a x) (e : a.lt0 n = true) : Rv (ρ.cut n) a x := by
  cases h with
  | any x => exact .any x
  | v x => exact .v x
  | lit b => exact .lit b
  | u x => exact .u x
  | bit b => exact .bit b
  | @ptr id off b hb =>
    have hlt : id < n := Nat.le_of_ble_eq_true e
    exact .ptr (by rw [Ren.cut_lt hlt]; exact hb)
  | @slc id off len cap b hb =>
    have hlt : id < n := Nat.le_of_ble_eq_true e
    exact .slc (by rw [Ren.cut_lt hlt]; exact hb)
  | @own id es k len b cap hb hc hl hm =>
    have hlt : id < n := Nat.le_of_ble_eq_true e
    exact .own (by rw [Ren.cut_lt hlt]; exact hb) hc hl hm
  | agg _ _ => simp [AV.lt0] at e
  | tup _ _ => simp [AV.lt0] at e
  | @fn f as bs xs ys hl h kl k =>
    cases as with
    | cons => simp [AV.lt0] at e
    | nil =>
      cases bs with
      | cons => simp [AV.lt0] at e
      | nil => exact .fn hl (fun i a x ha => by simp at ha) kl (fun i a x ha => by simp at ha)
  | ifc _ => simp [AV.lt0] at e

theorem Rvs.lt0 {ρ : Ren} {n : Nat} : ∀ {as : List AV} {xs : List Value}, Rvs ρ as xs → allLt0 n as = true → Rvs (ρ.cut n) as xs
  | [], xs, h, _ => by rw [h.unnil]; exact .nil
  | a :: t, xs, h, e => by
    obtain ⟨x, ys, rfl, hx, ht⟩ := h.uncons
    simp only [allLt0, Bool.and_eq_true] at e
    exact .cons (hx.lt0 e.1) (Rvs.lt0 ht e.2)

theorem Rv.lt {ρ : Ren} {n : Nat} {a : AV} {x : Value} (h : Rv ρ a x) (e : a.lt n = true) : Rv (ρ.cut n) a x := by
  cases a with
  | agg cs => obtain ⟨xs, rfl, hx⟩ := h.agg_iff; simpa using Rv.agg_mk (Rvs.lt0 hx e)
  | tup cs => obtain ⟨xs, rfl, hx⟩ := h.tup_iff; simpa using Rv.tup_mk (Rvs.lt0 hx e)
  | fn f as bs =>
    obtain ⟨xs, ys, rfl, hx, hy⟩ := h.fn_iff
    simp only [AV.lt, Bool.and_eq_true] at e
    simpa using Rv.fn_mk (f := f) (Rvs.lt0 hx e.1) (Rvs.lt0 hy e.2)
  | ifc t a => cases h with | ifc h => exact .ifc (h.lt0 e)
  | _ => exact h.lt0 e

theorem allLt_spec {n : Nat} : ∀ {l : List AV}, allLt n l = true → ∀ a ∈ l, a.lt n = true
  | [], _, a, h => by simp at h
  | b :: t, e, a, h => by
    simp only [allLt, Bool.and_eq_true] at e
    rcases List.mem_cons.1 h with rfl | h
    · exact e.1
    · exact allLt_spec e.2 a h

theorem trimTm_spec {ρ : Ren} {keep : List Tmp} {n : Nat} : ∀ {as : List AV} {xs : List Value} {i : Nat} {l : List AV}, Rvs ρ as xs → trimTm keep n as i = some l → Rvs (ρ.cut n) l xs
  | [], xs, i, l, h, e => by simp [trimTm] at e; subst e; rw [h.unnil]; exact .nil
  | a :: t, xs, i, l, h, e => by
    obtain ⟨x, ys, rfl, hx, ht⟩ := h.uncons
    simp only [trimTm] at e
    split at e
    · cases e
    · rename_i m hm
      have := trimTm_spec ht hm
      cases hk : memb i keep with
      | false => rw [hk] at e; simp at e; subst e; exact .cons (.any _) this
      | true =>
        rw [hk] at e
        cases hl : a.lt n with
        | false => rw [hl] at e; simp at e
        | true => rw [hl] at e; simp at e; subst e; exact .cons (hx.lt hl) this

theorem trimH_get {n : Nat} {h : AH} : ∀ {ids : List Nat} {l : AH}, trimH n h ids = some l → ∀ id B, l.get id = some B → h.get id = some B ∧ allLt n B.cs = true
  | [], l, e, id, B, g => by simp [trimH] at e; subst e; simp [AH.get] at g
  | i :: t, l, e, id, B, g => by
    simp only [trimH] at e
    split at e
    · cases e
    · rename_i C hC
      split at e
      · cases e
      · rename_i m hm
        cases hl : allLt n C.cs with
        | false => rw [hl] at e; simp at e
        | true =>
          rw [hl] at e; simp at e; subst e
          rw [AH.get_cons] at g
          split at g
          · rename_i hi; subst hi; simp at g; subst g; exact ⟨hC, hl⟩
          · exact trimH_get hm id B g

/-- What fits a state fits one of which less is known. -/
theorem trim_sim {F : Fr} {ds : List Deferred} {ρ : Ren} {keep : List Tmp} {ids : List Nat} {n m : Nat} {x y : XS} {a : Act} {w : World} (hs : Sim F ds ρ x.s a w) (ht : trim keep ids n x = some y) (hid : ∀ i ∈ ids, i < n) (hmn : m ≤ n) :
    ∃ ρ', Sim F ds ρ' y.s a w ∧ m ≤ y.n ∧ (∀ id, y.n ≤ id → ρ' id = none) ∧ (∀ id, id < m → ρ' id = ρ id) := by
  unfold trim at ht
  split at ht
  · rename_i tm h htm hh
    simp at ht; subst ht
    refine ⟨ρ.cut n, ⟨trimTm_spec hs.tm htm, ?_, hs.ds⟩, hmn, fun id hge => Ren.cut_ge hge, fun id hlt => Ren.cut_lt (by omega)⟩
    have key : ∀ id B, h.get id = some B → id ∈ ids := by
      intro id B hB
      clear htm
      revert h
      induction ids with
      | nil => intro h hh hB; simp [trimH] at hh; subst hh; simp [AH.get] at hB
      | cons i t ih =>
        intro h hh hB
        simp only [trimH] at hh
        split at hh
        · cases hh
        · split at hh
          · cases hh
          · rename_i C _ _ l hl
            cases hlt : allLt n C.cs with
            | false => rw [hlt] at hh; simp at hh
            | true =>
              rw [hlt] at hh; simp at hh; subst hh
              rw [AH.get_cons] at hB
              split at hB
              · rename_i hi; subst hi; simp
              · exact List.mem_cons_of_mem _ (ih (fun j hj => hid j (by simp [hj])) l hl hB)
    refine ⟨fun id B hB => ?_, fun id id' B B' b hB hB' hw hb hb' => ?_, hs.h.fr, hs.h.os, hs.h.tape, hs.h.out⟩
    · obtain ⟨hg, hl⟩ := trimH_get hh id B hB
      obtain ⟨b, o, h1, h2, ⟨xs, fr, rfl, h3, h4, h5⟩, h6⟩ := hs.h.blk id B hg
      have hlt := hid id (key id B hB)
      exact ⟨b, _, by rw [Ren.cut_lt hlt]; exact h1, h2, ⟨xs, fr, rfl, h3, h4, fun i a' x' ha hx => (h5 i a' x' ha hx).lt (allLt_spec hl a' (List.mem_of_getElem? ha))⟩, h6⟩
    · have h1 := (trimH_get hh id B hB).1
      have h2 := (trimH_get hh id' B' hB').1
      rw [Ren.cut_lt (hid id (key id B hB))] at hb
      rw [Ren.cut_lt (hid id' (key id' B' hB'))] at hb'
      exact hs.h.inj id id' B B' b h1 h2 hw hb hb'
  · cases ht

def allBlt (n : Nat) : List Nat → Bool
  | [] => true
  | i :: t => Nat.blt i n && allBlt n t

theorem allBlt_spec {n : Nat} : ∀ {l : List Nat}, allBlt n l = true → ∀ i ∈ l, i < n
  | [], _, i, h => by simp at h
  | j :: t, e, i, h => by
    simp only [allBlt, Bool.and_eq_true] at e
    rcases List.mem_cons.1 h with rfl | h
    · exact Nat.le_of_ble_eq_true e.1
    · exact allBlt_spec e.2 i h

/-- A loop, round by round: at most so many. -/
def iter (f : XS → Tree (AExit × XS)) : Nat → XS → Tree (AExit × XS)
  | 0, _ => .fail
  | k + 1, x => (f x).bind fun (e, y) => match e with
    | .normal => iter f k y
    | e => .leaf (e, y)

def boolOf : AV → Option Bool
  | .lit b => some b
  | .v (.bool b) => some b
  | _ => none

def exec (P : Program) (E : Env) (sym : List Tmp) (tab : BTab) (lf : Nat) : Code → XS → Tree (AExit × XS)
  | .skip, x => .leaf (.normal, x)
  | .label _, x => .leaf (.normal, x)
  | .ret, x => .leaf (.ret, x)
  | .exit id, x => .leaf (.exit id, x)
  | .region _ ops d, x => bif E.late && (d && !chk E ops) then .fail else (runT P E sym x.n ops (rangeL 0 ops.size []) x.s).bind fun s => .leaf (.normal, ⟨s, x.n + ops.size⟩)
  | .seq a b, x => (exec P E sym tab lf a x).bind fun (e, y) => match e with
    | .normal => exec P E sym tab lf b y
    | e => .leaf (e, y)
  | .cond c a b, x => match boolOf (look x.s.tm c) with
    | some true => exec P E sym tab lf a x
    | some false => exec P E sym tab lf b x
    | none => .fail
  | .block id c, x => match tab id with
    | some b => match trim b.keep b.ids b.n x with
      | some y => .same y b.pre (.need (allBlt b.n b.ids) b.post)
      | none => .fail
    | none => (exec P E sym tab lf c x).bind fun (e, y) => match e with
      | .exit i => bif Nat.beq i id then .leaf (.normal, y) else .leaf (e, y)
      | e => .leaf (e, y)
  | .loop c, x => iter (exec P E sym tab lf c) lf x
  | _, _ => .fail

/-- What is told of blocks of the code is so. -/
def TabOk (P : Program) (m : Nat) (tab : BTab) : Code → Prop
  | .block id c => match tab id with
    | some b => m ≤ b.n ∧ ∀ F ds K, b.post.holds (fun r => K r.1 r.2) → Tri P F ds m (.block id c) b.pre K
    | none => TabOk P m tab c
  | .seq a b => TabOk P m tab a ∧ TabOk P m tab b
  | .cond _ a b => TabOk P m tab a ∧ TabOk P m tab b
  | .loop c => TabOk P m tab c
  | _ => True

/-- All regions that draw an order come to the same in whatever order. -/
def codeOk (E : Env) : Code → Bool
  | .region _ ops d => E.late || (!d || chk E ops)
  | .seq a b => codeOk E a && codeOk E b
  | .cond _ a b => codeOk E a && codeOk E b
  | .block _ c => codeOk E c
  | .loop c => codeOk E c
  | _ => true

theorem Tri.mono {P : Program} {F : Fr} {ds : List Deferred} {m : Nat} {c : Code} {x : XS} {K L : AExit → XS → Prop} (h : ∀ e y, K e y → L e y) (t : Tri P F ds m c x K) : Tri P F ds m c x L :=
  fun ρ a w hs hm hf => wp_mono (t ρ a w hs hm hf) fun _ _ _ ⟨e', y, ρ', hk, r⟩ => ⟨e', y, ρ', h _ _ hk, r⟩

theorem Tri.seq {P : Program} {F : Fr} {ds : List Deferred} {m : Nat} {a b : Code} {x : XS} {K L : AExit → XS → Prop} (h : Tri P F ds m a x K)
    (hb : ∀ y, K .normal y → Tri P F ds m b y L) (ho : ∀ e y, e ≠ .normal → K e y → L e y) : Tri P F ds m (.seq a b) x L := by
  intro ρ ac w hs hm hf
  refine wp_seq (wp_mono (h ρ ac w hs hm hf) ?_)
  rintro e a' w' ⟨e', y, ρ', hk, he, hs', hm', hf', hp⟩
  cases e' with
  | normal =>
    cases e <;> simp only [AExit.is] at he
    refine wp_mono (hb y hk ρ' a' w' hs' hm' hf') ?_
    rintro e2 a2 w2 ⟨e2', z, ρ2, hk2, he2, hs2, hm2, hf2, hp2⟩
    exact ⟨e2', z, ρ2, hk2, he2, hs2, hm2, hf2, fun id hid => (hp2 id hid).trans (hp id hid)⟩
  | exit i =>
    cases e <;> simp only [AExit.is] at he
    exact ⟨.exit i, y, ρ', ho _ _ (by simp) hk, he, hs', hm', hf', hp⟩
  | ret =>
    cases e <;> simp only [AExit.is] at he
    exact ⟨.ret, y, ρ', ho _ _ (by simp) hk, trivial, hs', hm', hf', hp⟩

theorem Tri.block {P : Program} {F : Fr} {ds : List Deferred} {m id : Nat} {c : Code} {x : XS} {L : AExit → XS → Prop}
    (h : Tri P F ds m c x (fun e y => match e with
      | .exit i => if i = id then L .normal y else L (.exit i) y
      | e => L e y)) : Tri P F ds m (.block id c) x L := by
  intro ρ ac w hs hm hf
  refine wp_block (wp_mono (h ρ ac w hs hm hf) ?_)
  rintro e a' w' ⟨e', y, ρ', hk, he, hs', hm', hf', hp⟩
  cases e' with
  | normal =>
    cases e <;> simp only [AExit.is] at he
    exact ⟨.normal, y, ρ', hk, trivial, hs', hm', hf', hp⟩
  | exit i =>
    cases e <;> simp only [AExit.is] at he
    subst he
    simp only at hk
    simp only [Exit.inBlock]
    split at hk
    · rename_i hid
      rw [if_pos hid]
      exact ⟨.normal, y, ρ', hk, trivial, hs', hm', hf', hp⟩
    · rename_i hid
      rw [if_neg hid]
      exact ⟨.exit i, y, ρ', hk, rfl, hs', hm', hf', hp⟩
  | ret =>
    cases e <;> simp only [AExit.is] at he
    exact ⟨.ret, y, ρ', hk, trivial, hs', hm', hf', hp⟩

/-- A loop: what holds ahead of each round, and a measure. -/
theorem Tri.loop {P : Program} {F : Fr} {ds : List Deferred} {m : Nat} {c : Code} {x : XS} {L : AExit → XS → Prop} {α : Type} (I : α → XS) (R : α → Prop) (μ : α → Nat) (i0 : α) (h0 : I i0 = x) (hR : R i0)
    (round : ∀ i, R i → Tri P F ds m c (I i) (fun e y => match e with
      | .normal => ∃ j, R j ∧ μ j < μ i ∧ y = I j
      | e => L e y)) : Tri P F ds m (.loop c) x L := by
  intro ρ0 a0 w0 hs0 hm0 hf0
  subst h0
  let J : Act → World → Nat → Prop := fun a w k => ∃ i ρ, R i ∧ μ i = k ∧ Sim F ds ρ (I i).s a w ∧ m ≤ (I i).n ∧ (∀ id, (I i).n ≤ id → ρ id = none) ∧ (∀ id, id < m → ρ id = ρ0 id)
  have hex : ∀ a w, (∃ k, J a w k) → ∃ k, J a w k ∧ ∀ k', J a w k' → k ≤ k' := by
    intro a w ⟨k, hk⟩
    induction k using Nat.strongRecOn with
    | _ k ih =>
      by_cases hh : ∃ k', k' < k ∧ J a w k'
      · obtain ⟨k', hlt, hk'⟩ := hh; exact ih k' hlt hk'
      · exact ⟨k, hk, fun k' hk' => Nat.le_of_not_lt fun hlt => hh ⟨k', hlt, hk'⟩⟩
  refine wp_loop (fun a w => ∃ k, J a w k) (fun a w => (Classical.epsilon fun k => J a w k ∧ ∀ k', J a w k' → k ≤ k')) ⟨μ i0, i0, ρ0, hR, rfl, hs0, hm0, hf0, fun _ _ => rfl⟩ ?_
  intro a w hJ
  have hmin := Classical.epsilon_spec (hex a w hJ)
  obtain ⟨⟨i, ρ, hRi, hμ, hs, hm, hf, hp⟩, hle⟩ := hmin
  refine wp_mono (round i hRi ρ a w hs hm hf) ?_
  rintro e a' w' ⟨e', y, ρ', hk, he, hs', hm', hf', hp'⟩
  cases e' with
  | normal =>
    cases e <;> simp only [AExit.is] at he
    obtain ⟨j, hRj, hlt, rfl⟩ := hk
    have hJ' : J a' w' (μ j) := ⟨j, ρ', hRj, rfl, hs', hm', hf', fun id hid => (hp' id hid).trans (hp id hid)⟩
    refine ⟨⟨_, hJ'⟩, ?_⟩
    have hmin' := Classical.epsilon_spec (hex a' w' ⟨_, hJ'⟩)
    have := hmin'.2 _ hJ'
    omega
  | exit i =>
    cases e <;> simp only [AExit.is] at he
    exact ⟨.exit i, y, ρ', hk, he, hs', hm', hf', fun id hid => (hp' id hid).trans (hp id hid)⟩
  | ret =>
    cases e <;> simp only [AExit.is] at he
    exact ⟨.ret, y, ρ', hk, trivial, hs', hm', hf', fun id hid => (hp' id hid).trans (hp id hid)⟩

theorem Tri.leaf {P : Program} {F : Fr} {ds : List Deferred} {m : Nat} {c : Code} {x : XS} {K : AExit → XS → Prop} {e : Exit} {e' : AExit} (he : e'.is e) (hk : K e' x)
    (hw : ∀ (Q : Exit → Act → World → Prop) a w, Q e a w → c.wp P Q a w) : Tri P F ds m c x K :=
  fun ρ a w hs hm hf => hw _ a w ⟨e', x, ρ, hk, he, hs, hm, hf, fun _ _ => rfl⟩

theorem boolOf_ok {ρ : Ren} {a : AV} {x : Value} {b : Bool} (h : Rv ρ a x) (e : boolOf a = some b) : x = .bool b := by
  unfold boolOf at e
  split at e
  · simp at e; subst e; cases h; rfl
  · simp at e; subst e; cases h; rfl
  · cases e

theorem Tri.of_holds {P : Program} {F : Fr} {ds : List Deferred} {m : Nat} {c : Code} {x : XS} {K : AExit → XS → Prop} {α : Type} {J : α → Prop} : ∀ {t : Tree α}, t.holds J → (∀ a, J a → Tri P F ds m c x K) → Tri P F ds m c x K
  | .leaf a, h, k => k a h
  | .br true t _, h, k => Tri.of_holds (t := t) (h.1 rfl) k
  | .br false _ f, h, k => Tri.of_holds (t := f) (h.2 rfl) k
  | .need _ t, h, k => Tri.of_holds (t := t) h.2 k
  | .same _ _ t, h, k => Tri.of_holds (t := t) h.2 k
  | .fail, h, _ => h.elim

theorem exec_sound {P : Program} {E : Env} (hE : EnvOk P E) (hm : P.follows .mixedOrders = true) {F : Fr} {ds : List Deferred} {m : Nat} {sym : List Tmp} {tab : BTab} {lf : Nat} :
    ∀ (c : Code) (x : XS) (K : AExit → XS → Prop), codeOk E c = true → TabOk P m tab c → (exec P E sym tab lf c x).holds (fun r => K r.1 r.2) → Tri P F ds m c x K := by
  intro c
  induction c with
  | skip => intro x K _ _ h; exact Tri.leaf (e := .normal) (e' := .normal) trivial h fun Q a w hq => wp_skip hq
  | label l => intro x K _ _ h; exact Tri.leaf (e := .normal) (e' := .normal) trivial h fun Q a w hq => wp_label hq
  | ret => intro x K _ _ h; exact Tri.leaf (e := .ret) (e' := .ret) trivial h fun Q a w hq => wp_ret hq
  | exit id => intro x K _ _ h; exact Tri.leaf (e := .exit id) (e' := .exit id) rfl h fun Q a w hq => wp_exit hq
  | region id ops d =>
    intro x K hk _ h
    simp only [exec] at h
    cases hl : (E.late && (d && !chk E ops)) with
    | true => rw [hl] at h; exact h.elim
    | false =>
      rw [hl] at h
      refine region_sound hE hm ?_ (Tree.holds_bind h)
      intro hd; subst hd
      cases hc : chk E ops with
      | true => rfl
      | false =>
        simp [codeOk, hc] at hk hl
        rw [hk] at hl; cases hl
  | seq a b iha ihb =>
    intro x K hk ht h
    simp only [exec] at h
    simp only [codeOk, Bool.and_eq_true] at hk
    refine Tri.seq (K := fun e y => match e with
      | .normal => (exec P E sym tab lf b y).holds (fun r => K r.1 r.2)
      | e => K e y) (iha x _ hk.1 ht.1 ?_) (fun y hy => ihb y K hk.2 ht.2 hy) (fun e y hne hy => by cases e <;> first | exact absurd rfl hne | exact hy)
    refine Tree.holds_mono ?_ (Tree.holds_bind h)
    rintro ⟨e, y⟩ hy
    cases e <;> exact hy
  | cond c a b iha ihb =>
    intro x K hk ht h
    simp only [exec] at h
    simp only [codeOk, Bool.and_eq_true] at hk
    intro ρ ac w hs hmn hf
    split at h
    · rename_i hb
      exact wp_cond_true (boolOf_ok (look_ok hs.tm c) hb) (iha x K hk.1 ht.1 h ρ ac w hs hmn hf)
    · rename_i hb
      exact wp_cond_false (boolOf_ok (look_ok hs.tm c) hb) (ihb x K hk.2 ht.2 h ρ ac w hs hmn hf)
    · exact h.elim
  | block id c ih =>
    intro x K hk ht h
    simp only [exec] at h
    simp only [codeOk] at hk
    simp only [TabOk] at ht
    split at h
    · rename_i b hg
      rw [hg] at ht
      split at h
      · rename_i y hy
        obtain ⟨rfl, hn, hpost⟩ := h
        have hids := allBlt_spec hn
        intro ρ ac w hs hmn hf
        obtain ⟨ρ1, hs1, hm1, hf1, hp1⟩ := trim_sim (m := m) hs hy hids ht.1
        refine wp_mono (ht.2 F ds K hpost ρ1 ac w hs1 hm1 hf1) ?_
        rintro e a' w' ⟨e', z, ρ2, hk2, he2, hs2, hm2, hf2, hp2⟩
        exact ⟨e', z, ρ2, hk2, he2, hs2, hm2, hf2, fun id hlt => (hp2 id hlt).trans (hp1 id hlt)⟩
      · exact h.elim
    · rename_i hg
      rw [hg] at ht
      refine Tri.block (ih x _ hk ht ?_)
      refine Tree.holds_mono ?_ (Tree.holds_bind h)
      rintro ⟨e, y⟩ hy
      cases e with
      | normal => exact hy
      | exit i =>
        simp only at hy ⊢
        cases hb : Nat.beq i id with
        | true =>
          rw [hb] at hy
          rw [if_pos (Nat.eq_of_beq_eq_true hb)]
          exact hy
        | false =>
          rw [hb] at hy
          rw [if_neg (Nat.ne_of_beq_eq_false hb)]
          exact hy
      | ret => exact hy
  | loop c ih =>
    intro x K hk ht h
    simp only [exec] at h
    simp only [codeOk] at hk
    refine Tri.loop (α := Nat × XS) (fun p => p.2) (fun p => (iter (exec P E sym tab lf c) p.1 p.2).holds (fun r => K r.1 r.2)) (fun p => p.1) (lf, x) rfl h ?_
    rintro ⟨k, y⟩ hR
    cases k with
    | zero => exact hR.elim
    | succ k =>
      simp only [iter] at hR
      refine ih y _ hk ht ?_
      refine Tree.holds_mono ?_ (Tree.holds_bind hR)
      rintro ⟨e, z⟩ hz
      cases e with
      | normal => exact ⟨(k, z), hz, by simp, rfl⟩
      | exit i => exact hz
      | ret => exact hz
  | _ => intro x K _ _ h; exact h.elim

end Go.Rq
