/- A range over a function by places: the body is asked at the true values alone. -/
import Derived.RangeFuncBox
import Derived.RangeFuncCalls
import Derived.Test.YtcboekjnibppdaaGreatDoorRq08
import Derived.Test.YtcboekjnibppdaaGreatDoorRq09
import Derived.RangeFuncLeaves
namespace Go.Rq
open Go Go.RowKit
variable {F : Fence} {n : Nat} {P : Program}

/-- An iterator that calls yield at `encs 0`, .., `encs (N - 1)`, one behind the other, and then ends, where what it reads lies as told all the while. -/
def SeqAt (F : Fence) (n : Nat) (P : Program) (g : Nat) (lb : Array Value) (encs : Nat → Array Value) (Lies : World → Prop) (N : Nat) : Prop :=
  ∀ (l : Nat) (J : Nat → World → Prop) (W : World), (∀ k W1, J k W1 → Lies W1) →
    (∀ k W1, J k W1 → k < N → YieldAt F (n - 1) P l (encs k) W1 fun e W' => e = .returned (.bool true) ∧ J (k + 1) W') →
    J 0 W → CallsIn F n P g (#[.func (.yield l) #[] #[]] ++ lb) W fun e W' => (∃ v, e = .returned v) ∧ J N W'

/-- What holds no cells, and was laid from a place on, lies as it lay. -/
def Keeps (B : Nat) (W W' : World) : Prop := ∀ (k : Nat) (o : Obj), B ≤ k → W.heap[k]? = some o → o.isCells = false → W'.heap[k]? = some o

/-- How a piece of a round ends that is never left early. -/
def endsAt (B : Nat) (I : Act → World → Prop) (W : World) : Exit → Act → World → Prop
  | .normal, a, W' => Keeps B W W' ∧ I a W'
  | _, _, _ => False

theorem wpIn_rangeAt {g : Operand} {ps : Array Tmp} {assign body : Code} {Q : Exit → Act → World → Prop} {a : Act} {w : World}
    (hro : F.round = none) (h1 : 1 ≤ n) {gf : Nat} {lb : Array Value} (hg : a.eval g = .func (.func gf) #[] lb) (hFg : F.fn gf) (eg : ∀ args w, (callFunc gf args).run P w = .ok (.enter gf args) w)
    {encs : Nat → Array Value} {Lies : World → Prop} {N : Nat} (hseq : SeqAt F (n - 1) P gf lb encs Lies N) (hps : ∀ k, k < N → (encs k).size = ps.size)
    (I : Nat → World → Prop) (hI : OwnFrom w.heap.size I) (hlies : ∀ k W, I k W → Lies W) (h0 : I 0 w)
    (Mid : Nat → Act → World → Prop) (hM : OwnFrom w.heap.size (fun (p : Nat × Act) W => Mid p.1 p.2 W))
    (hassign : ∀ (l k : Nat) (W : World), I k W → k < N →
      assign.wpIn (F.inRound l) (n - 1 - 1) P (endsAt w.heap.size (Mid k) W) { tmps := (ps.zip (encs k)).foldl (fun t (p, v) => t.setIfInBounds p v) a.tmps, defers := [] } W)
    (hbody : ∀ (l k : Nat) (a1 : Act) (W : World), Mid k a1 W → k < N → body.wpIn (F.inRound l) (n - 1 - 1) P (endsAt w.heap.size (fun _ => I (k + 1)) W) a1 W)
    (hdone : ∀ (D : Nat) (W : World), w.heap.size ≤ D → I N W → W.heap[D]? = some (.deferred (some [])) → Q .normal { a with defers := { target := .collected D, args := #[] } :: a.defers } W) :
    (Code.rangeFunc g ps assign body).wpIn F n P Q a w := by
  refine wpIn_rangeFunc fun fn hfn => ?_
  rw [hro]
  let rec' : LoopState → Option Code → Loop := fun st pe => { state := st, pending := pe, fn, tmps := a.tmps, params := ps, assign, body, defers := w.heap.size }
  obtain ⟨rec, hrec⟩ : ∃ r, r = rec' := ⟨_, rfl⟩
  obtain ⟨W1, hW1⟩ : ∃ W1, (w.alloc (.deferred (some []))).alloc (.loop (rec .ready none)) = W1 := ⟨_, rfl⟩
  have hL1 : W1.heap[w.heap.size + 1]? = some (.loop (rec .ready none)) := by
    rw [← hW1]
    have := World.alloc_heap_new (w.alloc (.deferred (some []))) (.loop (rec .ready none))
    rwa [World.size_alloc] at this
  have hK1 : W1.heap[w.heap.size]? = some (.deferred (some [])) := by
    rw [← hW1]
    exact (Below.heap_alloc _ _ _ (by simp)).trans (World.alloc_heap_new w _)
  have hI1 : I 0 W1 := by
    rw [← hW1]
    exact hI.alloc _ (hI.alloc _ h0)
  refine ⟨w.heap.size + 1, [{ target := .collected w.heap.size, args := #[] }], W1, { target := .fn (.func gf) lb, args := #[.func (.yield (w.heap.size + 1)) #[] #[]] }, W1, gf,
    #[.func (.yield (w.heap.size + 1)) #[] #[]] ++ lb, W1, ?_, ?_, ?_, ?_, fun _ => h1, ?_⟩
  · rw [← hW1, hrec]; exact run_enterLoop_outer _ _ _ _ _
  · simp only [resolve, hg]
    simp [go_sem]
  · intro f' hf'
    simp [Target.leads] at hf'
    subst hf'
    exact hFg
  · simp [invoke, go_sem, eg]
  · refine (hseq (w.heap.size + 1)
      (fun k W => I k W ∧ W.heap[w.heap.size + 1]? = some (.loop (rec .ready none)) ∧ W.heap[w.heap.size]? = some (.deferred (some [])))
      W1 (fun k W hh => hlies k W hh.1) ?_ ⟨hI1, hL1, hK1⟩).mono ?_
    · rintro k W ⟨hi, hl, hk⟩ hlen
      have hy := run_yield (P := P) (args := encs k) hl (by rw [hrec]; exact hps k hlen)
      rw [hrec] at hy
      refine ⟨fn, _, assign, body, hy, roundIn_of_wpIn hfn (wpIn_mono (hassign (w.heap.size + 1) k W hi hlen) ?_)⟩
      clear hy
      rintro e a2 W2 hp
      cases e with
      | normal =>
        obtain ⟨kp, hm⟩ := hp
        have hl0 := kp _ _ (by omega) hl rfl
        have hk0 := kp _ _ (Nat.le_refl _) hk rfl
        have hlt : w.heap.size + 1 < W2.heap.size := (Array.getElem?_eq_some_iff.1 hl0).1
        refine ⟨_, run_beginRound hl0 (by rw [hrec]), ?_⟩
        have hl2 : (W2.putObj (w.heap.size + 1) (.loop { rec .ready none with state := .busy })).heap[w.heap.size + 1]? = some (.loop { rec .ready none with state := .busy }) := World.putObj_heap_same hlt
        have hk2 : (W2.putObj (w.heap.size + 1) (.loop { rec .ready none with state := .busy })).heap[w.heap.size]? = some (.deferred (some [])) := (World.putObj_heap_other (by omega)).trans hk0
        have hm2 : Mid k a2 (W2.putObj (w.heap.size + 1) (.loop { rec .ready none with state := .busy })) := hM.putObj (s := (k, a2)) _ hm (by omega) hl0 rfl
        refine wpIn_mono (hbody (w.heap.size + 1) k a2 _ hm2 hlen) ?_
        rintro e a3 W3 hp
        cases e with
        | normal =>
          obtain ⟨hk3, hi3⟩ := hp
          have hl3 := hk3 _ _ (by omega) hl2 rfl
          have hr := run_endRound (P := P) none hl3
          have hl4 : (W3.putObj (w.heap.size + 1) (.loop (rec .ready none))).heap[w.heap.size + 1]? = some (.loop (rec .ready none)) := World.putObj_heap_same (Array.getElem?_eq_some_iff.1 hl3).1
          have hk4 : (W3.putObj (w.heap.size + 1) (.loop (rec .ready none))).heap[w.heap.size]? = some (.deferred (some [])) := (World.putObj_heap_other (by omega)).trans (hk3 _ _ (Nat.le_refl _) hk2 rfl)
          refine ⟨_, _, hr, rfl, hI.putObj _ hi3 (by omega) hl3 rfl, ?_, ?_⟩
          · rw [hrec] at hl4 ⊢; exact hl4
          · rw [hrec] at hk4 ⊢; exact hk4
        | _ => exact hp.elim
      | _ => exact hp.elim
    · rintro e W2 ⟨⟨v, rfl⟩, hi, hl, hk⟩
      exact ⟨none, _, by have := run_endLoop (P := P) hl (by rw [hrec]; simp [rec']); rw [hrec] at this; exact this, hdone _ _ (Nat.le_refl _) (hI.putObj _ hi (by omega) hl rfl) ((World.putObj_heap_other (by omega)).trans hk)⟩
end Go.Rq

/- A range over an iterator, gone through by the abstract machine. -/
namespace Go.Rq
open Go Go.RowKit

/-! In a round, everything but a deferred call goes as anywhere. -/
def noDef : Op → Bool
  | .defer _ => false
  | _ => true
def noDefs : List Oper → Bool
  | [] => true
  | o :: t => noDef o.op && noDefs t
theorem noDefs_mem : ∀ {l : List Oper}, noDefs l = true → ∀ o ∈ l, noDef o.op = true
  | [], _, o, h => by cases h
  | x :: t, e, o, h => by
    simp only [noDefs, Bool.and_eq_true] at e
    rcases List.mem_cons.1 h with rfl | h
    · exact e.1
    · exact noDefs_mem e.2 o h

theorem rows_in {P : Program} {row : String} {args : Array Value} {w : World} {R : Value → World → Prop} {lr n : Nat} (h : Rows P row args w R) : RowsIn (Fence.wide.inRound lr) n P row args w R :=
  fun c cs _ => let ⟨v, w', r, s⟩ := h c cs; ⟨v, w', r, stepsIn_wide.2 s⟩

theorem wpOps_in {P : Program} {lr n : Nat} {ops : Array Oper} {Q : Exit → Act → World → Prop} (nd : noDefs ops.toList = true) (hlo : ¬ LetsOut Q) :
    ∀ (l : List Nat) (a : Act) (w : World), wpOps P ops Q l a w → wpOpsIn (Fence.wide.inRound lr) n P ops Q l a w
  | [], a, w, h => h
  | i :: t, a, w, h => by
    unfold wpOps at h
    unfold wpOpsIn
    cases ho : ops[i]? with
    | none => rw [ho] at h; exact wpOps_in nd hlo t a w h
    | some o =>
      rw [ho] at h
      simp only at h ⊢
      have hnd : noDef o.op = true := noDefs_mem nd o (by
        have := Array.mem_of_getElem? ho
        simpa using this)
      split
      · rename_i hw
        rw [if_pos hw] at h
        rcases h with h | ⟨_, h⟩
        · refine ⟨fun _ _ => trivial, ?_⟩
          have hs : o.semAt (Fence.wide.inRound lr).round a.eval = execOp a.eval o := Oper.semAt_eq _ _ _ (fun c hc => by rw [hc] at hnd; cases hnd)
          rw [hs]
          unfold Oper.wp at h
          generalize (execOp a.eval o).run P w = r at h ⊢
          cases r with
          | ok x w' =>
            cases x with
            | value v => exact wpOps_in nd hlo t _ _ h
            | skip => exact wpOps_in nd hlo t _ _ h
            | defer d => exact wpOps_in nd hlo t _ _ h
            | enter f args =>
              refine ⟨fun hh => Bool.noConfusion hh, ?_⟩
              refine CallsIn.inRound lr (callsIn_wide.2 (Calls.mono h ?_))
              intro e w2 he
              cases e with
              | returned v => exact wpOps_in nd hlo t _ _ he
              | panicked ch => exact he
              | outgrown => exact absurd he hlo
            | row row args =>
              refine ⟨fun hh => Bool.noConfusion hh, ?_⟩
              exact rows_in (Rows.mono h fun v w2 he => wpOps_in nd hlo t _ _ he)
            | _ => exact h.elim
          | halt x w' => cases x <;> first | exact h | exact h.elim
        · exact absurd h hlo
      · rename_i hw
        rw [if_neg hw] at h
        exact ⟨fun _ _ => trivial, wpOps_in nd hlo t _ _ h⟩

/-- What is known behind a piece of code. -/
def Post (F : Fr) (ds : List Deferred) (m : Nat) (ρ : Ren) (K : AExit → XS → Prop) : Exit → Act → World → Prop :=
  fun e a' w' => ∃ e' y ρ', K e' y ∧ e'.is e ∧ Sim F ds ρ' y.s a' w' ∧ m ≤ y.n ∧ (∀ id, y.n ≤ id → ρ' id = none) ∧ (∀ id, id < m → Ren.eqAt ρ' ρ id)

theorem Post.lets {F : Fr} {ds : List Deferred} {m : Nat} {ρ : Ren} {K : AExit → XS → Prop} : ¬ LetsOut (Post F ds m ρ K) := by
  rintro ⟨a, w, e', y, ρ', _, he, _⟩
  cases e' <;> exact he

/-- What holds of a piece of code in a round. -/
def TriR (lr n : Nat) (P : Program) (F : Fr) (ds : List Deferred) (m : Nat) (c : Code) (x : XS) (K : AExit → XS → Prop) : Prop :=
  ∀ ρ a w, Sim F ds ρ x.s a w → m ≤ x.n → (∀ id, x.n ≤ id → ρ id = none) → c.wpIn (Fence.wide.inRound lr) n P (Post F ds m ρ K) a w

theorem region_round {P : Program} {E : Env} (hE : EnvOk P E) (hm : P.follows .mixedOrders = true) {F : Fr} {ds : List Deferred} {m lr nn : Nat} {id : Nat} {ops : Array Oper} {draw : Bool} (nd : noDefs ops.toList = true) (hchk : draw = true → chk E ops = true) {x : XS}
    {K : AExit → XS → Prop} (h : (runT P E [] x.n ops (rangeL 0 ops.size []) x.s).holds (fun s => K .normal ⟨s, x.n + E.kk * ops.size⟩)) : TriR lr nn P F ds m (.region id ops draw) x K := by
  rw [rangeL_eq, List.append_nil] at h
  obtain ⟨γ, s', h1, h2, h3⟩ := runT_sound List.nodup_range h
  intro ρ a w hs hmn hfr
  have fin : ∀ a' w' ρ', ρ.le ρ' → (∀ id, (∀ j ∈ List.range ops.size, ¬ inR (x.n + E.kk * j) E.kk id) → ρ' id = ρ id) → Sim F ds ρ' s' a' w' → Post F ds m ρ K .normal a' w' := by
    intro a' w' ρ' hle hne hs'
    refine ⟨.normal, _, ρ', h3, trivial, ⟨hs'.tm, hs'.h, hs'.ds⟩, by simp; omega, fun id hid => ?_, fun id hid => ?_⟩
    · simp at hid
      rw [hne id (fun j hj hin => by
        have h1 : j < ops.size := by simpa using hj
        have := inR_top hin h1
        omega)]
      exact hfr id (by omega)
    · exact ⟨hne id (fun j hj hin => by have := inR_ge hin; omega), fun b hb => (hle id b hb).2⟩
  cases draw with
  | false =>
    refine wpIn_region (wpOps_in nd Post.lets _ _ _ (list_sim hE h2 _ _ ρ a w List.nodup_range h1 hs (fun j _ id hin => hfr id (inR_ge hin)) fin))
  | true =>
    refine wpIn_region_draw fun t => wpOps_in nd Post.lets _ _ _ ?_
    simp only [Region.schedule, hm, Bool.true_or, if_true]
    refine wpAny_sound ops.size t _ a _ ?_
    refine any_sim hE (hchk rfl) h2 ops.size _ x.s ρ a { w with drawn := w.drawn + 1 } (by simp) (by rw [todo_all]; simp) ?_ s' (by rw [todo_all]; exact h1) (Eqv.refl _) ⟨hs.tm, hs.h.drawn _, hs.ds⟩ (fun j _ id hin => hfr id (inR_ge hin)) ?_
    · intro y o hy
      simp [Array.getD] at hy
    · rw [todo_all]; exact fin

/-- Code that may stand in a round here. -/
def inRd : Code → Bool
  | .skip => true
  | .region _ ops _ => noDefs ops.toList
  | .seq a b => inRd a && inRd b
  | .block _ c => inRd c
  | _ => false

theorem exec_round {P : Program} {E : Env} (hE : EnvOk P E) (hm : P.follows .mixedOrders = true) {F : Fr} {ds : List Deferred} {m lr nn lf : Nat} :
    ∀ (c : Code) (x : XS) (K : AExit → XS → Prop), inRd c = true → codeOk E c = true → (exec P E [] (fun _ => none) lf c x).holds (fun r => K r.1 r.2) → TriR lr nn P F ds m c x K := by
  intro c
  induction c with
  | skip => intro x K _ _ h ρ a w hs hmn hf; exact wpIn_skip ⟨.normal, x, ρ, h, trivial, hs, hmn, hf, fun id _ => Ren.eqAt.refl ρ id⟩
  | region id ops d =>
    intro x K hp hk h
    simp only [inRd] at hp
    simp only [exec] at h
    cases hl : (E.late && (d && !chk E ops)) with
    | true =>
      rw [hl, cond_true] at h
      cases hc : chk (E.withTau (tauOf P E ops.toList x.n (look x.s.tm) x.s.h ops.toList 0)) ops with
      | false => rw [hc] at h; exact h.elim
      | true =>
        rw [hc, cond_true] at h
        exact region_round (withTau_ok hE _) hm hp (fun _ => hc) (Tree.holds_bind h)
    | false =>
      rw [hl, cond_false] at h
      refine region_round hE hm hp ?_ (Tree.holds_bind h)
      intro hd; subst hd
      cases hc : chk E ops with
      | true => rfl
      | false =>
        simp [codeOk, hc] at hk hl
        rw [hk] at hl; cases hl
  | seq a b iha ihb =>
    intro x K hp hk h
    simp only [exec] at h
    simp only [codeOk, inRd, Bool.and_eq_true] at hk hp
    intro ρ ac w hs hmn hf
    have ha := iha x (fun e y => match e with
      | .normal => (exec P E [] (fun _ => none) lf b y).holds (fun r => K r.1 r.2)
      | e => K e y) hp.1 hk.1 (by
        refine Tree.holds_mono ?_ (Tree.holds_bind h)
        rintro ⟨e, y⟩ hy
        cases e <;> exact hy) ρ ac w hs hmn hf
    refine wpIn_seq (wpIn_mono ha ?_)
    rintro e a' w' ⟨e', y, ρ', hk', he, hs', hmy, hf', hp'⟩
    cases e' with
    | normal =>
      cases e <;> simp only [AExit.is] at he
      refine wpIn_mono (ihb y K hp.2 hk.2 hk' ρ' a' w' hs' hmy hf') ?_
      rintro e2 a2 w2 ⟨e2', y2, ρ2, q1, q2, q3, q4, q5, q6⟩
      exact ⟨e2', y2, ρ2, q1, q2, q3, q4, q5, fun id hid => (q6 id hid).trans (hp' id hid)⟩
    | exit i =>
      cases e <;> simp only [AExit.is] at he
      exact ⟨.exit i, y, ρ', hk', he, hs', hmy, hf', hp'⟩
    | ret =>
      cases e <;> simp only [AExit.is] at he
      exact ⟨.ret, y, ρ', hk', trivial, hs', hmy, hf', hp'⟩
  | block id c ih =>
    intro x K hp hk h
    simp only [exec] at h
    simp only [codeOk, inRd] at hk hp
    intro ρ ac w hs hmn hf
    have hc := ih x (fun e y => match e with
      | .exit i => (bif Nat.beq i id then Tree.leaf (AExit.normal, y) else Tree.leaf (.exit i, y)).holds (fun r => K r.1 r.2)
      | e => K e y) hp hk (by
        refine Tree.holds_mono ?_ (Tree.holds_bind h)
        rintro ⟨e, y⟩ hy
        cases e <;> exact hy) ρ ac w hs hmn hf
    refine wpIn_block (wpIn_mono hc ?_)
    rintro e a' w' ⟨e', y, ρ', hk', he, hs', hmy, hf', hp'⟩
    cases e' with
    | normal =>
      cases e <;> simp only [AExit.is] at he
      exact ⟨.normal, y, ρ', hk', trivial, hs', hmy, hf', hp'⟩
    | exit i =>
      cases e <;> simp only [AExit.is] at he
      subst he
      simp only [Exit.inBlock]
      simp only at hk'
      cases hb : Nat.beq i id with
      | true =>
        rw [hb] at hk'
        rw [if_pos (Nat.eq_of_beq_eq_true hb)]
        exact ⟨.normal, y, ρ', hk', trivial, hs', hmy, hf', hp'⟩
      | false =>
        rw [hb] at hk'
        rw [if_neg (Nat.ne_of_beq_eq_false hb)]
        exact ⟨.exit i, y, ρ', hk', rfl, hs', hmy, hf', hp'⟩
    | ret =>
      cases e <;> simp only [AExit.is] at he
      exact ⟨.ret, y, ρ', hk', trivial, hs', hmy, hf', hp'⟩
  | _ => intro x K hp; cases hp
end Go.Rq

/- Rounds, one behind the other: what is known between them. -/
namespace Go.Rq
open Go Go.RowKit

/-! Frames that know more. -/
structure Fr.le (F F' : Fr) : Prop where
  blocks : ∀ b o, F.blocks b = some o → F'.blocks b = some o
  os : F'.os = F.os
  tape : F'.tape = F.tape
  out : F'.out = F.out

theorem RW.weaken {F F' : Fr} {ρ : Ren} {h : AH} {w : World} (r : RW F' ρ h w) (hle : F.le F') (hg : GF F) : RW F ρ h w := by
  refine ⟨fun id B hB => ?_, r.inj, fun b o ho => r.fr b o (hle.blocks b o ho), r.os.trans hle.os, r.tape.trans hle.tape, r.out.trans hle.out, hg⟩
  obtain ⟨b, o, h1, h2, h3, h4, h5⟩ := r.blk id B hB
  refine ⟨b, o, h1, h2, h3, fun hw => ?_, h5⟩
  cases hb : F.blocks b with
  | none => rfl
  | some q =>
    have := hle.blocks b q hb
    rw [h4 hw] at this
    cases this

/-- All that lies, but for what is named to be written. -/
noncomputable def frz (ρ : Ren) (h : AH) (w : World) : Fr := ⟨fun b => open Classical in if ∃ i B, h.get i = some B ∧ B.wr = true ∧ ρ i = some b then none else w.heap[b]?, w.os, w.tape, w.output⟩

theorem frz_at {ρ : Ren} {h : AH} {w : World} {b : Nat} (e : ¬ ∃ i B, h.get i = some B ∧ B.wr = true ∧ ρ i = some b) : (frz ρ h w).blocks b = w.heap[b]? := if_neg e
theorem frz_none {ρ : Ren} {h : AH} {w : World} {b : Nat} (e : ∃ i B, h.get i = some B ∧ B.wr = true ∧ ρ i = some b) : (frz ρ h w).blocks b = none := if_pos e
theorem frz_some {ρ : Ren} {h : AH} {w : World} {b : Nat} {o : Obj} (e : (frz ρ h w).blocks b = some o) : w.heap[b]? = some o := by
  by_cases hx : ∃ i B, h.get i = some B ∧ B.wr = true ∧ ρ i = some b
  · rw [frz_none hx] at e; cases e
  · rw [frz_at hx] at e; exact e

theorem RW.frz_le {F : Fr} {ρ : Ren} {h : AH} {w : World} (r : RW F ρ h w) : F.le (frz ρ h w) := by
  refine ⟨fun b o ho => ?_, r.os, r.tape, r.out⟩
  rw [frz_at, r.fr b o ho]
  rintro ⟨i, B, h1, h2, h3⟩
  obtain ⟨b', o', g1, -, -, g4, -⟩ := r.blk i B h1
  rw [h3] at g1; simp at g1; subst g1
  rw [g4 h2] at ho; cases ho

theorem RW.frz {F : Fr} {ρ : Ren} {h : AH} {w : World} (r : RW F ρ h w) : RW (frz ρ h w) ρ h w := by
  refine ⟨fun id B hB => ?_, r.inj, fun b o ho => frz_some ho, rfl, rfl, rfl, ?_⟩
  · obtain ⟨b, o, h1, h2, h3, -, h5⟩ := r.blk id B hB
    exact ⟨b, o, h1, h2, h3, fun hw => frz_none ⟨id, B, hB, hw, h1⟩, h5⟩
  · intro g cs hg
    obtain ⟨xs, ty, fr, k1, k2⟩ := r.gc g cs hg
    exact ⟨xs, ty, fr, r.frz_le.blocks _ _ k1, k2⟩

def cellsH (h : AH) : Prop := ∀ id B, h.get id = some B → B.cell = true

/-- Of what holds no cells nothing is turned. -/
theorem frz_keeps {F : Fr} {ρ : Ren} {h : AH} {w : World} (r : RW F ρ h w) (hc : cellsH h) {ρ' : Ren} {h' : AH} {w' : World} (r' : RW (frz ρ h w) ρ' h' w') (B : Nat) : Keeps B w w' := by
  intro k o _ hk ho
  refine r'.fr k o ?_
  rw [frz_at, hk]
  rintro ⟨i, b, h1, -, h3⟩
  obtain ⟨b', o', g1, g2, g3, -⟩ := r.blkC (getC_mk h1 (hc i b h1))
  rw [h3] at g1; simp at g1; subst g1
  rw [hk] at g2; simp at g2; subst g2
  obtain ⟨xs, fr, rfl, -⟩ := g3
  cases ho

/-- What is known abides what is laid, and turns of blocks that hold no cells. -/
theorem RW.grown {F : Fr} {ρ : Ren} {h : AH} {w w' : World} {B : Nat} {row : Option Nat} (r : RW F ρ h w) (hc : cellsH h) (hF : ∀ b o, F.blocks b = some o → b < B) (hg : w.grownBy w' row)
    (hr : ∀ k, row = some k → B ≤ k ∧ ∃ o : Obj, w.heap[k]? = some o ∧ o.isCells = false) : RW F ρ h w' := by
  have same : ∀ b o, w.heap[b]? = some o → (∀ k, row = some k → b ≠ k) → w'.heap[b]? = some o := fun b o ho hne =>
    (hg.block b (Array.getElem?_eq_some_iff.1 ho).1 (fun e => hne b e.symm rfl)).trans ho
  refine ⟨fun id B' hB => ?_, r.inj, fun b o ho => same b o (r.fr b o ho) (fun k hk e => ?_), hg.os.trans r.os, hg.tape.trans r.tape, hg.output.trans r.out, r.gc⟩
  · obtain ⟨b, o, h1, h2, h3, h4, h5⟩ := r.blkC (getC_mk hB (hc id B' hB))
    refine ⟨b, o, h1, same b o h2 (fun k hk e => ?_), .inl h3, h4, h5⟩
    obtain ⟨-, o', k1, k2⟩ := hr k hk
    subst e
    rw [h2] at k1; simp at k1; subst k1
    obtain ⟨xs, fr, rfl, -⟩ := h3
    cases k2
  · have h1 := hF b o ho
    have h2 := (hr k hk).1
    omega
end Go.Rq

/- A range over an iterator, from what is known of its rounds; functions that hold one. -/
namespace Go.Rq
open Go Go.RowKit

def setAll : List AV → List Tmp → List AV → List AV
  | tm, p :: ps, e :: es => setAll (tm.set p e) ps es
  | tm, _, _ => tm

theorem setAll_ok {ρ : Ren} : ∀ {ps : List Tmp} {es : List AV} {vs : List Value} {tm : List AV} {ts : Array Value}, Rvs ρ tm ts.toList → Rvs ρ es vs →
    Rvs ρ (setAll tm ps es) ((ps.zip vs).foldl (fun t p => t.setIfInBounds p.1 p.2) ts).toList
  | [], es, vs, tm, ts, h, _ => by
    have e : setAll tm [] es = tm := by cases es <;> rfl
    rw [e]; simpa using h
  | p :: ps, [], vs, tm, ts, h, k => by
    have e := k.unnil
    · cases vs with
      | nil => simpa [setAll] using h
      | cons v vs => have := k.1; simp at this
  | p :: ps, e :: es, vs, tm, ts, h, k => by
    obtain ⟨v, us, rfl, hv, hk⟩ := k.uncons
    simp only [setAll, List.zip_cons_cons, List.foldl_cons]
    refine setAll_ok ?_ hk
    have := h.set hv p
    simpa using this

theorem foldl_zip (ps : Array Tmp) (vs ts : Array Value) : (ps.zip vs).foldl (fun t (p, v) => t.setIfInBounds p v) ts = (ps.toList.zip vs.toList).foldl (fun t p => t.setIfInBounds p.1 p.2) ts := by
  rw [← Array.foldl_toList, Array.toList_zip]

theorem rangeAt_sim {P : Program} {E : Env} (hE : EnvOk P E) (hm : P.follows .mixedOrders = true) {lf n1 N : Nat} {g : Operand} {ps : Array Tmp} {asg bd : Code} {gf : Nat}
    (pa : inRd asg = true) (pb : inRd bd = true) (oa : codeOk E asg = true) (ob : codeOk E bd = true)
    {tm : List AV} {st : Nat → AH} {es : Nat → List AV} {ya : Nat → XS}
    (hst : ∀ k, cellsH (st k)) (hlt : ∀ k id B, (st k).get id = some B → id < n1) (hya : ∀ k, k < N → cellsH (ya k).s.h)
    (ra : ∀ k, k < N → (exec P E [] (fun _ => none) lf asg ⟨⟨setAll tm ps.toList (es k), st k, true⟩, n1⟩).holds (fun r => r = (.normal, ya k)))
    (rb : ∀ k, k < N → (exec P E [] (fun _ => none) lf bd (ya k)).holds (fun r => r.1 = .normal ∧ ∀ id B, (st (k + 1)).get id = some B → r.2.s.h.get id = some B ∧ allLt n1 B.cs = true))
    {F : Fr} {ds : List Deferred} {ρ1 : Ren} {a : Act} {w : World} (hs : Sim F ds ρ1 ⟨tm, st 0, true⟩ a w) (hfr : ∀ id, n1 ≤ id → ρ1 id = none)
    {lb : Array Value} (hg : a.eval g = .func (.func gf) #[] lb) (eg : ∀ args w, (callFunc gf args).run P w = .ok (.enter gf args) w)
    {encs : Nat → Array Value} {Lies : World → Prop} (hsz : ∀ k, k < N → (encs k).size = ps.size) (henc : ∀ k, k < N → Rvs ρ1 (es k) (encs k).toList)
    (hseq : SeqAt Fence.wide 2 P gf lb encs Lies N)
    (hlies : ∀ k ρ' W, RW F ρ' (st k) W → (∀ id, id < n1 → Ren.eqAt ρ' ρ1 id) → Lies W)
    {Q : Exit → Act → World → Prop}
    (hQ : ∀ D W ρ', w.heap.size ≤ D → W.heap[D]? = some (.deferred (some [])) → RW F ρ' (st N) W → (∀ id, id < n1 → Ren.eqAt ρ' ρ1 id) → (∀ id, n1 ≤ id → ρ' id = none) → Q .normal { a with defers := { target := .collected D, args := #[] } :: a.defers } W) :
    (Code.rangeFunc g ps asg bd).wpIn Fence.wide 3 P Q a w := by
  have hFB : ∀ b o, F.blocks b = some o → b < w.heap.size := fun b o ho => (Array.getElem?_eq_some_iff.1 (hs.h.fr b o ho)).1
  have hle : ∀ ρ', (∀ id, id < n1 → Ren.eqAt ρ' ρ1 id) → ρ1.le ρ' := fun ρ' h id b e => by
    have hid : id < n1 := by
      rcases Nat.lt_or_ge id n1 with h1 | h1
      · exact h1
      · rw [hfr id h1] at e; cases e
    exact ⟨(h id hid).f.trans e, (h id hid).cells b e⟩
  refine wpIn_rangeAt (F := Fence.wide) (n := 3) rfl (by omega) hg trivial eg hseq hsz
    (fun k W => ∃ ρ', RW F ρ' (st k) W ∧ (∀ id, id < n1 → Ren.eqAt ρ' ρ1 id) ∧ (∀ id, n1 ≤ id → ρ' id = none))
    (fun k W W' row ⟨ρ', r, e1, e2⟩ hgr hrow => ⟨ρ', r.grown (hst k) hFB hgr hrow, e1, e2⟩)
    (fun k W ⟨ρ', r, e1, _⟩ => hlies k ρ' W r e1)
    ⟨ρ1, hs.h, fun id _ => Ren.eqAt.refl ρ1 id, hfr⟩
    (fun k a1 W => ∃ ρ', Sim F [] ρ' (ya k).s a1 W ∧ n1 ≤ (ya k).n ∧ (∀ id, (ya k).n ≤ id → ρ' id = none) ∧ (∀ id, id < n1 → Ren.eqAt ρ' ρ1 id) ∧ k < N)
    (fun s W W' row ⟨ρ', r, e1, e2, e3, hk⟩ hgr hrow => ⟨ρ', ⟨r.tm, r.h.grown (hya s.1 hk) hFB hgr hrow, r.ds⟩, e1, e2, e3, hk⟩)
    (fun l k W hI hk => ?_) (fun l k a1 W hM hk => ?_) (fun D W hD ⟨ρ', r, e1, e2⟩ hd => hQ D W ρ' hD hd r e1 e2)
  · obtain ⟨ρ', r, e1, e2⟩ := hI
    have hsim : Sim (frz ρ' (st k) W) [] ρ' ⟨setAll tm ps.toList (es k), st k, true⟩ { tmps := (ps.zip (encs k)).foldl (fun t (p, v) => t.setIfInBounds p v) a.tmps, defers := [] } W := by
      refine ⟨?_, r.frz, rfl⟩
      rw [foldl_zip]
      exact setAll_ok (hs.tm.mono (hle ρ' e1)) ((henc k hk).mono (hle ρ' e1))
    refine wpIn_mono (exec_round hE hm (m := n1) asg _ (fun e y => (e, y) = (.normal, ya k)) pa oa (ra k hk) ρ' _ W hsim (Nat.le_refl _) e2) ?_
    rintro e a' w' ⟨e', y, ρ2, hk2, he, hs2, hm2, hf2, hp2⟩
    simp only [Prod.mk.injEq] at hk2
    obtain ⟨rfl, rfl⟩ := hk2
    cases e <;> simp only [AExit.is] at he
    exact ⟨frz_keeps r (hst k) hs2.h _, ρ2, ⟨hs2.tm, hs2.h.weaken r.frz_le r.gc, hs2.ds⟩, hm2, hf2, fun id hid => (hp2 id hid).trans (e1 id hid), hk⟩
  · obtain ⟨ρ', s, hn, hf, he, _⟩ := hM
    have hsim : Sim (frz ρ' (ya k).s.h W) [] ρ' (ya k).s a1 W := ⟨s.tm, s.h.frz, s.ds⟩
    refine wpIn_mono (exec_round hE hm (m := n1) bd (ya k) (fun e y => e = .normal ∧ ∀ id B, (st (k + 1)).get id = some B → y.s.h.get id = some B ∧ allLt n1 B.cs = true) pb ob (rb k hk) ρ' a1 W hsim hn hf) ?_
    rintro e a' w' ⟨e', y, ρ2, ⟨rfl, hnext⟩, he', hs2, hm2, hf2, hp2⟩
    cases e <;> simp only [AExit.is] at he'
    have r2 := hs2.h.weaken s.h.frz_le s.h.gc
    refine ⟨frz_keeps s.h (hya k hk) hs2.h _, ρ2.cut n1, ⟨fun id B hB => ?_, fun id id' B B' b hB hB' hw hb hb' => ?_, r2.fr, r2.os, r2.tape, r2.out, r2.gc⟩, fun id hid => ?_, fun id hid => Ren.cut_ge hid⟩
    · obtain ⟨g1, g2⟩ := hnext id B hB
      obtain ⟨b, o, h1, h2, h3, h4⟩ := r2.blk id B g1
      have hid := hlt (k + 1) id B hB
      exact ⟨b, o, by rw [Ren.cut_lt hid]; exact h1, h2, h3.keep rfl (fun hh => hh) rfl rfl (fun a' ha x' hx => hx.lt (allLt_spec g2 a' ha)), h4⟩
    · rw [Ren.cut_lt (hlt (k + 1) id B hB)] at hb
      rw [Ren.cut_lt (hlt (k + 1) id' B' hB')] at hb'
      exact r2.inj id id' B B' b (hnext id B hB).1 (hnext id' B' hB').1 hw hb hb'
    · have h1 := (hp2 id hid).trans (he id hid)
      exact ⟨(Ren.cut_lt hid).trans h1.f, h1.cells⟩
end Go.Rq

/- Functions that hold one range over an iterator. -/
namespace Go.Rq
open Go Go.RowKit

/-- A frame that knows one block more. -/
def Fr.more (F : Fr) (D : Nat) (o : Obj) : Fr := ⟨fun b => if b = D then some o else F.blocks b, F.os, F.tape, F.out⟩

theorem RW.le_more {F : Fr} {ρ : Ren} {h : AH} {w : World} (r : RW F ρ h w) {D : Nat} {o : Obj} (hD : w.heap[D]? = some o) : F.le (F.more D o) := by
  refine ⟨fun b q hb => ?_, rfl, rfl, rfl⟩
  show (if b = D then some o else F.blocks b) = some q
  by_cases e : b = D
  · subst e
    rw [if_pos rfl, ← r.fr b q hb, hD]
  · rw [if_neg e]; exact hb

theorem RW.more {F : Fr} {ρ : Ren} {h : AH} {w : World} (r : RW F ρ h w) (hc : cellsH h) {D : Nat} {o : Obj} (hD : w.heap[D]? = some o) (ho : o.isCells = false) : RW (F.more D o) ρ h w := by
  refine ⟨fun id B hB => ?_, r.inj, fun b q hb => ?_, r.os, r.tape, r.out, ?_⟩
  · obtain ⟨b, q, h1, h2, h3, h4, h5⟩ := r.blkC (getC_mk hB (hc id B hB))
    refine ⟨b, q, h1, h2, .inl h3, fun hw => ?_, h5⟩
    show (if b = D then some o else F.blocks b) = none
    rw [if_neg, h4 hw]
    rintro rfl
    rw [hD] at h2; simp at h2; subst h2
    obtain ⟨xs, fr, rfl, -⟩ := h3
    cases ho
  · have hb : (if b = D then some o else F.blocks b) = some q := hb
    by_cases e : b = D
    · subst e; rw [if_pos rfl] at hb; rw [hD]; exact hb
    · rw [if_neg e] at hb; exact r.fr b q hb
  · intro g cs hg
    obtain ⟨xs, ty, fr, k1, k2⟩ := r.gc g cs hg
    exact ⟨xs, ty, fr, (r.le_more hD).blocks _ _ k1, k2⟩

/-- The deferred calls' block is shut. -/
theorem RW.shut {F : Fr} {ρ : Ren} {h : AH} {w : World} (r : RW F ρ h w) (hc : cellsH h) {D : Nat} {o o' : Obj} (hD : w.heap[D]? = some o) (ho : o.isCells = false) (hF : ∀ b q, F.blocks b = some q → b < D) : RW F ρ h (w.putObj D o') :=
  r.grown hc hF (grownBy_putObj' w D o') (fun k hk => by cases hk; exact ⟨Nat.le_refl _, o, hD, ho⟩)

theorem range_calls {P : Program} {E : Env} (hE : EnvOk P E) (hm : P.follows .mixedOrders = true) {lf f : Nat} {fn : Func} {ca cb cc cd : Code} {id : Nat} {g : Operand} {ps : Array Tmp} {asg bd : Code} {gf N : Nat}
    (hf : P.funcs.toList[f]? = some fn) (hb : fn.body = some (.seq ca (.seq cb (.seq (.seq cc (.block id (.rangeFunc g ps asg bd))) cd))))
    (o1 : codeOk E ca = true) (o2 : codeOk E cb = true) (o3 : codeOk E cc = true) (o4 : codeOk E cd = true) (pa : inRd asg = true) (pb : inRd bd = true) (oa : codeOk E asg = true) (ob : codeOk E bd = true)
    {args : List AV} {h0 : AH} {n0 : Nat} {xa xb xc : XS} {tm : List AV} {n1 : Nat} {st : Nat → AH} {es : Nat → List AV} {ya : Nat → XS} {rv : Value}
    (ea : (exec P E [] (fun _ => none) lf ca ⟨⟨args ++ undefs (fn.ntmps - args.length), h0, true⟩, n0⟩).holds (fun r => r = (.normal, xa)))
    (eb : (exec P E [] (fun _ => none) lf cb xa).holds (fun r => r = (.normal, xb)))
    (ec : (exec P E [] (fun _ => none) lf cc xb).holds (fun r => r = (.normal, xc))) (ec1 : xc.s.tm = tm) (ec2 : xc.n = n1) (ec3 : ∀ id B, (st 0).get id = some B → xc.s.h.get id = some B)
    (hst : ∀ k, cellsH (st k)) (hlt : ∀ k id B, (st k).get id = some B → id < n1) (hya : ∀ k, k < N → cellsH (ya k).s.h)
    (ra : ∀ k, k < N → (exec P E [] (fun _ => none) lf asg ⟨⟨setAll tm ps.toList (es k), st k, true⟩, n1⟩).holds (fun r => r = (.normal, ya k)))
    (rb : ∀ k, k < N → (exec P E [] (fun _ => none) lf bd (ya k)).holds (fun r => r.1 = .normal ∧ ∀ id B, (st (k + 1)).get id = some B → r.2.s.h.get id = some B ∧ allLt n1 B.cs = true))
    (ed : (exec P E [] (fun _ => none) lf cd ⟨⟨tm, st N, true⟩, n1⟩).holds (fun r => (r.1 = .ret ∨ r.1 = .normal) ∧ cellsH r.2.s.h ∧ ∃ l, resAll P r.2.s.tm r.2.s.h fn.results.toList = some l ∧ flat (one1 l) = some rv))
    {F : Fr} {ρ0 : Ren} {xs : List Value} {w : World} (hx : Rvs ρ0 args xs) (hw : RW F ρ0 h0 w) (hn : ∀ id, n0 ≤ id → ρ0 id = none)
    (eg : ∀ args w, (callFunc gf args).run P w = .ok (.enter gf args) w)
    (hit : ∀ ρ1 a w1, Sim F [] ρ1 ⟨tm, st 0, true⟩ a w1 → (∀ id, id < n0 → Ren.eqAt ρ1 ρ0 id) → ∃ (lb : Array Value) (encs : Nat → Array Value) (Lies : World → Prop),
      a.eval g = .func (.func gf) #[] lb ∧ (∀ k, k < N → (encs k).size = ps.size) ∧ (∀ k, k < N → Rvs ρ1 (es k) (encs k).toList) ∧ SeqAt Fence.wide 2 P gf lb encs Lies N ∧
      (∀ k ρ' W, RW F ρ' (st k) W → (∀ id, id < n1 → Ren.eqAt ρ' ρ1 id) → Lies W)) :
    Calls P f xs.toArray w (fun e w' => ∃ ρ' h', e = .returned rv ∧ RW F ρ' h' w') := by
  have hf' : P.funcs[f]? = some fn := by simpa using hf
  refine callsIn_wide.1 (callsIn_of_wp_marks (F := Fence.wide) (n := 3) hf' hb trivial ?_ rfl)
  have hlen := hx.1
  have hs : Sim F [] ρ0 ⟨args ++ undefs (fn.ntmps - args.length), h0, true⟩ { tmps := xs.toArray ++ Array.replicate (fn.ntmps - xs.toArray.size) undef, defers := [] } w := by
    refine ⟨?_, hw, rfl⟩
    have := hx.append (undefs_eq (ρ := ρ0) (fn.ntmps - args.length))
    simpa [hlen] using this
  have one : ∀ {c : Code} {x y : XS} {ρ : Ren} {a : Act} {w : World} {Q : Exit → Act → World → Prop}, codeOk E c = true → (exec P E [] (fun _ => none) lf c x).holds (fun r => r = (.normal, y)) → Sim F [] ρ x.s a w → n0 ≤ x.n → (∀ id, x.n ≤ id → ρ id = none) →
      (∀ id, id < n0 → Ren.eqAt ρ ρ0 id) → (∀ ρ' a' w', Sim F [] ρ' y.s a' w' → n0 ≤ y.n → (∀ id, y.n ≤ id → ρ' id = none) → (∀ id, id < n0 → Ren.eqAt ρ' ρ0 id) → Q .normal a' w') → c.wpIn Fence.wide 3 P Q a w := by
    intro c x y ρ a w Q hok he hs hn hf hp hQ
    refine wpIn_mono (wpIn_wide.2 (exec_sound hE hm (m := n0) c x (fun e z => (e, z) = (.normal, y)) hok (tabOk_none _) he ρ a w hs hn hf)) ?_
    rintro e a' w' ⟨e', z, ρ', hk, he', hs', hn', hf', hp'⟩
    simp only [Prod.mk.injEq] at hk
    obtain ⟨rfl, rfl⟩ := hk
    cases e <;> simp only [AExit.is] at he'
    exact hQ ρ' a' w' hs' hn' hf' (fun id hid => (hp' id hid).trans (hp id hid))
  refine wpIn_seq (one o1 ea hs (Nat.le_refl _) hn (fun id _ => Ren.eqAt.refl ρ0 id) fun ρ1 a1 w1 s1 n1' f1 p1 => ?_)
  refine wpIn_seq (one o2 eb s1 n1' f1 p1 fun ρ2 a2 w2 s2 n2 f2 p2 => ?_)
  refine wpIn_seq (wpIn_seq (one o3 ec s2 n2 f2 p2 fun ρ3 a3 w3 s3' n3 f3 p3 => ?_))
  have s3 : Sim F [] ρ3 ⟨tm, st 0, true⟩ a3 w3 := ⟨by rw [← ec1]; exact s3'.tm, s3'.h.sub ec3, s3'.ds⟩
  rw [ec2] at n3 f3
  obtain ⟨lb, encs, Lies, q1, q2, q3, q4, q5⟩ := hit ρ3 a3 w3 s3 p3
  refine wpIn_block (rangeAt_sim hE hm pa pb oa ob hst hlt hya ra rb s3 f3 q1 eg q2 q3 q4 q5 fun D W ρ4 hD hd r4 e4 f4 => ?_)
  have hle : ρ3.le ρ4 := fun id b e => by
    have hid : id < n1 := by
      rcases Nat.lt_or_ge id n1 with h1 | h1
      · exact h1
      · have : ρ3 id = none := f3 id h1
        rw [this] at e; cases e
    exact ⟨(e4 id hid).f.trans e, (e4 id hid).cells b e⟩
  have s4 : Sim (F.more D (.deferred (some []))) [{ target := .collected D, args := #[] }] ρ4 ⟨tm, st N, true⟩ { a3 with defers := { target := .collected D, args := #[] } :: a3.defers } W :=
    ⟨s3.tm.mono hle, r4.more (hst N) hd rfl, by simp [s3.ds]⟩
  refine wpIn_mono (wpIn_wide.2 (exec_sound hE hm (m := n1) cd ⟨⟨tm, st N, true⟩, n1⟩ (fun e y => (e = .ret ∨ e = .normal) ∧ cellsH y.s.h ∧ ∃ l, resAll P y.s.tm y.s.h fn.results.toList = some l ∧ flat (one1 l) = some rv) o4 (tabOk_none _) ed ρ4 _ W s4 (Nat.le_refl _) f4)) ?_
  rintro e a' w' ⟨e', y, ρ5, ⟨hk, hcells, l, hl, hflat⟩, he', s5, n5, f5, p5⟩
  have hFD : ∀ b q, F.blocks b = some q → b < D := fun b q hq => Nat.lt_of_lt_of_le (Array.getElem?_eq_some_iff.1 (s3.h.fr b q hq)).1 hD
  have hd5 : w'.heap[D]? = some (.deferred (some [])) := s5.h.fr D _ (if_pos rfl)
  have r5 : RW F ρ5 y.s.h w' := s5.h.weaken (r4.le_more hd) r4.gc
  have r6 : RW F ρ5 y.s.h (w'.putObj D (.deferred none)) := r5.shut hcells hd5 rfl hFD
  have s6 : Sim F [{ target := .collected D, args := #[] }] ρ5 y.s a' (w'.putObj D (.deferred none)) := ⟨s5.tm, r6, s5.ds⟩
  have fin : LeavesInM Fence.wide 3 P fn a'.tmps (fun e w' => ∃ ρ' h', e = .returned rv ∧ RW F ρ' h' w') a'.defers .returning w' := by
    rw [s5.ds]
    refine ⟨by simp, .inl ⟨D, _, rfl, run_takeDeferred hd5, ?_⟩⟩
    obtain ⟨vs, h1, h2⟩ := results_run s6 hl
    have hres : (results fn a'.tmps).run P (w'.putObj D (.deferred none)) = .ok (if h : vs.toArray.size = 1 then vs.toArray[0] else .tuple vs.toArray) (w'.putObj D (.deferred none)) := by
      unfold results
      simp only [Sem.run_bind]
      rw [Array.mapM_eq_mapM_toList]
      simp only [Sem.run_map]
      have e1 : (fn.results.toList.mapM (fun (x : ResultVar) => (match x with
          | .tmp t => pure (a'.tmps.getD t undef)
          | .cell a t => do loadVar t (← asAddr (a'.tmps.getD a undef)) : Sem Value))).run P (w'.putObj D (.deferred none)) = .ok vs (w'.putObj D (.deferred none)) := h1
      erw [e1]
      simp only [Result.andThen_ok, Sem.run_pure]
    refine ⟨_, hres, ρ5, y.s.h, ?_, r6⟩
    have := (one1_ok h2).flat_eq hflat
    rw [this]
  rcases hk with rfl | rfl
  · cases e <;> simp only [AExit.is] at he'
    exact fin
  · cases e <;> simp only [AExit.is] at he'
    exact fin
end Go.Rq

/- A region with one operation that is told by hand. -/
namespace Go.Rq
open Go Go.RowKit

theorem lets_then {K : Act → World → Prop} {Q : Exit → Act → World → Prop} (h : LetsOut (Exit.then K Q)) : LetsOut Q := by
  obtain ⟨a, w, h⟩ := h
  exact ⟨a, w, h⟩

theorem wpOps_split {P : Program} {ops : Array Oper} {Q : Exit → Act → World → Prop} (l2 : List Nat) : ∀ (l1 : List Nat) (a : Act) (w : World),
    wpOps P ops (Exit.then (wpOps P ops Q l2) Q) l1 a w → wpOps P ops Q (l1 ++ l2) a w
  | [], a, w, h => h
  | i :: t, a, w, h => by
    rw [List.cons_append]
    unfold wpOps at h ⊢
    cases ho : ops[i]? with
    | none => rw [ho] at h; exact wpOps_split l2 t a w h
    | some o =>
      rw [ho] at h
      simp only at h ⊢
      split
      · rename_i hw
        rw [if_pos hw] at h
        rcases h with h | ⟨h1, h2⟩
        · left
          unfold Oper.wp at h ⊢
          generalize (execOp a.eval o).run P w = r at h ⊢
          cases r with
          | ok x w' =>
            cases x with
            | value v => exact wpOps_split l2 t _ _ h
            | skip => exact wpOps_split l2 t _ _ h
            | defer d => exact wpOps_split l2 t _ _ h
            | enter f args =>
              refine Calls.mono h ?_
              intro e w2 he
              cases e with
              | returned v => exact wpOps_split l2 t _ _ he
              | panicked ch => exact he
              | outgrown => exact lets_then he
            | row row args => exact Rows.mono h fun v w2 he => wpOps_split l2 t _ _ he
            | _ => exact h.elim
          | halt x w' => cases x <;> first | exact h | exact h.elim
        · exact .inr ⟨h1, lets_then h2⟩
      · rename_i hw
        rw [if_neg hw] at h
        exact wpOps_split l2 t _ _ h

/-- Operation i of a region is told by hand: ahead of it the machine goes, behind it from a state that fits. -/
theorem region_mid {P : Program} {E : Env} (hE : EnvOk P E) {F : Fr} {ds : List Deferred} {id : Nat} {ops : Array Oper} {x : XS} {i : Nat} {o : Oper} (ho : ops[i]? = some o) (hg : o.guard = none) {l2 : List Nat} (hl : List.range ops.size = List.range i ++ i :: l2)
    {s1 s2 s3 : St} (h1 : runL P E (fun _ => none) x.n ops (List.range i) x.s = some s1) (k1 : s1.ok = true) (h3 : runL P E (fun _ => none) x.n ops l2 s2 = some s3) (k3 : s3.ok = true) {ρ : Ren} {a : Act} {w : World} (hs : Sim F ds ρ x.s a w) (hf : ∀ id, x.n ≤ id → ρ id = none)
    (hop : ∀ a' w' ρ', ρ.le ρ' → (∀ id, x.n + E.kk * i ≤ id → ρ' id = none) → Sim F ds ρ' s1 a' w' → ∃ v w2 ρ2, (execOp a'.eval o).run P w' = .ok (.value v) w2 ∧ ρ'.le ρ2 ∧ (∀ id, x.n + E.kk * (i + 1) ≤ id → ρ2 id = none) ∧ Sim F ds ρ2 s2 (a'.put o.dst v) w2)
    {Q : Exit → Act → World → Prop} (hQ : ∀ a' w' ρ', ρ.le ρ' → (∀ id, x.n + E.kk * ops.size ≤ id → ρ' id = none) → Sim F ds ρ' s3 a' w' → Q .normal a' w') : (Code.region id ops false).wp P Q a w := by
  refine wp_region ?_
  rw [hl]
  have nd : (List.range i ++ i :: l2).Nodup := by rw [← hl]; exact List.nodup_range
  have nd2 := (List.nodup_append.1 nd).2.1
  have in2 : ∀ j ∈ l2, i < j ∧ j < ops.size := by
    intro j hj
    have hm : j ∈ List.range ops.size := by rw [hl]; simp [hj]
    refine ⟨?_, by simpa using hm⟩
    rcases Nat.lt_trichotomy j i with h | h | h
    · have := (List.nodup_append.1 nd).2.2 j (by simpa using h) j (by simp [hj])
      exact absurd rfl this
    · subst h
      exact absurd hj (List.nodup_cons.1 nd2).1
    · exact h
  refine wpOps_split _ _ _ _ (list_sim hE k1 (List.range i) x.s ρ a w List.nodup_range h1 hs (fun j _ id hin => hf id (inR_ge hin)) fun a' w' ρ' hle hne hs' => ?_)
  have fr1 : ∀ id, x.n + E.kk * i ≤ id → ρ' id = none := fun id hid => by
    rw [hne id (fun j hj hin => by
      have h1 : j < i := by simpa using hj
      have := inR_top hin h1
      omega)]
    exact hf id (by omega)
  obtain ⟨v, w2, ρ2, e1, e2, e3, e4⟩ := hop a' w' ρ' hle fr1 hs'
  show wpOps P ops Q (i :: l2) a' w'
  unfold wpOps
  rw [ho]
  simp only
  have hw : Region.wanted o (yielded ops a'.tmps) = true := by unfold Region.wanted; rw [hg]
  rw [if_pos hw]
  left
  unfold Oper.wp
  rw [e1]
  show wpOps P ops Q l2 (a'.put o.dst v) w2
  refine list_sim hE k3 l2 s2 ρ2 _ w2 (List.nodup_cons.1 nd2).2 h3 e4 (fun j hj id hin => e3 id (by
    have h1 := (in2 j hj).1
    have h2 : E.kk * (i + 1) ≤ E.kk * j := Nat.mul_le_mul_left _ h1
    have := hin.1
    omega)) fun a3 w3 ρ3 hle3 hne3 hs3 => hQ a3 w3 ρ3 (Ren.le_trans (Ren.le_trans hle e2) hle3) (fun id hid => ?_) hs3
  rw [hne3 id (fun j hj hin => by
    have h1 := (in2 j hj).2
    have := inR_top hin h1
    omega)]
  refine e3 id ?_
  have h1 : i < ops.size := (Array.getElem?_eq_some_iff.1 ho).1
  have h2 : E.kk * (i + 1) ≤ E.kk * ops.size := Nat.mul_le_mul_left _ h1
  omega
end Go.Rq
