/- The model runs a pure operation as the abstract machine does. -/
import Derived.Test.YtcboekjnibppdaaGreatDoorRq01
namespace Go.Rq
open Go

theorem flat_run {ρ : Ren} {ev : Operand → AV} {va : Operand → Value} (h : EvOk ρ ev va) {x : Operand} {a : Value} (e : flat (ev x) = some a) : va x = a := (h x).flat_eq e

theorem run_mapM_list {α β : Type} {P : Program} (f : α → Sem β) (g : α → β) : ∀ (l : List α) (w : World), (∀ x ∈ l, (f x).run P w = .ok (g x) w) → (l.mapM f).run P w = .ok (l.map g) w := by
  intro l
  induction l with
  | nil => intro w _; simp
  | cons x t ih =>
    intro w h
    have h1 := h x (by simp)
    have h2 := ih w (fun y hy => h y (by simp [hy]))
    simp [List.mapM_cons, h1, h2]

theorem placesOf_spec {P : Program} : ∀ {fs : List Field} {ps : List (Nat × Nat)}, placesOf P fs = some ps → ps = fs.map (fun f => (f.offset, (sz P f.type).getD 0)) ∧ ∀ f ∈ fs, ∃ n, sz P f.type = some n
  | [], ps, h => by simp [placesOf] at h; subst h; simp
  | f :: t, ps, h => by
    simp only [placesOf] at h
    split at h
    · cases h
    · rename_i n hn
      split at h
      · cases h
      · rename_i l hl
        simp at h; subst h
        obtain ⟨h1, h2⟩ := placesOf_spec hl
        refine ⟨by simp [h1, hn], fun g hg => ?_⟩
        rcases List.mem_cons.1 hg with rfl | hg
        · exact ⟨n, hn⟩
        · exact h2 g hg

theorem buildA_run {P : Program} {ρ : Ren} {ev : Operand → AV} {va : Operand → Value} (hev : EvOk ρ ev va) {t : TypeId} {parts : List (Nat × Operand)} {r : AV}
    (h : buildA P ev t parts = some r) (w : World) :
    ∃ v, (Instr.build t (parts.map fun p => (p.1, va p.2)).toArray).run P w = .ok v w ∧ Rv ρ r v := by
  unfold buildA at h
  split at h
  · cases h
  · rename_i z hz
    obtain ⟨zv, hzr, rfl⟩ := zeroOf_run hz
    have hzc := Rvs.canons (ρ := ρ) zv.cells.toList
    have hparts : ∀ (i : Nat) (a : Nat × AV) (x : Nat × Value), (evs ev parts)[i]? = some a → (parts.map fun p => (p.1, va p.2))[i]? = some x → a.1 = x.1 ∧ Rv ρ a.2 x.2 := by
      intro i a x ha hx
      rw [evs_eq] at ha
      simp only [List.getElem?_map, Option.map_eq_some_iff] at ha hx
      obtain ⟨p, hp, rfl⟩ := ha
      obtain ⟨q, hq, rfl⟩ := hx
      rw [hp] at hq; simp at hq; subst hq
      exact ⟨rfl, hev _⟩
    have hlen : (evs ev parts).length = (parts.map fun p => (p.1, va p.2)).length := by rw [evs_eq]; simp
    split at h
    · rename_i fs hu
      split at h
      · cases h
      · rename_i ps hps
        split at h
        · rename_i l hl
          simp at h; subst h
          obtain ⟨hps1, hps2⟩ := placesOf_spec hps
          obtain ⟨ys, h1, h2⟩ := fillA_run (ρ := ρ) _ _ _ _ zv.cells.toList _ hlen hparts hzc hl
          refine ⟨.agg ys.toArray, ?_, Rv.agg_mk h2⟩
          have hm : (fs.mapM fun f => do pure (f.offset, ← sizeOf f.type) : Sem (Array (Nat × Nat))).run P w = .ok ps.toArray w := by
            rw [Array.mapM_eq_mapM_toList]
            simp only [Sem.run_map]
            rw [run_mapM_list (P := P) _ (fun f => (f.offset, (sz P f.type).getD 0))]
            · simp [hps1]
            · intro f hf
              obtain ⟨n, hn⟩ := hps2 f hf
              simp [run_sizeOf hn, hn]
          have h1' : Instr.fill (fun i => ps[i]?) zv.cells (List.map (fun p => (p.fst, va p.snd)) parts) = some ys.toArray := by
            simpa using h1
          simp only [Instr.build, Sem.run_bind, hzr, Result.andThen_ok, run_underlying hu, hm]
          simp [h1']
        · cases h
    · rename_i len el hu
      split at h
      · cases h
      · rename_i n hn
        split at h
        · rename_i l hl
          simp at h; subst h
          obtain ⟨ys, h1, h2⟩ := fillA_run (ρ := ρ) _ _ _ _ zv.cells.toList _ hlen hparts hzc hl
          refine ⟨.agg ys.toArray, ?_, Rv.agg_mk h2⟩
          have h1' : Instr.fill (fun i => some (i * n, n)) zv.cells (List.map (fun p => (p.fst, va p.snd)) parts) = some ys.toArray := by
            simpa using h1
          simp only [Instr.build, Sem.run_bind, hzr, Result.andThen_ok, run_underlying hu, run_sizeOf hn]
          simp [h1']
        · cases h
    · cases h

theorem bound_run {ρ : Ren} {ev : Operand → AV} {va : Operand → Value} (hev : EvOk ρ ev va) {o : Option Operand} {r : Option Int} (h : bound ev o = some r) :
    (o = none ∧ r = none) ∨ ∃ x k n, o = some x ∧ r = some n ∧ va x = .int k n := by
  unfold bound at h
  split at h
  · simp at h; exact .inl ⟨rfl, h.symm⟩
  · rename_i x
    split at h
    · rename_i k n hf
      simp at h
      exact .inr ⟨x, k, n, rfl, h.symm, flat_run hev hf⟩
    · cases h

theorem sliceBounds3_run {P : Program} {ρ : Ren} {ev : Operand → AV} {va : Operand → Value} (hev : EvOk ρ ev va) {lo : Option Operand} {hi mx : Operand} {l : Option Int} {k k' : IntKind} {h m : Int} (hl : bound ev lo = some l) (hh : flat (ev hi) = some (.int k h)) (hm : flat (ev mx) = some (.int k' m))
    (len cap : Nat) (hc : (decide (0 ≤ m ∧ m ≤ (cap : Int)) && (decide (0 ≤ h ∧ h ≤ m) && decide (0 ≤ l.getD 0 ∧ l.getD 0 ≤ h))) = true) (w : World) :
    (Instr.sliceBounds true len cap (lo.map va) (some (va hi)) (some (va mx))).run P w = .ok ((l.getD 0).toNat, h.toNat, m.toNat) w := by
  simp only [Bool.and_eq_true, decide_eq_true_eq] at hc
  obtain ⟨⟨h1, h2⟩, ⟨h3, h4⟩, h5, h6⟩ := hc
  have e1 := flat_run hev hh
  have e2 := flat_run hev hm
  have m1 : (m.toNat : Int) = m := Int.toNat_of_nonneg h1
  have m2 : (h.toNat : Int) = h := Int.toNat_of_nonneg h3
  rcases bound_run hev hl with ⟨rfl, rfl⟩ | ⟨x, k2, n, rfl, rfl, hx⟩
  · simp [Instr.sliceBounds, Instr.sliceBound, e1, e2, asIntOf, h1, h2, h3, h4, m1]
  · simp only [Option.getD_some] at h5 h6
    simp [Instr.sliceBounds, Instr.sliceBound, e1, e2, hx, asIntOf, h1, h2, h3, h4, h5, h6, m1, m2]

theorem sliceBounds_run {P : Program} {ρ : Ren} {ev : Operand → AV} {va : Operand → Value} (hev : EvOk ρ ev va) {lo hi : Option Operand} {l h : Option Int} (hl : bound ev lo = some l) (hh : bound ev hi = some h)
    (isSlice : Bool) (len cap : Nat) (hc : (decide (0 ≤ h.getD len ∧ h.getD len ≤ (cap : Int)) && decide (0 ≤ l.getD 0 ∧ l.getD 0 ≤ h.getD len)) = true) (w : World) :
    (Instr.sliceBounds isSlice len cap (lo.map va) (hi.map va) none).run P w = .ok ((l.getD 0).toNat, (h.getD len).toNat, cap) w := by
  simp only [Bool.and_eq_true, decide_eq_true_eq] at hc
  obtain ⟨⟨h1, h2⟩, h3, h4⟩ := hc
  rcases bound_run hev hl with ⟨rfl, rfl⟩ | ⟨x, k, n, rfl, rfl, hx⟩ <;> rcases bound_run hev hh with ⟨rfl, rfl⟩ | ⟨y, k', m, rfl, rfl, hy⟩ <;>
    simp only [Option.getD_none, Option.getD_some] at h1 h2 h3 h4 ⊢
  · simp [Instr.sliceBounds]
  · simp [Instr.sliceBounds, Instr.sliceBound, hy, asIntOf, h1, h2]
  · simp [Instr.sliceBounds, Instr.sliceBound, hx, asIntOf, h3, h4]
  · have e : (m.toNat : Int) = m := Int.toNat_of_nonneg h1
    simp [Instr.sliceBounds, Instr.sliceBound, hx, hy, asIntOf, h1, h2, h3, e, h4]

theorem equalIn_ptr_nil {P : Program} {t u : TypeId} (hu : P.underlying t = some (.pointer u)) (d : Nat) (a : Addr) (w : World) :
    (Op.equalIn (d + 1) t (.pointer (some a)) (.pointer none)).run P w = .ok false w := by
  simp [Op.equalIn, run_underlying hu]

theorem equal_ptr_nil {P : Program} {t u : TypeId} (hu : P.underlying t = some (.pointer u)) (a : Addr) (w : World) :
    (Op.equal t (.pointer (some a)) (.pointer none)).run P w = .ok false w := equalIn_ptr_nil hu 9999 a w

theorem equalIn_slc_nil {P : Program} {t u : TypeId} (hu : P.underlying t = some (.slice u)) (d : Nat) (a : Addr) (n c m k : Nat) (w : World) :
    (Op.equalIn (d + 1) t (.slice (some a) n c) (.slice none m k)).run P w = .ok false w := by
  simp [Op.equalIn, run_underlying hu]

theorem equal_slc_nil {P : Program} {t u : TypeId} (hu : P.underlying t = some (.slice u)) (a : Addr) (n c m k : Nat) (w : World) :
    (Op.equal t (.slice (some a) n c) (.slice none m k)).run P w = .ok false w := equalIn_slc_nil hu 9999 a n c m k w

theorem opPure_run {P : Program} {E : Env} (hE : E.eqOk P) {ρ : Ren} {ev : Operand → AV} {va : Operand → Value} (hev : EvOk ρ ev va) {o : Oper} {c : Bool} {r : AV}
    (h : opPure P E ev o.op = some (c, r)) (hc : c = true) (w : World) : ∃ v, (execOp va o).run P w = .ok (.value v) w ∧ Rv ρ r v := by
  obtain ⟨dst, op, type, pos, after, guard⟩ := o
  simp only at h
  subst hc
  cases op with
  | move x => simp [opPure] at h; subst h; exact ⟨va x, by simp [execOp], hev x⟩
  | assign x => simp [opPure] at h; subst h; exact ⟨va x, by simp [execOp], hev x⟩
  | pick c a b =>
    simp only [opPure] at h
    split at h
    · rename_i hc; simp at h; subst h
      have := hev c; rw [hc] at this; cases hv : va c <;> rw [hv] at this <;> cases this
      exact ⟨va a, by simp [execOp, hv, asBool], hev a⟩
    · rename_i hc; simp at h; subst h
      have := hev c; rw [hc] at this; cases hv : va c <;> rw [hv] at this <;> cases this
      exact ⟨va b, by simp [execOp, hv, asBool], hev b⟩
    · rename_i c' hc
      split at h
      · rename_i z hz; simp at h; subst h
        have := hev c; rw [hc] at this; cases hv : va c <;> rw [hv] at this <;> cases this
        refine ⟨if c' then va a else va b, ?_, choose2_spec (hev a) (hev b) hz⟩
        simp [execOp, hv, asBool]
      · have := hev c; rw [hc] at this; cases hv : va c <;> rw [hv] at this <;> cases this
        split at h
        · simp at h; subst h; exact ⟨va a, by simp [execOp, hv, asBool], hev a⟩
        · simp at h; subst h; exact ⟨va b, by simp [execOp, hv, asBool], hev b⟩
    · cases h
  | nilCheck x =>
    simp only [opPure] at h
    split at h
    · rename_i id off hx; simp at h; subst h
      have := hev x; rw [hx] at this
      generalize hv : va x = v at this
      cases this with | ptr hb => exact ⟨_, by simp [execOp, hv], .ptr hb⟩
    · rename_i a hx; simp at h; subst h
      have := hev x; rw [hx] at this
      generalize hv : va x = v at this
      cases this; exact ⟨_, by simp [execOp, hv], .v _⟩
    · rename_i f as bs hx; simp at h; subst h
      have := hev x; rw [hx] at this
      obtain ⟨xs, ys, hv, h1, h2⟩ := this.fn_iff
      exact ⟨.func (.func f) xs ys, by simp [execOp, hv], by have := Rv.fn_mk (f := .func f) h1 h2; simpa using this⟩
    · cases h
  | binOp op t x y yt =>
    have gen : ∀ z, binF P E op t x y (ev x) (ev y) = some (true, z) → r = z → ∃ v, (execOp va { dst, op := .binOp op t x y yt, type, pos, after, guard }).run P w = .ok (.value v) w ∧ Rv ρ r v := by
      intro z hz hr
      subst hr
      obtain ⟨v, h1, h2⟩ := binF_run hE (hev x) (hev y) hz w
      refine ⟨v, ?_, h2⟩
      show ((do eqGuard op t x y (va x) (va y); binOp op t (va x) (va y) : Sem Value) >>= fun r => pure (Next.value r)).run P w = _
      rw [Sem.run_bind, h1]
      simp
    simp only [opPure] at h
    split at h
    · rename_i id off hx hy
      have hyv : va y = .pointer none := by have := hev y; rw [hy] at this; generalize va y = v at this; cases this; rfl
      split at h
      · rename_i u hu; simp at h; subst h
        have := hev x; rw [hx] at this
        generalize hv : va x = v at this
        cases this
        refine ⟨.bool false, ?_, .lit _⟩
        simp [execOp, hv, hyv, eqGuard, binOp, equal_ptr_nil hu]
      · rename_i u hu; simp at h; subst h
        have := hev x; rw [hx] at this
        generalize hv : va x = v at this
        cases this
        refine ⟨.bool true, ?_, .lit _⟩
        simp [execOp, hv, hyv, eqGuard, binOp, equal_ptr_nil hu]
      · cases h
    · rename_i hx hy
      split at h
      · rename_i u hu; simp at h; subst h
        have h1 := hev x; rw [hx] at h1
        have h2 := hev y; rw [hy] at h2
        generalize hv : va x = v at h1
        generalize hyv : va y = v' at h2
        cases h1
        cases h2
        refine ⟨.bool false, ?_, .lit _⟩
        simp [execOp, hv, hyv, eqGuard, binOp, equal_slc_nil hu]
      · rename_i u hu; simp at h; subst h
        have h1 := hev x; rw [hx] at h1
        have h2 := hev y; rw [hy] at h2
        generalize hv : va x = v at h1
        generalize hyv : va y = v' at h2
        cases h1
        cases h2
        refine ⟨.bool true, ?_, .lit _⟩
        simp [execOp, hv, hyv, eqGuard, binOp, equal_slc_nil hu]
      · cases h
    · rename_i hx hy
      split at h
      · rename_i u hu; simp at h; subst h
        have h1 := hev x; rw [hx] at h1
        have h2 := hev y; rw [hy] at h2
        generalize hv : va x = v at h1
        generalize hyv : va y = v' at h2
        cases h1 <;> cases h2
        all_goals
          refine ⟨.bool false, ?_, .lit _⟩
          simp [execOp, hv, hyv, eqGuard, binOp, equal_slc_nil hu]
      · rename_i u hu; simp at h; subst h
        have h1 := hev x; rw [hx] at h1
        have h2 := hev y; rw [hy] at h2
        generalize hv : va x = v at h1
        generalize hyv : va y = v' at h2
        cases h1 <;> cases h2
        all_goals
          refine ⟨.bool true, ?_, .lit _⟩
          simp [execOp, hv, hyv, eqGuard, binOp, equal_slc_nil hu]
      · cases h
    · exact gen _ h rfl
  | unOp op t x =>
    simp only [opPure] at h
    split at h
    · rename_i u hu
      have hux := (hev x).toU hu
      split at h
      · simp at h; subst h
        refine ⟨uval (~~~u), ?_, .u _⟩
        have hm : IntKind.u64.max = ((BitVec.allOnes 64).toNat : Int) := by rfl
        have : Op.unary .xor (va x) = pure (uval (~~~u)) := by
          rw [hux]
          show Op.intBits .xor .u64 IntKind.u64.max (u.toNat : Int) = _
          rw [hm]
          exact intBits_u64 .xor _ u _ (.inr (.inr (.inl ⟨rfl, by rw [BitVec.allOnes_xor]⟩)))
        simp [execOp, this]
      · simp at h; subst h
        refine ⟨uval (0#64 - u), ?_, .u _⟩
        have : Op.unary .neg (va x) = pure (uval (0#64 - u)) := by
          rw [hux]
          simp only [uval, Op.unary, Op.intArith]
          refine congrArg (fun z => (pure (Value.int .u64 z) : Sem Value)) ?_
          rw [wrap_u64, BitVec.toNat_sub]
          have := u.isLt
          simp; omega
        simp [execOp, this]
      · cases h
    · split at h
      · rename_i a hx
        split at h
        · rename_i z hz; simp at h; subst h
          refine ⟨z, ?_, .v z⟩
          rw [← flat_run hev hx] at hz
          simp [execOp, pureRun_run hz w]
        · cases h
      · cases h
  | convert s d x =>
    simp only [opPure] at h
    split at h
    · rename_i u hu
      have hux := (hev x).toU hu
      split at h
      · rename_i k hs hd; simp at h; subst h
        refine ⟨uval u, ?_, .u _⟩
        have : (convert s d (va x)).run P w = .ok (uval u) w := by
          rw [hux]
          simp only [convert, Sem.run_bind, run_underlying hs, run_underlying hd, Result.andThen_ok, uval, Conv.intToInt]
          rw [show IntKind.u64.wrap (Int.ofNat u.toNat) = Int.ofNat u.toNat from back_u64 u]; rfl
        simp [execOp, this]
      · rename_i k k' hk' hs hd; simp at h; subst h
        refine ⟨_, ?_, .v _⟩
        have : (convert s d (va x)).run P w = .ok (.int k' (k'.wrap (Int.ofNat u.toNat))) w := by
          rw [hux]
          simp only [convert, Sem.run_bind, run_underlying hs, run_underlying hd, Result.andThen_ok, uval, Conv.intToInt]; rfl
        simp [execOp, this]
      · cases h
    · split at h
      · rename_i a hx
        split at h
        · rename_i k k' n hs hd; simp at h; subst h
          refine ⟨uval (BitVec.ofInt 64 n), ?_, .u _⟩
          have : (convert s d (va x)).run P w = .ok (uval (BitVec.ofInt 64 n)) w := by
            rw [flat_run hev hx]
            simp only [convert, Sem.run_bind, run_underlying hs, run_underlying hd, Result.andThen_ok, uval, Conv.intToInt]
            have : IntKind.u64.wrap n = Int.ofNat (BitVec.ofInt 64 n).toNat := by
              rw [wrap_u64]; simp [BitVec.toNat_ofInt]; omega
            rw [this]; rfl
          simp [execOp, this]
        · split at h
          · rename_i z hz; simp at h; subst h
            refine ⟨z, ?_, .v z⟩
            rw [← flat_run hev hx] at hz
            simp [execOp, pureRun_run hz w]
          · cases h
      · cases h
  | makeInterface t x =>
    simp only [opPure] at h
    split at h
    · cases h
    · rename_i d hd hu; simp at h; subst h
      refine ⟨.iface t (va x), ?_, .ifc (hev x)⟩
      simp only [execOp, Instr.makeInterface, Sem.run_bind, run_underlying hu, Result.andThen_ok]
      simp
    · cases h
  | makeFunc f as bs =>
    simp only [opPure] at h; simp at h; subst h
    refine ⟨.func f (as.map va) (bs.map va), by simp [execOp, Instr.makeFunc], ?_⟩
    have := Rv.fn_mk (f := f) (Rvs.maps hev as.toList) (Rvs.maps hev bs.toList)
    have e : ∀ l : Array Operand, l.map va = (l.toList.map va).toArray := fun l => by apply Array.ext'; simp
    rw [e as, e bs]
    exact this
  | sliceToArrayPointer t x =>
    simp only [opPure] at h
    split at h
    · rename_i n el id off len cap hu hx
      simp only [Option.some.injEq, Prod.mk.injEq] at h
      obtain ⟨h1, rfl⟩ := h
      have h1 := of_decide_eq_true h1
      have := hev x; rw [hx] at this
      generalize hv : va x = v at this
      cases this with
      | slc hb =>
        refine ⟨.pointer (some ⟨_, ρ.base id + off, none⟩), ?_, .ptr hb⟩
        have h1' : ¬ len < n := by omega
        simp [execOp, Instr.arrayAt, hv, run_underlying hu, h1']
    · cases h
  | fieldAddr s x f =>
    simp only [opPure] at h
    split at h
    · rename_i fs id off hu hx
      split at h
      · rename_i fl hfl
        split at h
        · rename_i n hn; simp at h; subst h
          have := hev x; rw [hx] at this
          generalize hv : va x = v at this
          cases this with
          | ptr hb =>
            refine ⟨.pointer (some ⟨_, ρ.base id + (off + fl.offset), none⟩), ?_, .ptr hb⟩
            rw [← Nat.add_assoc]
            have hfl' : fs[f]? = some fl := by simpa using hfl
            simp only [execOp, Instr.fieldAt, hv, Sem.run_bind, run_underlying hu, Result.andThen_ok, hfl', Instr.sureAddr, Sem.run_pure, fieldPlace, run_sizeOf hn]
            simp [Addr.add_none]
        · cases h
      · cases h
    · cases h
  | indexAddr t x ix =>
    simp only [opPure] at h
    split at h
    · rename_i k i hi
      have hiv := flat_run hev hi
      split at h
      · rename_i len el id off hu hx
        split at h
        · rename_i n hn; simp only [Option.some.injEq, Prod.mk.injEq] at h
          obtain ⟨h1, rfl⟩ := h
          have h1 := of_decide_eq_true h1
          have := hev x; rw [hx] at this
          generalize hv : va x = v at this
          cases this with
          | ptr hb =>
            refine ⟨.pointer (some ⟨_, ρ.base id + (off + i.toNat * n), none⟩), ?_, .ptr hb⟩
            rw [← Nat.add_assoc]
            simp [execOp, Instr.indexAt, hv, hiv, asIntOf, run_underlying hu, Instr.sureAddr, run_sizeOf hn, h1, Addr.add_none]
        · cases h
      · rename_i len el g off hu hx
        split at h
        · rename_i n hn; simp only [Option.some.injEq, Prod.mk.injEq] at h
          obtain ⟨h1, rfl⟩ := h
          have h1 := of_decide_eq_true h1
          have := hev x; rw [hx] at this
          generalize hv : va x = v at this
          cases this with
          | v _ =>
            refine ⟨.pointer (some ⟨g, off + i.toNat * n, none⟩), ?_, .v _⟩
            simp [execOp, Instr.indexAt, hv, hiv, asIntOf, run_underlying hu, Instr.sureAddr, run_sizeOf hn, h1, Addr.add_none]
        · cases h
      · rename_i el id off len cap hu hx
        split at h
        · rename_i n hn; simp only [Option.some.injEq, Prod.mk.injEq] at h
          obtain ⟨h1, rfl⟩ := h
          have h1 := of_decide_eq_true h1
          have := hev x; rw [hx] at this
          generalize hv : va x = v at this
          cases this with
          | slc hb =>
            refine ⟨.pointer (some ⟨_, ρ.base id + (off + i.toNat * n), none⟩), ?_, .ptr hb⟩
            rw [← Nat.add_assoc]
            simp [execOp, Instr.indexAt, hv, hiv, asIntOf, run_underlying hu, run_sizeOf hn, h1, Addr.add_none]
        · cases h
      · rename_i el id es k' len hu hx
        split at h
        · rename_i n hn; simp only [Option.some.injEq, Prod.mk.injEq] at h
          obtain ⟨h1, rfl⟩ := h
          have h1 := of_decide_eq_true h1
          have := hev x; rw [hx] at this
          generalize hv : va x = v at this
          cases this with
          | own hb h0 _ _ _ =>
            refine ⟨.pointer (some ⟨_, ρ.base id + (k' * es + i.toNat * n), none⟩), ?_, .ptr hb⟩
            rw [h0, Nat.zero_add]
            simp [execOp, Instr.indexAt, hv, hiv, asIntOf, run_underlying hu, run_sizeOf hn, h1, Addr.add_none]
          | ownE _ _ => exact absurd h1.2 (by omega)
        · cases h
      · cases h
    · cases h
  | field t x f =>
    simp only [opPure] at h
    split at h
    · rename_i fs cs hu hx
      split at h
      · rename_i fl hfl
        split at h
        · rename_i r' hr; simp at h; subst h
          obtain ⟨xs, hv, hxs⟩ := (hev x).aggOf hx
          obtain ⟨v, h1, h2⟩ := partA_run hr hxs w
          refine ⟨v, ?_, h2⟩
          have hfl' : fs[f]? = some fl := by simpa using hfl
          simp [execOp, Instr.field, run_underlying hu, hfl', hv, asAgg, h1]
        · cases h
      · cases h
    · cases h
  | index t x ix =>
    simp only [opPure] at h
    split at h
    · rename_i k i hi
      have hiv := flat_run hev hi
      split at h
      · rename_i len el hu
        split at h
        · rename_i cs hx
          split at h
          · rename_i n hn
            split at h
            · rename_i r' hr; simp only [Option.some.injEq, Prod.mk.injEq] at h
              obtain ⟨h1, rfl⟩ := h
              have h1 := of_decide_eq_true h1
              obtain ⟨xs, hv, hxs⟩ := (hev x).aggOf hx
              obtain ⟨v, h2, h3⟩ := partA_run hr hxs w
              refine ⟨v, ?_, h3⟩
              simp [execOp, Instr.index, run_underlying hu, hv, hiv, asIntOf, run_sizeOf hn, h1, h2]
            · cases h
          · cases h
        · cases h
      · rename_i hu
        split at h
        · rename_i s hx; simp only [Option.some.injEq, Prod.mk.injEq] at h
          obtain ⟨h1, rfl⟩ := h
          have h1 := of_decide_eq_true h1
          obtain ⟨b, hb, hb2⟩ := strAt_run (s := s) (i := i.toNat) (by omega)
          have := hev x; rw [hx] at this
          generalize hv : va x = v at this
          cases this with
          | v =>
            refine ⟨.int .u8 b.toNat, ?_, by rw [hb2]; exact .v _⟩
            simp only [execOp, Instr.index, hv, hiv, asIntOf, Sem.run_bind, Sem.run_pure, Result.andThen_ok, run_underlying hu, if_pos h1.1, hb]
        · cases h
      · cases h
    · cases h
  | extract x i =>
    simp only [opPure] at h
    split at h
    · rename_i cs hx
      split at h
      · rename_i a ha; simp at h; subst h
        have := hev x; rw [hx] at this
        obtain ⟨xs, hv, hxs⟩ := this.tup_iff
        obtain ⟨v, h1, h2⟩ := hxs.getD ha
        have h1' : xs[i]? = some v := by simpa using h1
        exact ⟨v, by simp [execOp, Instr.extract, hv, h1'], h2⟩
      · cases h
    · rename_i vs hx
      split at h
      · rename_i a ha; simp at h; subst h
        have := hev x; rw [hx] at this
        generalize hv : va x = v at this
        cases this
        have ha' : vs[i]? = some a := by simpa using ha
        exact ⟨a, by simp [execOp, Instr.extract, hv, ha'], .v a⟩
      · cases h
    · cases h
  | build t parts =>
    simp only [opPure] at h
    split at h
    · rename_i r' hr; simp at h; subst h
      obtain ⟨v, h1, h2⟩ := buildA_run hev hr w
      refine ⟨v, ?_, h2⟩
      have e : parts.map (fun p : Nat × Operand => (p.1, va p.2)) = (parts.toList.map fun p => (p.1, va p.2)).toArray := by apply Array.ext'; simp
      show ((Instr.build t (parts.map fun p : Nat × Operand => (p.1, va p.2))) >>= fun r => pure (Next.value r)).run P w = _
      rw [Sem.run_bind, e, h1]
      simp
    · cases h
  | slice t x lo hi mx =>
    cases mx with
    | some m =>
      cases hi with
      | none => simp [opPure] at h
      | some hi =>
      simp only [opPure] at h
      split at h
      · rename_i el id off len cap l k1 h' k2 m' hu hx hl hh hm
        split at h
        · rename_i n hn
          simp only [Option.some.injEq, Prod.mk.injEq] at h
          obtain ⟨h1, rfl⟩ := h
          have := hev x; rw [hx] at this
          generalize hv : va x = v at this
          cases this with
          | slc hb =>
            have hs := sliceBounds3_run (P := P) hev hl hh hm len cap h1 w
            refine ⟨.slice (some ⟨_, ρ.base id + (bif Nat.beq m'.toNat (l.getD 0).toNat then off else off + (l.getD 0).toNat * n), none⟩) _ _, ?_, .slc hb⟩
            simp only [execOp, Instr.sliceAt, Instr.slice, Sem.run_bind, run_underlying hu, Result.andThen_ok, hv, Option.map_some, hs, run_sizeOf hn]
            cases hbq : Nat.beq m'.toNat (l.getD 0).toNat with
            | true => simp [Nat.eq_of_beq_eq_true hbq]
            | false =>
              have : m'.toNat ≠ (l.getD 0).toNat := Nat.ne_of_beq_eq_false hbq
              simp [this, Addr.add_none, Nat.add_assoc]
        · cases h
      · rename_i el id es k len l k1 h' k2 m' hu hx hl hh hm
        split at h
        · rename_i n hn
          simp only [Option.some.injEq, Prod.mk.injEq] at h
          obtain ⟨h1, rfl⟩ := h
          rw [Bool.and_eq_true] at h1
          obtain ⟨h1, h7⟩ := h1
          have h7 := of_decide_eq_true h7
          have := hev x; rw [hx] at this
          generalize hv : va x = v at this
          cases this with
          | ownE _ hk => omega
          | @own _ _ _ _ b cap hb h0 hc hle hmx =>
            have h1' : (decide (0 ≤ m' ∧ m' ≤ ((cap - k : Nat) : Int)) && (decide (0 ≤ h' ∧ h' ≤ m') && decide (0 ≤ l.getD 0 ∧ l.getD 0 ≤ h'))) = true := by
              simp only [Bool.and_eq_true, decide_eq_true_eq] at h1 ⊢
              exact ⟨⟨h1.1.1, by omega⟩, h1.2⟩
            have hs := sliceBounds3_run (P := P) hev hl hh hm len (cap - k) h1' w
            refine ⟨.slice (some ⟨b, ρ.base id + (bif Nat.beq m'.toNat (l.getD 0).toNat then k * es else k * es + (l.getD 0).toNat * n), none⟩) _ _, ?_, .slc hb⟩
            rw [h0, Nat.zero_add]
            simp only [execOp, Instr.sliceAt, Instr.slice, Sem.run_bind, run_underlying hu, Result.andThen_ok, hv, Option.map_some, hs, run_sizeOf hn]
            cases hbq : Nat.beq m'.toNat (l.getD 0).toNat with
            | true => simp [Nat.eq_of_beq_eq_true hbq]
            | false =>
              have : m'.toNat ≠ (l.getD 0).toNat := Nat.ne_of_beq_eq_false hbq
              simp [this, Addr.add_none]
        · cases h
      · rename_i el len cap l k1 h' k2 m' hu hx hl hh hm
        split at h
        · rename_i n hn
          simp only [Option.some.injEq, Prod.mk.injEq] at h
          obtain ⟨h1, rfl⟩ := h
          have := hev x; rw [hx] at this
          generalize hv : va x = v at this
          cases this
          have hs := sliceBounds3_run (P := P) hev hl hh hm len cap h1 w
          refine ⟨_, ?_, .v _⟩
          simp only [execOp, Instr.sliceAt, Instr.slice, Sem.run_bind, run_underlying hu, Result.andThen_ok, hv, Option.map_some, hs, run_sizeOf hn]
          simp
        · cases h
      · cases h
    | none =>
      simp only [opPure] at h
      split at h
      · rename_i len el id off l h' hu hx hl hh
        split at h
        · rename_i n hn
          simp only [Option.some.injEq, Prod.mk.injEq] at h
          obtain ⟨h1, rfl⟩ := h
          have := hev x; rw [hx] at this
          generalize hv : va x = v at this
          cases this with
          | ptr hb =>
            have hs := sliceBounds_run (P := P) hev hl hh false len len h1 w
            refine ⟨.slice (some ⟨_, ρ.base id + (bif Nat.beq len (l.getD 0).toNat then off else off + (l.getD 0).toNat * n), none⟩) _ _, ?_, .slc hb⟩
            simp only [execOp, Instr.sliceAt, Sem.run_bind, run_underlying hu, Result.andThen_ok, hv, Instr.sureAddr, Sem.run_pure, Option.map_none, hs, run_sizeOf hn]
            cases hbq : Nat.beq len (l.getD 0).toNat with
            | true => simp [Nat.eq_of_beq_eq_true hbq]
            | false =>
              have : len ≠ (l.getD 0).toNat := Nat.ne_of_beq_eq_false hbq
              simp [this, Addr.add_none, Nat.add_assoc]
        · cases h
      · rename_i el id off len cap l h' hu hx hl hh
        split at h
        · rename_i n hn
          simp only [Option.some.injEq, Prod.mk.injEq] at h
          obtain ⟨h1, rfl⟩ := h
          have := hev x; rw [hx] at this
          generalize hv : va x = v at this
          cases this with
          | slc hb =>
            have hs := sliceBounds_run (P := P) hev hl hh true len cap h1 w
            refine ⟨.slice (some ⟨_, ρ.base id + (bif Nat.beq cap (l.getD 0).toNat then off else off + (l.getD 0).toNat * n), none⟩) _ _, ?_, .slc hb⟩
            simp only [execOp, Instr.sliceAt, Instr.slice, Sem.run_bind, run_underlying hu, Result.andThen_ok, hv, Option.map_none, hs, run_sizeOf hn]
            cases hbq : Nat.beq cap (l.getD 0).toNat with
            | true => simp [Nat.eq_of_beq_eq_true hbq]
            | false =>
              have : cap ≠ (l.getD 0).toNat := Nat.ne_of_beq_eq_false hbq
              simp [this, Addr.add_none, Nat.add_assoc]
        · cases h
      · rename_i el id es k len l h' hu hx hl hh
        split at h
        · rename_i n hn
          simp only [Option.some.injEq, Prod.mk.injEq, Bool.and_eq_true, decide_eq_true_eq] at h
          obtain ⟨⟨⟨⟨p1, p2⟩, p3, p4⟩, p6⟩, rfl⟩ := h
          have p6 := Nat.eq_of_beq_eq_true p6
          subst p6
          have := hev x; rw [hx] at this
          generalize hv : va x = v at this
          cases this with
          | @own _ _ _ _ b cap hb h0 hc hle hm =>
            have h1 : (decide (0 ≤ h'.getD len ∧ h'.getD len ≤ ((cap - k : Nat) : Int)) && decide (0 ≤ l.getD 0 ∧ l.getD 0 ≤ h'.getD len)) = true := by
              simp only [Bool.and_eq_true, decide_eq_true_eq]
              exact ⟨⟨p1, by omega⟩, p3, p4⟩
            have hs := sliceBounds_run (P := P) hev hl hh true len (cap - k) h1 w
            have hk : k + (l.getD 0).toNat + ((h'.getD len).toNat - (l.getD 0).toNat) ≤ cap := by omega
            have e1 : cap - k - (l.getD 0).toNat = cap - (k + (l.getD 0).toNat) := by omega
            by_cases p5 : l.getD 0 = 0 ∨ l.getD 0 < (len : Int)
            · have hown := Rv.own (ρ := ρ) (es := n) (k := k + (l.getD 0).toNat) (len := (h'.getD len).toNat - (l.getD 0).toNat) hb h0 hc hk hm
              refine ⟨_, ?_, hown⟩
              simp only [execOp, Instr.sliceAt, Instr.slice, Sem.run_bind, run_underlying hu, Result.andThen_ok, hv, Option.map_none, hs, run_sizeOf hn]
              by_cases hz : cap - k = (l.getD 0).toNat
              · have hl0 : (l.getD 0).toNat = 0 := by omega
                rw [hl0] at hz ⊢
                simp [hz]
              · simp [hz, Addr.add_none, Nat.add_mul, e1]
            · have hz0 : (h'.getD len).toNat - (l.getD 0).toNat = 0 := by omega
              rw [hz0]
              refine ⟨.slice (some ⟨b, bif Nat.beq (cap - k) (l.getD 0).toNat then k * n else k * n + (l.getD 0).toNat * n, none⟩) 0 (cap - k - (l.getD 0).toNat), ?_, .ownE hb (by omega)⟩
              simp only [execOp, Instr.sliceAt, Instr.slice, Sem.run_bind, run_underlying hu, Result.andThen_ok, hv, Option.map_none, hs, run_sizeOf hn]
              cases hbq : Nat.beq (cap - k) (l.getD 0).toNat with
              | true => simp [Nat.eq_of_beq_eq_true hbq, hz0]
              | false =>
                have : cap - k ≠ (l.getD 0).toNat := Nat.ne_of_beq_eq_false hbq
                simp [this, Addr.add_none, hz0]
          | @ownE _ _ _ b j cap hb hk =>
            have h1 : (decide (0 ≤ h'.getD (0 : Nat) ∧ h'.getD (0 : Nat) ≤ (cap : Int)) && decide (0 ≤ l.getD 0 ∧ l.getD 0 ≤ h'.getD (0 : Nat))) = true := by
              simp only [Bool.and_eq_true, decide_eq_true_eq]
              exact ⟨⟨p1, by omega⟩, p3, p4⟩
            have hs := sliceBounds_run (P := P) hev hl hh true 0 cap h1 w
            have hz0 : (h'.getD (0 : Nat)).toNat - (l.getD 0).toNat = 0 := by omega
            have hl0 : (l.getD 0).toNat = 0 := by omega
            rw [hz0]
            refine ⟨.slice (some ⟨b, j, none⟩) 0 cap, ?_, .ownE hb (by omega)⟩
            simp only [execOp, Instr.sliceAt, Instr.slice, Sem.run_bind, run_underlying hu, Result.andThen_ok, hv, Option.map_none, hs, run_sizeOf hn]
            rw [hz0, hl0]
            by_cases hz : cap = 0 <;> simp [hz, Addr.add_none]
        · cases h
      · rename_i el len cap l h' hu hx hl hh
        split at h
        · rename_i n hn
          simp only [Option.some.injEq, Prod.mk.injEq] at h
          obtain ⟨h1, rfl⟩ := h
          have := hev x; rw [hx] at this
          generalize hv : va x = v at this
          cases this
          have hs := sliceBounds_run (P := P) hev hl hh true len cap h1 w
          refine ⟨_, ?_, .v _⟩
          simp only [execOp, Instr.sliceAt, Instr.slice, Sem.run_bind, run_underlying hu, Result.andThen_ok, hv, Option.map_none, hs, run_sizeOf hn]
          simp
        · cases h
      · cases h
  | _ => simp [opPure] at h

end Go.Rq
