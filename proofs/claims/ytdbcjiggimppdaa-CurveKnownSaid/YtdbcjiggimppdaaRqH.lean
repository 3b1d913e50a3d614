/- Steps, and which of them may be exchanged. -/
import Derived.Test.YtdbcjiggimppdaaRqG
namespace Go.Rq
open Go

structure St where
  tm : List AV
  h : AH
  ok : Bool

structure Eff where
  c : Bool
  d : Option Tmp
  r : AV
  ups : AH

def putA (tm : List AV) : Option Tmp → AV → List AV
  | some d, v => tm.set d v
  | none, _ => tm

def St.put (s : St) (e : Eff) : St := ⟨putA s.tm e.d e.r, e.ups ++ s.h, e.c && s.ok⟩

def wantedA (ops : Array Oper) (tm : List AV) (o : Oper) : Option Bool :=
  match o.guard with
  | none => some true
  | some (j, want) => match (ops.toList[j]?).bind (·.dst) with
    | none => some false
    | some d => match tm[d]? with
      | none => some false
      | some (.lit b) => some (b == want)
      | some (.v (.bool b)) => some (b == want)
      | some (.v (.tuple _)) => some false
      | _ => none

def eff (P : Program) (E : Env) (γ : Nat → Option Bool) (base : Nat) (ops : Array Oper) (i : Nat) (tm : List AV) (h : AH) : Option Eff :=
  match ops.toList[i]? with
  | none => none
  | some o => match wantedA ops tm o with
    | none => none
    | some false => some ⟨true, o.dst, .v undef, []⟩
    | some true => match effOp P E (look tm) h (base + i) o.op with
      | none => none
      | some (c, r, ups) => match γ i with
        | none => some ⟨c, o.dst, r, ups⟩
        | some b => match r with
          | .lit b' => some ⟨c && (b' == b), o.dst, .lit b, ups⟩
          | .v (.bool g) => some ⟨c && (g == b), o.dst, .lit b, ups⟩
          | _ => none

def runL (P : Program) (E : Env) (γ : Nat → Option Bool) (base : Nat) (ops : Array Oper) : List Nat → St → Option St
  | [], s => some s
  | i :: t, s => match eff P E γ base ops i s.tm s.h with
    | none => none
    | some e => runL P E γ base ops t (s.put e)

structure Sim (F : Fr) (ds : List Deferred) (ρ : Ren) (s : St) (a : Act) (w : World) : Prop where
  tm : Rvs ρ s.tm a.tmps.toList
  h : RW F ρ s.h w
  ds : a.defers = ds

theorem look_ok {ρ : Ren} {tm : List AV} {a : Act} (h : Rvs ρ tm a.tmps.toList) : EvOk ρ (look tm) a.eval := by
  intro x
  cases x with
  | tmp t =>
    simp only [look, Act.eval]
    cases ht : tm[t]? with
    | none => simp [List.getD, ht]; exact .any _
    | some b =>
      obtain ⟨v, hv, hb⟩ := h.getD ht
      have hv' : a.tmps[t]? = some v := by simpa using hv
      simp [List.getD, ht, hv', hb]
  | const v =>
    exact .constA _
  | global g => exact .v _
  | func f => exact .fn (by simp) (fun i a x h => by simp at h) (by simp) (fun i a x h => by simp at h)

theorem Rvs.put {ρ : Ren} {tm : List AV} {a : Act} {r : AV} {v : Value} (h : Rvs ρ tm a.tmps.toList) (hr : Rv ρ r v) (d : Option Tmp) :
    Rvs ρ (putA tm d r) (a.put d v).tmps.toList := by
  cases d with
  | none => exact h
  | some d => simpa [putA, Act.put] using h.set hr d

theorem Act.put_defers' (a : Act) (d : Option Tmp) (v : Value) : (a.put d v).defers = a.defers := by cases d <;> rfl

theorem wantedA_ok {ρ : Ren} {ops : Array Oper} {tm : List AV} {a : Act} {o : Oper} {b : Bool} (h : Rvs ρ tm a.tmps.toList) (hw : wantedA ops tm o = some b) :
    Region.wanted o (yielded ops a.tmps) = b := by
  unfold wantedA at hw
  unfold Region.wanted
  split at hw
  · rename_i hg; simp at hw; subst hw; simp [hg]
  · rename_i j want hg
    simp only [hg]
    have hy : (ops.toList[j]?).bind (·.dst) = (ops[j]?).bind (·.dst) := by simp
    rw [hy] at hw
    split at hw
    · rename_i hn; simp at hw; subst hw; simp [yielded, hn]
    · rename_i d hd
      split at hw
      · rename_i ht
        simp at hw; subst hw
        have : a.tmps[d]? = none := by
          have := h.1
          rw [Array.getElem?_eq_none_iff, ← Array.length_toList, ← this]
          exact List.getElem?_eq_none_iff.1 ht
        simp [yielded, hd, this]
      · rename_i b' ht
        simp at hw; subst hw
        obtain ⟨v, hv, hb⟩ := h.getD ht
        cases hb
        have hv' : a.tmps[d]? = some (.bool b') := by simpa using hv
        simp [yielded, hd, hv']
      · rename_i b' ht
        simp at hw; subst hw
        obtain ⟨v, hv, hb⟩ := h.getD ht
        cases hb
        have hv' : a.tmps[d]? = some (.bool b') := by simpa using hv
        simp [yielded, hd, hv']
      · rename_i vs ht
        simp at hw; subst hw
        obtain ⟨v, hv, hb⟩ := h.getD ht
        cases hb
        have hv' : a.tmps[d]? = some (.tuple vs) := by simpa using hv
        simp [yielded, hd, hv']
      · cases hw

theorem step_sim {P : Program} {E : Env} (hE : EnvOk P E) {F : Fr} {ds : List Deferred} {ρ : Ren} {γ : Nat → Option Bool} {base : Nat} {ops : Array Oper} {i : Nat} {s : St} {e : Eff} {a : Act} {w : World}
    (he : eff P E γ base ops i s.tm s.h = some e) (hc : e.c = true) (hs : Sim F ds ρ s a w) (hid : ρ (base + i) = none) {K : Act → World → Prop} {Q : Exit → Act → World → Prop}
    (hK : ∀ a' w' ρ', ρ.le ρ' → (∀ j, j ≠ base + i → ρ' j = ρ j) → Sim F ds ρ' (s.put e) a' w' → K a' w') : wpOp P ops Q i K a w := by
  unfold eff at he
  unfold wpOp
  have hget : ops.toList[i]? = ops[i]? := by simp
  rw [hget] at he
  split at he
  · cases he
  · rename_i o ho
    simp only [ho]
    split at he
    · cases he
    · rename_i hw
      have hw' := wantedA_ok hs.tm hw
      simp at he; subst he
      rw [if_neg (by rw [hw']; simp)]
      exact hK _ _ ρ (Ren.le_refl _) (fun _ _ => rfl) ⟨hs.tm.put (.v _) _, hs.h, by rw [Act.put_defers']; exact hs.ds⟩
    · rename_i hw
      have hw' := wantedA_ok hs.tm hw
      rw [if_pos hw']
      left
      split at he
      · cases he
      · rename_i c r ups hop
        have main : c = true → ∀ r', (∀ ρ' v, Rv ρ' r v → Rv ρ' r' v) → e = ⟨e.c, o.dst, r', ups⟩ → o.wp P a w K Q := by
          intro hct r' hr' hee
          subst hct
          refine effOp_sim hE hop (look_ok hs.tm) hs.h hid ?_
          intro v w' ρ' hle hne hrv hrw
          refine hK _ _ ρ' hle hne ?_
          rw [hee]
          exact ⟨(hs.tm.mono hle).put (hr' _ _ hrv) _, hrw, by rw [Act.put_defers']; exact hs.ds⟩
        split at he
        · simp at he; subst he
          exact main hc r (fun _ _ h => h) rfl
        · rename_i b _
          split at he
          · rename_i b'
            simp at he; subst he
            simp only [Bool.and_eq_true, beq_iff_eq] at hc
            obtain ⟨h1, h2⟩ := hc
            exact main h1 (.lit b) (fun _ _ h => by rw [← h2]; exact h) rfl
          · rename_i g
            simp at he; subst he
            simp only [Bool.and_eq_true, beq_iff_eq] at hc
            obtain ⟨h1, h2⟩ := hc
            exact main h1 (.lit b) (fun _ _ h => by cases h; rw [← h2]; exact .lit _) rfl
          · cases he

/-- Two states of which one cannot tell. -/
structure Eqv (s t : St) : Prop where
  tm : s.tm = t.tm
  h : ∀ id, s.h.get id = t.h.get id
  ok : s.ok = t.ok

theorem Eqv.refl (s : St) : Eqv s s := ⟨rfl, fun _ => rfl, rfl⟩
theorem Eqv.symm {s t : St} (h : Eqv s t) : Eqv t s := ⟨h.tm.symm, fun id => (h.h id).symm, h.ok.symm⟩
theorem Eqv.trans {s t u : St} (h : Eqv s t) (k : Eqv t u) : Eqv s u := ⟨h.tm.trans k.tm, fun id => (h.h id).trans (k.h id), h.ok.trans k.ok⟩

theorem Sim.eqv {F : Fr} {ds : List Deferred} {ρ : Ren} {s t : St} {a : Act} {w : World} (h : Sim F ds ρ s a w) (e : Eqv s t) : Sim F ds ρ t a w :=
  ⟨by rw [← e.tm]; exact h.tm, h.h.congr fun id => (e.h id).symm, h.ds⟩

theorem AH.get_append (u h : AH) (id : Nat) : AH.get (u ++ h) id = if (∃ p ∈ u, p.1 = id) then AH.get u id else AH.get h id := by
  induction u with
  | nil => simp
  | cons p t ih =>
    obtain ⟨i, b⟩ := p
    rw [List.cons_append, AH.get_cons, AH.get_cons, ih]
    by_cases hi : i = id
    · simp [hi]
    · have e : (∃ p, p ∈ (i, b) :: t ∧ p.1 = id) ↔ (∃ p, p ∈ t ∧ p.1 = id) := by
        constructor
        · rintro ⟨p, hp, rfl⟩
          rcases List.mem_cons.1 hp with rfl | hp
          · exact absurd rfl hi
          · exact ⟨p, hp, rfl⟩
        · rintro ⟨p, hp, rfl⟩; exact ⟨p, List.mem_cons_of_mem _ hp, rfl⟩
      simp only [hi, if_false, e]

theorem AH.get_append_congr {u h h' : AH} (e : ∀ id, h.get id = h'.get id) (id : Nat) : AH.get (u ++ h) id = AH.get (u ++ h') id := by
  rw [AH.get_append, AH.get_append, e]

/-- The block that a value names. -/
def named : AV → Nat → Prop
  | .slc i _ _ _, j => i = j
  | .own i _ _ _, j => i = j
  | _, _ => False

theorem sliceCells_cong {size : Nat} {h h' : AH} {a : AV} {x : Nat × List AV} (hh : ∀ i B, named a i → h.get i = some B → h'.get i = some B) (e : sliceCells size h a = some x) : sliceCells size h' a = some x := by
  unfold sliceCells at e ⊢
  split at e
  · split at e
    · cases e
    · rename_i B hB; simp only [hh _ B rfl hB]; exact e
  · split at e
    · cases e
    · rename_i hes
      split at e
      · cases e
      · rename_i B hB; simp only [hh _ B rfl hB]; exact e
  · cases e

theorem appendTo_cong {h h' : AH} {id : Nat} {e : TypeId} {size bytes m : Nat} {news : List AV} {a : AV} {x : Bool × AV × AH} (hh : ∀ i B, named a i → h.get i = some B → h'.get i = some B)
    (he : appendTo h id e size bytes m news a = some x) : appendTo h' id e size bytes m news a = some x := by
  unfold appendTo at he ⊢
  split at he
  · exact he
  · split at he
    · cases he
    · rename_i B hB
      simp only [hh _ B rfl hB]; exact he
  · cases he

theorem effAppend_cong {P : Program} {ev : Operand → AV} {h h' : AH} {id : Nat} {c : Call} {x : Bool × AV × AH} (hh : ∀ y i B, named (ev y) i → h.get i = some B → h'.get i = some B)
    (he : effAppend P ev h id c = some x) : effAppend P ev h' id c = some x := by
  unfold effAppend at he ⊢
  split at he
  case h_2 => cases he
  rename_i s y t t' ha ht
  try simp only [ha, ht]
  split at he
  · cases he
  rename_i htt
  try simp only [htt]
  split at he
  case h_2 => cases he
  rename_i e hu
  try simp only [hu]
  split at he
  · cases he
  rename_i i hi
  try simp only [hi]
  split at he
  · cases he
  rename_i z hz
  try simp only [hz]
  split at he
  · cases he
  rename_i m news hn
  simp only [sliceCells_cong (hh y) hn]
  cases hb : (allOne news && (Nat.beq z.cells.size i.size && Nat.blt 0 i.size)) with
  | false => rw [hb] at he; cases he
  | true =>
    rw [hb, cond_true] at he
    rw [cond_true]
    exact appendTo_cong (hh s) he

theorem effStr_cong {P : Program} {h h' : AH} {s d : TypeId} {a r : AV} (hh : ∀ i B, named a i → h.get i = some B → h'.get i = some B) (he : effStr P h s d a = some r) : effStr P h' s d a = some r := by
  unfold effStr at he ⊢
  split at he
  · rename_i e hs hd
    split at he
    · rename_i hb
      split at he
      · cases he
      · rename_i m l hl
        simp only [sliceCells_cong hh hl]; exact he
    · cases he
  · cases he

theorem effOp_mono {P : Program} {E : Env} (hE : EnvOk P E) {ev : Operand → AV} {h h' : AH} {id : Nat} {op : Op} {x : Bool × AV × AH}
    (hh : ∀ id B, h.get id = some B → h'.get id = some B) (he : effOp P E ev h id op = some x) : effOp P E ev h' id op = some x := by
  cases op with
  | load t a =>
    simp only [effOp] at he ⊢
    split at he
    · rename_i i off hx
      split at he
      · rename_i B hB; simp only [hh _ _ hB]; exact he
      · cases he
    · cases he
  | store t a y =>
    simp only [effOp] at he ⊢
    split at he
    · rename_i i off hx
      split at he
      · rename_i B hB; simp only [hh _ _ hB]; exact he
      · cases he
    · cases he
  | call c =>
    simp only [effOp] at he ⊢
    split at he
    · rename_i f hf
      unfold effCall at he ⊢
      split at he
      · rename_i fid as bs hfv
        try simp only [hfv]
        split at he
        · exact he
        · rename_i hg
          split at he
          · rename_i f'
            split at he
            · rename_i g hg'
              exact (hE.heap _ g hg').2.mono _ _ _ _ hh he
            · cases he
          · cases he
      · cases he
    · exact he
    · exact effAppend_cong (fun _ i B _ hB => hh i B hB) he
    · exact he
    · cases he
  | convert s d x =>
    simp only [effOp] at he ⊢
    split at he
    · split at he
      · rename_i r hr
        simp only [effStr_cong (fun i B _ hB => hh i B hB) hr]; exact he
      · cases he
    · exact he
  | _ => exact he

theorem effOp_congr_h {P : Program} {E : Env} (hE : EnvOk P E) {ev : Operand → AV} {h h' : AH} {id : Nat} {op : Op}
    (hh : ∀ id, h.get id = h'.get id) : effOp P E ev h id op = effOp P E ev h' id op := by
  cases he : effOp P E ev h id op with
  | some x => exact (effOp_mono hE (fun i B hB => by rw [← hh]; exact hB) he).symm
  | none =>
    cases he' : effOp P E ev h' id op with
    | none => rfl
    | some x => rw [effOp_mono hE (fun i B hB => by rw [hh]; exact hB) he'] at he; cases he

theorem eff_congr_h {P : Program} {E : Env} (hE : EnvOk P E) {γ : Nat → Option Bool} {base : Nat} {ops : Array Oper} {i : Nat} {tm : List AV} {h h' : AH}
    (hh : ∀ id, h.get id = h'.get id) : eff P E γ base ops i tm h = eff P E γ base ops i tm h' := by
  unfold eff
  split
  · rfl
  · split
    · rfl
    · rfl
    · rw [effOp_congr_h hE hh]

theorem Eqv.put {s t : St} (h : Eqv s t) (e : Eff) : Eqv (s.put e) (t.put e) :=
  ⟨by simp [St.put, h.tm], fun id => AH.get_append_congr h.h id, by simp [St.put, h.ok]⟩

theorem runL_eqv {P : Program} {E : Env} (hE : EnvOk P E) {γ : Nat → Option Bool} {base : Nat} {ops : Array Oper} : ∀ {l : List Nat} {s t s' : St}, Eqv s t →
    runL P E γ base ops l s = some s' → ∃ t', runL P E γ base ops l t = some t' ∧ Eqv s' t'
  | [], s, t, s', h, hr => by simp [runL] at hr; subst hr; exact ⟨t, rfl, h⟩
  | i :: l, s, t, s', h, hr => by
    simp only [runL] at hr ⊢
    rw [← h.tm, ← eff_congr_h hE h.h]
    split at hr
    · cases hr
    · rename_i e he
      exact runL_eqv hE (h.put e) hr

theorem runL_append {P : Program} {E : Env} {γ : Nat → Option Bool} {base : Nat} {ops : Array Oper} : ∀ (l m : List Nat) (s : St),
    runL P E γ base ops (l ++ m) s = (runL P E γ base ops l s).bind (runL P E γ base ops m)
  | [], m, s => rfl
  | i :: l, m, s => by
    simp only [List.cons_append, runL]
    split
    · rfl
    · exact runL_append l m _

theorem runL_ok {P : Program} {E : Env} {γ : Nat → Option Bool} {base : Nat} {ops : Array Oper} : ∀ {l : List Nat} {s s' : St}, runL P E γ base ops l s = some s' → s'.ok = true → s.ok = true
  | [], s, s', h, hk => by simp [runL] at h; subst h; exact hk
  | i :: l, s, s', h, hk => by
    simp only [runL] at h
    split at h
    · cases h
    · have := runL_ok h hk
      simp [St.put] at this
      exact this.2

end Go.Rq
