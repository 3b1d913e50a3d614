/- Steps that may be exchanged. -/
import Derived.Test.YtdbcjiggimppdaaRqH
namespace Go.Rq
open Go

theorem maps_congr {ev ev' : Operand → AV} : ∀ {l : List Operand}, (∀ x ∈ l, ev x = ev' x) → maps ev l = maps ev' l
  | [], _ => rfl
  | x :: t, h => by simp only [maps]; rw [h x (by simp), maps_congr fun y hy => h y (by simp [hy])]

theorem evs_congr {ev ev' : Operand → AV} : ∀ {l : List (Nat × Operand)}, (∀ p ∈ l, ev p.2 = ev' p.2) → evs ev l = evs ev' l
  | [], _ => rfl
  | p :: t, h => by obtain ⟨i, x⟩ := p; simp only [evs]; rw [h (i, x) (by simp), evs_congr fun y hy => h y (by simp [hy])]

theorem bound_congr {ev ev' : Operand → AV} : ∀ {o : Option Operand}, (∀ x, o = some x → ev x = ev' x) → bound ev o = bound ev' o
  | none, _ => rfl
  | some x, h => by simp only [bound]; rw [h x rfl]

theorem opPure_congr {P : Program} {E : Env} {ev ev' : Operand → AV} {op : Op} (h : ∀ x ∈ op.operands, ev x = ev' x) : opPure P E ev op = opPure P E ev' op := by
  cases op with
  | slice t x lo hi mx =>
    cases mx with
    | some m => rfl
    | none =>
      have hx : ev x = ev' x := h x (by simp [Op.operands])
      have hlo : bound ev lo = bound ev' lo := bound_congr fun y hy => h y (by subst hy; simp [Op.operands])
      have hhi : bound ev hi = bound ev' hi := bound_congr fun y hy => h y (by subst hy; simp [Op.operands])
      simp only [opPure, hx, hlo, hhi]
  | build t parts =>
    have hp : evs ev parts.toList = evs ev' parts.toList := evs_congr fun p hp => h p.2 (by
      simp only [Op.operands, List.mem_toArray, List.mem_map]
      exact ⟨p, hp, rfl⟩)
    simp only [opPure, buildA, hp]
  | makeFunc f as bs =>
    have h1 : maps ev as.toList = maps ev' as.toList := maps_congr fun x hx => h x (by simp [Op.operands]; exact .inl (by simpa using hx))
    have h2 : maps ev bs.toList = maps ev' bs.toList := maps_congr fun x hx => h x (by simp [Op.operands]; exact .inr (by simpa using hx))
    simp only [opPure, h1, h2]
  | pick c a b =>
    have h1 := h c (by simp [Op.operands]); have h2 := h a (by simp [Op.operands]); have h3 := h b (by simp [Op.operands])
    simp only [opPure, h1, h2, h3]
  | binOp op t x y u =>
    have h1 := h x (by simp [Op.operands]); have h2 := h y (by simp [Op.operands])
    simp only [opPure, h1, h2]
  | indexAddr t x y =>
    have h1 := h x (by simp [Op.operands]); have h2 := h y (by simp [Op.operands])
    simp only [opPure, h1, h2]
  | index t x y =>
    have h1 := h x (by simp [Op.operands]); have h2 := h y (by simp [Op.operands])
    simp only [opPure, h1, h2]
  | move x => have h1 := h x (by simp [Op.operands]); simp only [opPure, h1]
  | assign x => have h1 := h x (by simp [Op.operands]); simp only [opPure, h1]
  | nilCheck x => have h1 := h x (by simp [Op.operands]); simp only [opPure, h1]
  | unOp o t x => have h1 := h x (by simp [Op.operands]); simp only [opPure, h1]
  | convert s d x => have h1 := h x (by simp [Op.operands]); simp only [opPure, h1]
  | makeInterface t x => have h1 := h x (by simp [Op.operands]); simp only [opPure, h1]
  | sliceToArrayPointer t x => have h1 := h x (by simp [Op.operands]); simp only [opPure, h1]
  | fieldAddr s x f => have h1 := h x (by simp [Op.operands]); simp only [opPure, h1]
  | field s x f => have h1 := h x (by simp [Op.operands]); simp only [opPure, h1]
  | extract x i => have h1 := h x (by simp [Op.operands]); simp only [opPure, h1]
  | _ => rfl

theorem effOp_congr {P : Program} {E : Env} {ev ev' : Operand → AV} {hp : AH} {id : Nat} {op : Op} (h : ∀ x ∈ op.operands, ev x = ev' x) : effOp P E ev hp id op = effOp P E ev' hp id op := by
  cases op with
  | alloc t => rfl
  | box t x => have h1 := h x (by simp [Op.operands]); simp only [effOp, h1]
  | load t x => have h1 := h x (by simp [Op.operands]); simp only [effOp, h1]
  | store t x y => have h1 := h x (by simp [Op.operands]); have h2 := h y (by simp [Op.operands]); simp only [effOp, h1, h2]
  | call c =>
    have hargs : ∀ x ∈ c.args.toList, ev x = ev' x := fun x hx => h x (by simp [Op.operands, Call.operands]; exact .inr (by simpa using hx))
    simp only [effOp]
    split
    · rename_i f hf
      have h1 : ev f = ev' f := h f (by simp [Op.operands, Call.operands, hf])
      simp only [effCall, h1, maps_congr hargs]
    · have : effLen P ev c = effLen P ev' c := by
        unfold effLen
        split
        · rename_i x xs t ts e1 e2
          rw [hargs x (by rw [e1]; simp)]
        · rfl
      rw [this]
    · unfold effAppend
      split
      · rename_i s x t t' e1 e2
        rw [hargs s (by rw [e1]; simp), hargs x (by rw [e1]; simp)]
      · rfl
    · simp only [effMax, maps_congr hargs]
    · rfl
  | convert s d x =>
    have h1 := h x (by simp [Op.operands])
    have h2 := opPure_congr (P := P) (E := E) h
    simp only [effOp, h1, h2]
  | buildSlice t len parts =>
    have hp : evs ev parts.toList = evs ev' parts.toList := evs_congr fun p hp => h p.2 (by
      simp only [Op.operands, List.mem_toArray, List.mem_map]
      exact ⟨p, hp, rfl⟩)
    simp only [effOp, effBuildSlice, hp]
  | _ => simp only [effOp, opPure_congr h]

theorem look_congr {tm tm' : List AV} {x : Operand} (h : ∀ t, x = .tmp t → tm'[t]? = tm[t]?) : look tm' x = look tm x := by
  cases x with
  | tmp t => simp only [look, List.getD]; rw [h t rfl]
  | _ => rfl

theorem eff_congr {P : Program} {E : Env} {γ : Nat → Option Bool} {base : Nat} {ops : Array Oper} {i : Nat} {o : Oper} {tm tm' : List AV} {h : AH} (ho : ops[i]? = some o)
    (hl : ∀ t ∈ o.looksAt ops, tm'[t]? = tm[t]?) : eff P E γ base ops i tm' h = eff P E γ base ops i tm h := by
  have hget : ops.toList[i]? = some o := by simpa using ho
  have h1 : wantedA ops tm' o = wantedA ops tm o := by
    unfold wantedA
    split
    · rfl
    · rename_i j want hg
      have hy : (ops.toList[j]?).bind (·.dst) = (ops[j]?).bind (·.dst) := by simp
      rw [hy]
      split
      · rfl
      · rename_i d hd
        rw [hl d (by simp [Oper.looksAt, hg, hd])]
  have h2 : effOp P E (look tm') h (base + i) o.op = effOp P E (look tm) h (base + i) o.op := effOp_congr fun x hx => look_congr fun t e => by
    subst e
    refine hl t ?_
    simp only [Oper.looksAt, List.mem_append, List.mem_filterMap]
    exact .inl ⟨.tmp t, by simpa using hx, rfl⟩
  unfold eff
  rw [hget]
  simp only [h1, h2]

theorem putA_get {tm : List AV} {d : Option Tmp} {r : AV} {t : Nat} (h : ∀ e, d = some e → e ≠ t) : (putA tm d r)[t]? = tm[t]? := by
  cases d with
  | none => rfl
  | some e => simp only [putA]; rw [List.getElem?_set, if_neg (h e rfl)]

theorem putA_comm {tm : List AV} {d e : Option Tmp} {r q : AV} (h : ∀ x, d = some x → e ≠ some x) : putA (putA tm d r) e q = putA (putA tm e q) d r := by
  cases d with
  | none => rfl
  | some x =>
    cases e with
    | none => rfl
    | some y => exact List.set_comm _ _ (fun he => h x rfl (by rw [he]))

theorem cond_some {α : Type} {b : Bool} {x : Option α} {y : α} (h : (bif b then x else none) = some y) : b = true ∧ x = some y := by
  cases b with
  | true => exact ⟨rfl, h⟩
  | false => cases h

/-- What an operation that writes nothing lays: nothing, or one block under its own name. -/
theorem effOp_lays {P : Program} {E : Env} {tm : List AV} {h : AH} {id : Nat} {op : Op} {c : Bool} {r : AV} {ups : AH} (hw : isWr E op = false) (he : effOp P E (look tm) h id op = some (c, r, ups)) :
    ups = [] ∨ ∃ b, ups = [(id, b)] := by
  cases op with
  | alloc t => simp only [effOp] at he; split at he <;> simp at he; exact .inr ⟨_, he.2.2.symm⟩
  | box t x => simp only [effOp] at he; split at he <;> simp at he; exact .inr ⟨_, he.2.2.symm⟩
  | buildSlice t len parts =>
    simp only [effOp, effBuildSlice] at he
    split at he
    · split at he
      · cases he
      · split at he
        · cases he
        · obtain ⟨-, he⟩ := cond_some he
          split at he <;> simp at he
          exact .inr ⟨_, he.2.2.symm⟩
    · cases he
  | load t a =>
    simp only [effOp] at he
    split at he
    · split at he
      · split at he <;> simp at he; exact .inl he.2.2
      · cases he
    · cases he
  | store t a x => simp [isWr] at hw
  | call c' =>
    simp only [effOp] at he
    split at he
    · rename_i f hf
      unfold effCall at he
      split at he
      · rename_i fid as bs hfv
        split at he
        · split at he <;> simp at he; exact .inl he.2.2
        · rename_i hg
          split at he
          · rename_i f'
            simp [look] at hfv
            obtain ⟨rfl, -, -⟩ := hfv
            simp [isWr, hf, hg] at hw
          · cases he
      · cases he
    · split at he <;> simp at he; exact .inl he.2.2
    · rename_i hb; simp [isWr, hb] at hw
    · split at he <;> simp at he; exact .inl he.2.2
    · cases he
  | convert s d x =>
    simp only [effOp] at he
    split at he <;> split at he <;> simp at he <;> exact .inl he.2.2
  | _ => simp only [effOp] at he; split at he <;> simp at he; exact .inl he.2.2

theorem effAppend_ups {P : Program} {ev : Operand → AV} {h : AH} {id : Nat} {c : Call} {cc : Bool} {r : AV} {ups : AH} (he : effAppend P ev h id c = some (cc, r, ups)) : ∀ p ∈ ups, p.1 = id ∨ ∃ B, h.get p.1 = some B := by
  unfold effAppend at he
  split at he
  case h_2 => cases he
  split at he
  · cases he
  split at he
  case h_2 => cases he
  split at he
  · cases he
  split at he
  · cases he
  split at he
  · cases he
  obtain ⟨-, he⟩ := cond_some he
  unfold appendTo at he
  split at he
  · obtain ⟨-, he⟩ := cond_some he
    simp at he
    obtain ⟨-, -, rfl⟩ := he
    intro p hp; simp at hp; subst hp; exact .inl rfl
  · split at he
    · cases he
    rename_i B hB
    split at he
    · cases he
    obtain ⟨-, he⟩ := cond_some he
    simp at he
    obtain ⟨-, -, rfl⟩ := he
    intro p hp; simp at hp
    rcases hp with rfl | rfl
    · exact .inl rfl
    · exact .inr ⟨B, hB⟩
  · cases he

/-- What an operation that writes writes was there, or bears its own name. -/
theorem effOp_writes {P : Program} {E : Env} (hE : EnvOk P E) {tm : List AV} {h : AH} {id : Nat} {op : Op} {c : Bool} {r : AV} {ups : AH} (hw : isWr E op = true) (he : effOp P E (look tm) h id op = some (c, r, ups)) :
    ∀ p ∈ ups, p.1 = id ∨ ∃ B, h.get p.1 = some B := by
  cases op with
  | store t a x =>
    simp only [effOp] at he
    split at he
    · rename_i i off _
      split at he
      · rename_i B hB
        split at he
        · split at he <;> simp at he
          obtain ⟨-, -, rfl⟩ := he
          intro p hp; simp at hp; subst hp; exact .inr ⟨B, hB⟩
        · cases he
      · cases he
    · cases he
  | call c' =>
    simp only [effOp] at he
    split at he
    · rename_i f hf
      unfold effCall at he
      split at he
      · rename_i fid as bs hfv
        split at he
        · split at he <;> simp at he
          obtain ⟨-, -, rfl⟩ := he
          simp
        · split at he
          · split at he
            · rename_i g hg
              exact fun p hp => .inr ((hE.heap _ g hg).2.dom _ _ _ _ _ he p hp)
            · cases he
          · cases he
      · cases he
    · rename_i hb; simp [isWr, hb] at hw
    · exact effAppend_ups he
    · rename_i hb; simp [isWr, hb] at hw
    · cases he
  | _ => simp [isWr] at hw

/-- An operation that neither reads nor writes does not hang on the heap. -/
theorem effOp_free {P : Program} {E : Env} {tm : List AV} {h h' : AH} {id : Nat} {op : Op} (hw : isWr E op = false) (hr : isRd E op = false) :
    effOp P E (look tm) h id op = effOp P E (look tm) h' id op := by
  cases op with
  | load t a => simp [isRd] at hr
  | store t a x => simp [isWr] at hw
  | call c' =>
    simp only [effOp]
    split
    · rename_i f hf
      unfold effCall
      split
      · rename_i fid as bs hfv
        split
        · rfl
        · rename_i hg
          split
          · rename_i f'
            simp [look] at hfv
            obtain ⟨rfl, -, -⟩ := hfv
            simp [isWr, hf, hg] at hw
          · rfl
      · rfl
    · rfl
    · rename_i hb; simp [isWr, hb] at hw
    · rfl
    · rfl
  | convert s d x =>
    have hr : inL d E.strT = false := hr
    simp only [effOp, hr, Bool.false_and]
  | _ => rfl

/-- A block that no value names changes nothing. -/
theorem effOp_weaken {P : Program} {E : Env} (hE : EnvOk P E) {ρ : Ren} {ev : Operand → AV} {va : Operand → Value} (hev : EvOk ρ ev va) {h : AH} {z : Nat} {b : Option Blk} (hz : ρ z = none) {id : Nat} {op : Op} {x : Bool × AV × AH}
    (he : effOp P E ev ((z, b) :: h) id op = some x) : effOp P E ev h id op = some x := by
  have key : ∀ {y : Operand} {i off : Nat}, ev y = .ptr i off → AH.get ((z, b) :: h) i = AH.get h i := by
    intro y i off hy
    have := hev y; rw [hy] at this
    generalize va y = v at this
    cases this with
    | ptr hb =>
      rw [AH.get_cons, if_neg]
      rintro rfl
      rw [hz] at hb; cases hb
  cases op with
  | load t a =>
    simp only [effOp] at he ⊢
    split at he
    · rename_i i off hx
      rw [key hx] at he
      exact he
    · cases he
  | store t a y =>
    simp only [effOp] at he ⊢
    split at he
    · rename_i i off hx
      rw [key hx] at he
      exact he
    · cases he
  | call c =>
    simp only [effOp] at he ⊢
    split at he
    · rename_i f hf
      unfold effCall at he ⊢
      split at he
      · rename_i fid as bs hfv
        try simp only [hfv]
        split at he
        · exact he
        · rename_i hg
          split at he
          · rename_i f'
            split at he
            · rename_i g hg'
              exact (hE.heap _ g hg').2.local_ ρ _ _ z b h _ (Rvs.maps hev c.args.toList) hz he
            · cases he
          · cases he
      · cases he
    · exact he
    · refine effAppend_cong (fun y i B hn hB => ?_) he
      have hne : z ≠ i := by
        rintro rfl
        have := hev y
        unfold named at hn
        split at hn
        · rename_i hy; rw [hy] at this; subst hn
          generalize va y = v at this
          cases this with | slc hb => rw [hz] at hb; cases hb
        · rename_i hy; rw [hy] at this; subst hn
          generalize va y = v at this
          cases this with | own hb _ _ _ => rw [hz] at hb; cases hb
        · exact hn
      rw [AH.get_cons, if_neg hne] at hB
      exact hB
    · exact he
    · cases he
  | convert s d x =>
    simp only [effOp] at he ⊢
    split at he
    · split at he
      · rename_i r hr
        have := effStr_cong (h' := h) (fun i B hn hB => by
          have hne : z ≠ i := by
            rintro rfl
            have := hev x
            unfold named at hn
            split at hn
            · rename_i hy; rw [hy] at this; subst hn
              generalize va x = v at this
              cases this with | slc hb => rw [hz] at hb; cases hb
            · rename_i hy; rw [hy] at this; subst hn
              generalize va x = v at this
              cases this with | own hb _ _ _ => rw [hz] at hb; cases hb
            · exact hn
          rw [AH.get_cons, if_neg hne] at hB
          exact hB) hr
        simp only [this]; exact he
      · cases he
    · exact he
  | _ => exact he

end Go.Rq
