import Derived.Test.YtedplhdabefnkaaGreatDoorRq02
namespace Go.Rq
open Go
structure St where
 tm : List AV
 h : AH
 ok : Bool
structure Eff where
 c : Bool
 d : Option Tmp
 r : AV
 ups : AH
def putA (tm : List AV) : Option Tmp -> AV -> List AV
 | some d, v => tm.set d v
 | none, _ => tm
def St.put (s : St) (e : Eff) : St := ⟨putA s.tm e.d e.r, e.ups ++ s.h, e.c && s.ok⟩
def wantedA (ops : Array Oper) (tm : List AV) (o : Oper) : Option Bool :=
 match o.guard with
 | none => some true
 | some (j, want) => match (ops.toList[j]?).bind (·.dst) with
  | none => some false
  | some d => match tm[d]? with
   | none => some false
   | some (.lit b) => some (b == want)
   | some (.v (.bool b)) => some (b == want)
   | some (.v (.tuple _)) => some false
   | _ => none
def tauEq : Option Nat -> AV -> Bool
 | some id, .ptr j _ => Nat.beq id j
 | _, _ => false
def tauOwn : Option Nat -> AV -> Bool
 | none, _ => true
 | some id, .own j _ _ _ => Nat.beq id j
 | some _, .v (.slice none 0 0) => true
 | some _, .slc _ _ _ _ => true
 | some _, _ => false
def appArg : Op -> Option Operand
 | .call c => match c.callee with
  | .builtin .append => match c.args.toList with
   | s :: _ => some s
   | [] => none
  | _ => none
 | _ => none
def rdArgs (E : Env) : Op -> Option (List Operand)
 | .call c => match c.callee with
  | .value (.func f) => match E.pure f with
   | some _ => none
   | none => match E.heap f with
    | some _ => match memN f E.ro with
     | true => some c.args.toList
     | false => none
    | none => none
  | _ => none
 | _ => none
def strArg (E : Env) : Op -> Option Operand
 | .convert s d a => match inL d E.strT && !Nat.beq s d with
  | true => some a
  | false => none
 | _ => none
def mvArg (E : Env) : Op -> Option Operand
 | .convert s d a => match E.dyn && Nat.beq s d with
  | true => some a
  | false => none
 | _ => none
def tauSl : Option Nat -> AV -> Bool
 | none, _ => true
 | some m, .slc i _ _ _ => Nat.beq i m
 | some m, .own i _ _ _ => Nat.beq i m
 | some _, _ => false
def allEq (m : Nat) : List Nat -> Bool
 | [] => true
 | i :: t => Nat.beq i m && allEq m t
def tauIds : Option Nat -> List AV -> Bool
 | none, _ => true
 | some m, as => allEq m (idsOf as)
def tauOk (E : Env) (i : Nat) (op : Op) (ev : Operand -> AV) : Bool :=
 match E.tau with
 | none => true
 | some l => match op with
  | .load _ a => tauEq (l.getD i none) (ev a)
  | .store _ a _ => tauEq (l.getD i none) (ev a)
  | op => match appArg op with
   | some s => tauOwn (l.getD i none) (ev s)
   | none => match strArg E op with
    | some a => tauSl (l.getD i none) (ev a)
    | none => match rdArgs E op with
     | some as => tauIds (l.getD i none) (maps ev as)
     | none => match mvArg E op with
      | some a => tauSl (l.getD i none) (ev a)
      | none => true
def isAct (E : Env) : Op -> Bool
 | .call c => match c.callee with
  | .value (.func f) => match E.pure f with
   | some _ => false
   | none => match E.heap f with
    | some _ => false
    | none => match E.lay f with
     | some _ => false
     | none => match E.act f with
      | some _ => !memN f E.ro
      | none => false
  | _ => false
 | _ => false
def notIn (l : List (Option Nat)) (i : Nat) : Bool := match l with
 | [] => true
 | some j :: t => !Nat.beq i j && notIn t i
 | none :: t => notIn t i
def upsOut (l : List (Option Nat)) : AH -> Bool
 | [] => true
 | p :: t => notIn l p.1 && upsOut l t
def upsOk (E : Env) (op : Op) (ups : AH) : Bool := match E.tau with
 | none => true
 | some l => match isAct E op with
  | true => upsOut l ups
  | false => true
def effT (P : Program) (E : Env) (ev : Operand -> AV) (h : AH) (id : Nat) (op : Op) : Option (Bool × AV × AH) :=
 match effOp P E ev h id op with
 | none => none
 | some (c, r, ups) => match upsOk E op ups with
  | true => some (c, r, ups)
  | false => none
theorem effT_spec {P : Program} {E : Env} {ev : Operand -> AV} {h : AH} {id : Nat} {op : Op} {c : Bool} {r : AV} {ups : AH} (e : effT P E ev h id op = some (c, r, ups)) : effOp P E ev h id op = some (c, r, ups) /\ upsOk E op ups = true := by
 unfold effT at e
 split at e
 . cases e
 . rename_i c' r' u' h1
   split at e
   . rename_i h2
     simp only [Option.some.injEq, Prod.mk.injEq] at e
     obtain ⟨rfl, rfl, rfl⟩ := e
     exact ⟨h1, h2⟩
   . cases e
theorem effT_mk {P : Program} {E : Env} {ev : Operand -> AV} {h : AH} {id : Nat} {op : Op} {c : Bool} {r : AV} {ups : AH} (e : effOp P E ev h id op = some (c, r, ups)) (k : upsOk E op ups = true) : effT P E ev h id op = some (c, r, ups) := by
 unfold effT; rw [e]; simp only [k]
theorem effT_of {P : Program} {E : Env} {ev ev' : Operand -> AV} {h h' : AH} {id : Nat} {op : Op} (e : effOp P E ev h id op = effOp P E ev' h' id op) : effT P E ev h id op = effT P E ev' h' id op := by
 unfold effT; rw [e]
theorem effT_to {P : Program} {E : Env} {ev ev' : Operand -> AV} {h h' : AH} {id : Nat} {op : Op} (e : ∀ x, effOp P E ev h id op = some x -> effOp P E ev' h' id op = some x) {x : Bool × AV × AH} (k : effT P E ev h id op = some x) : effT P E ev' h' id op = some x := by
 obtain ⟨c, r, u⟩ := x
 obtain ⟨h1, h2⟩ := effT_spec k
 exact effT_mk (e _ h1) h2
def eff (P : Program) (E : Env) (γ : Nat -> Option Bool) (base : Nat) (ops : Array Oper) (i : Nat) (tm : List AV) (h : AH) : Option Eff :=
 match ops.toList[i]? with
 | none => none
 | some o => match wantedA ops tm o with
  | none => none
  | some false => some ⟨true, o.dst, .v undef, []⟩
  | some true => match tauOk E i o.op (look tm) with
   | false => none
   | true => match effT P E (look tm) h (base + E.kk * i) o.op with
    | none => none
    | some (c, r, ups) => match γ i with
     | none => some ⟨c, o.dst, r, ups⟩
     | some b => match r with
      | .lit b' => some ⟨c && (b' == b), o.dst, .lit b, ups⟩
      | .v (.bool g) => some ⟨c && (g == b), o.dst, .lit b, ups⟩
      | _ => none
def runL (P : Program) (E : Env) (γ : Nat -> Option Bool) (base : Nat) (ops : Array Oper) : List Nat -> St -> Option St
 | [], s => some s
 | i :: t, s => match eff P E γ base ops i s.tm s.h with
  | none => none
  | some e => runL P E γ base ops t (s.put e)
structure Sim (F : Fr) (ds : List Deferred) (ρ : Ren) (s : St) (a : Act) (w : World) : Prop where
 tm : Rvs ρ s.tm a.tmps.toList
 h : RW F ρ s.h w
 ds : a.defers = ds
theorem look_ok {ρ : Ren} {tm : List AV} {a : Act} (h : Rvs ρ tm a.tmps.toList) : EvOk ρ (look tm) a.eval := by
 intro x
 cases x with
 | tmp t =>
  simp only [look, Act.eval]
  cases ht : tm[t]? with
  | none => simp [List.getD, ht]; exact .any _
  | some b =>
   obtain ⟨v, hv, hb⟩ := h.getD ht
   have hv' : a.tmps[t]? = some v := by simpa using hv
   simp [List.getD, ht, hv', hb]
 | const v =>
  exact .constA _
 | global g => exact .v _
 | func f => exact .fn (by simp) (fun i a x h => by simp at h) (by simp) (fun i a x h => by simp at h)
theorem Rvs.put {ρ : Ren} {tm : List AV} {a : Act} {r : AV} {v : Value} (h : Rvs ρ tm a.tmps.toList) (hr : Rv ρ r v) (d : Option Tmp) :
 Rvs ρ (putA tm d r) (a.put d v).tmps.toList := by
 cases d with
 | none => exact h
 | some d => simpa [putA, Act.put] using h.set hr d
theorem Act.put_defers' (a : Act) (d : Option Tmp) (v : Value) : (a.put d v).defers = a.defers := by cases d <;> rfl
theorem wantedA_ok {ρ : Ren} {ops : Array Oper} {tm : List AV} {a : Act} {o : Oper} {b : Bool} (h : Rvs ρ tm a.tmps.toList) (hw : wantedA ops tm o = some b) :
 Region.wanted o (yielded ops a.tmps) = b := by
 unfold wantedA at hw
 unfold Region.wanted
 split at hw
 . rename_i hg; simp at hw; subst hw; simp [hg]
 . rename_i j want hg
   simp only [hg]
   have hy : (ops.toList[j]?).bind (·.dst) = (ops[j]?).bind (·.dst) := by simp
   rw [hy] at hw
   split at hw
   . rename_i hn; simp at hw; subst hw; simp [yielded, hn]
   . rename_i d hd
     split at hw
     . rename_i ht
       simp at hw; subst hw
       have : a.tmps[d]? = none := by
        have := h.1
        rw [Array.getElem?_eq_none_iff, <- Array.length_toList, <- this]
        exact List.getElem?_eq_none_iff.1 ht
       simp [yielded, hd, this]
     . rename_i b' ht
       simp at hw; subst hw
       obtain ⟨v, hv, hb⟩ := h.getD ht
       cases hb
       have hv' : a.tmps[d]? = some (.bool b') := by simpa using hv
       simp [yielded, hd, hv']
     . rename_i b' ht
       simp at hw; subst hw
       obtain ⟨v, hv, hb⟩ := h.getD ht
       cases hb
       have hv' : a.tmps[d]? = some (.bool b') := by simpa using hv
       simp [yielded, hd, hv']
     . rename_i vs ht
       simp at hw; subst hw
       obtain ⟨v, hv, hb⟩ := h.getD ht
       cases hb
       have hv' : a.tmps[d]? = some (.tuple vs) := by simpa using hv
       simp [yielded, hd, hv']
     . cases hw
theorem step_sim {P : Program} {E : Env} (hE : EnvOk P E) {F : Fr} {ds : List Deferred} {ρ : Ren} {γ : Nat -> Option Bool} {base : Nat} {ops : Array Oper} {i : Nat} {s : St} {e : Eff} {a : Act} {w : World}
 (he : eff P E γ base ops i s.tm s.h = some e) (hc : e.c = true) (hs : Sim F ds ρ s a w) (hid : freeR ρ (base + E.kk * i) E.kk) {K : Act -> World -> Prop} {Q : Exit -> Act -> World -> Prop}
 (hK : ∀ a' w' ρ', ρ.le ρ' -> (∀ j, ¬ inR (base + E.kk * i) E.kk j -> ρ' j = ρ j) -> Sim F ds ρ' (s.put e) a' w' -> K a' w') : wpOp P ops Q i K a w := by
 unfold eff at he
 unfold wpOp
 have hget : ops.toList[i]? = ops[i]? := by simp
 rw [hget] at he
 split at he
 . cases he
 . rename_i o ho
   simp only [ho]
   split at he
   . cases he
   . rename_i hw
     have hw' := wantedA_ok hs.tm hw
     simp at he; subst he
     rw [if_neg (by rw [hw']; simp)]
     exact hK _ _ ρ (Ren.le_refl _) (fun _ _ => rfl) ⟨hs.tm.put (.v _) _, hs.h, by rw [Act.put_defers']; exact hs.ds⟩
   . rename_i hw
     have hw' := wantedA_ok hs.tm hw
     rw [if_pos hw']
     left
     split at he
     . cases he
     split at he
     . cases he
     . rename_i c r ups hop
       have hop := (effT_spec hop).1
       have main : c = true -> ∀ r', (∀ ρ' v, Rv ρ' r v -> Rv ρ' r' v) -> e = ⟨e.c, o.dst, r', ups⟩ -> o.wp P a w K Q := by
        intro hct r' hr' hee
        subst hct
        refine effOp_sim hE hop (look_ok hs.tm) hs.h hid ?_
        intro v w' ρ' hle hne hrv hrw
        refine hK _ _ ρ' hle hne ?_
        rw [hee]
        exact ⟨(hs.tm.mono hle).put (hr' _ _ hrv) _, hrw, by rw [Act.put_defers']; exact hs.ds⟩
       split at he
       . simp at he; subst he
         exact main hc r (fun _ _ h => h) rfl
       . rename_i b _
         split at he
         . rename_i b'
           simp at he; subst he
           simp only [Bool.and_eq_true, beq_iff_eq] at hc
           obtain ⟨h1, h2⟩ := hc
           exact main h1 (.lit b) (fun _ _ h => by rw [<- h2]; exact h) rfl
         . rename_i g
           simp at he; subst he
           simp only [Bool.and_eq_true, beq_iff_eq] at hc
           obtain ⟨h1, h2⟩ := hc
           exact main h1 (.lit b) (fun _ _ h => by cases h; rw [<- h2]; exact .lit _) rfl
         . cases he
structure Eqv (s t : St) : Prop where
 tm : s.tm = t.tm
 h : ∀ id, s.h.get id = t.h.get id
 ok : s.ok = t.ok
theorem Eqv.refl (s : St) : Eqv s s := ⟨rfl, fun _ => rfl, rfl⟩
theorem Eqv.symm {s t : St} (h : Eqv s t) : Eqv t s := ⟨h.tm.symm, fun id => (h.h id).symm, h.ok.symm⟩
theorem Eqv.trans {s t u : St} (h : Eqv s t) (k : Eqv t u) : Eqv s u := ⟨h.tm.trans k.tm, fun id => (h.h id).trans (k.h id), h.ok.trans k.ok⟩
theorem Sim.eqv {F : Fr} {ds : List Deferred} {ρ : Ren} {s t : St} {a : Act} {w : World} (h : Sim F ds ρ s a w) (e : Eqv s t) : Sim F ds ρ t a w :=
 ⟨by rw [<- e.tm]; exact h.tm, h.h.congr fun id => (e.h id).symm, h.ds⟩
theorem AH.get_append (u h : AH) (id : Nat) : AH.get (u ++ h) id = if (∃ p ∈ u, p.1 = id) then AH.get u id else AH.get h id := by
 induction u with
 | nil => simp
 | cons p t ih =>
  obtain ⟨i, b⟩ := p
  rw [List.cons_append, AH.get_cons, AH.get_cons, ih]
  by_cases hi : i = id
  . simp [hi]
  . have e : (∃ p, p ∈ (i, b) :: t /\ p.1 = id) ↔ (∃ p, p ∈ t /\ p.1 = id) := by
     constructor
     . rintro ⟨p, hp, rfl⟩
       rcases List.mem_cons.1 hp with rfl | hp
       . exact absurd rfl hi
       . exact ⟨p, hp, rfl⟩
     . rintro ⟨p, hp, rfl⟩; exact ⟨p, List.mem_cons_of_mem _ hp, rfl⟩
    simp only [hi, if_false, e]
theorem AH.get_append_congr {u h h' : AH} (e : ∀ id, h.get id = h'.get id) (id : Nat) : AH.get (u ++ h) id = AH.get (u ++ h') id := by
 rw [AH.get_append, AH.get_append, e]
def named : AV -> Nat -> Prop
 | .slc i _ _ _, j => i = j
 | .own i _ _ _, j => i = j
 | .mp i, j => i = j
 | _, _ => False
theorem sliceCells_cong {size : Nat} {h h' : AH} {a : AV} {x : Nat × List AV} (hh : ∀ i B, named a i -> h.get i = some B -> h'.get i = some B) (e : sliceCells size h a = some x) : sliceCells size h' a = some x := by
 unfold sliceCells at e ⊢
 split at e
 . split at e
   . cases e
   . rename_i B hB; simp only [getC_mono (hh _ · rfl) hB]; exact e
 . split at e
   . cases e
   . rename_i hes
     split at e
     . cases e
     . rename_i B hB; simp only [getC_mono (hh _ · rfl) hB]; exact e
 . cases e
theorem appendTo_cong {h h' : AH} {id : Nat} {e : TypeId} {size bytes m : Nat} {news : List AV} {a : AV} {x : Bool × AV × AH} (hh : ∀ i B, named a i -> h.get i = some B -> h'.get i = some B)
 (he : appendTo h id e size bytes m news a = some x) : appendTo h' id e size bytes m news a = some x := by
 unfold appendTo at he ⊢
 split at he
 . exact he
 . split at he
   . cases he
   . rename_i B hB
     simp only [getC_mono (hh _ · rfl) hB]; exact he
 . split at he
   . cases he
   . rename_i B hB
     simp only [getC_mono (hh _ · rfl) hB]; exact he
 . cases he
theorem effAppendZ_cong {P : Program} {h h' : AH} {id : Nat} {t t' : TypeId} {a y : AV} {x : Bool × AV × AH} (hh : ∀ i B, named a i -> h.get i = some B -> h'.get i = some B)
 (he : effAppendZ P h id t t' a y = some x) : effAppendZ P h' id t t' a y = some x := by
 unfold effAppendZ at he ⊢
 split at he
 . rename_i hu hk hfx
   try simp only [hu, hk, hfx]
   split at he
   . rename_i ti B hi hB
     have hB' := getC_mono (hh _ · rfl) hB
     simp only [hi, hB']
     exact he
   . cases he
 . cases he
theorem effAppendT_cong {P : Program} {h h' : AH} {id : Nat} {t t' : TypeId} {a y : AV} {x : Bool × AV × AH} (hh : ∀ i B, named a i -> h.get i = some B -> h'.get i = some B)
 (he : effAppendT P h id t t' a y = some x) : effAppendT P h' id t t' a y = some x := by
 unfold effAppendT at he ⊢
 split at he
 case h_2 => cases he
 rename_i e s i es k n hu hk
 try simp only [hu, hk]
 split at he
 case h_2 => cases he
 rename_i ti hi
 try simp only [hi]
 split at he
 case h_2 => cases he
 rename_i z hz
 try simp only [hz]
 cases hb : (Nat.beq z.cells.size ti.size && (Nat.beq ti.size 1 && Nat.beq k 0)) with
 | false => rw [hb] at he; cases he
 | true =>
  rw [hb, cond_true] at he
  rw [cond_true]
  exact appendTo_cong (a := .own i es 0 n) (fun j B hj => hh j B hj) he
theorem effAppendO_cong {P : Program} {h h' : AH} {id : Nat} {t t' : TypeId} {a y : AV} {x : Bool × AV × AH} (hh : ∀ i B, named a i -> h.get i = some B -> h'.get i = some B)
 (he : effAppendO P h id t t' a y = some x) : effAppendO P h' id t t' a y = some x := by
 unfold effAppendO at he ⊢
 split at he
 . exact effAppendT_cong hh he
 . exact effAppendZ_cong hh he
theorem effAppend_cong {P : Program} {ev : Operand -> AV} {h h' : AH} {id : Nat} {c : Call} {x : Bool × AV × AH} (hh : ∀ y i B, named (ev y) i -> h.get i = some B -> h'.get i = some B)
 (he : effAppend P ev h id c = some x) : effAppend P ev h' id c = some x := by
 unfold effAppend at he ⊢
 split at he
 case h_2 => cases he
 rename_i s y t t' ha ht
 try simp only [ha, ht]
 split at he
 . rename_i htt
   try simp only [htt]
   exact effAppendO_cong (hh s) he
 rename_i htt
 try simp only [htt]
 split at he
 case h_2 => cases he
 rename_i e hu
 try simp only [hu]
 split at he
 . cases he
 rename_i i hi
 try simp only [hi]
 split at he
 . cases he
 rename_i z hz
 try simp only [hz]
 split at he
 . cases he
 rename_i m news hn
 simp only [sliceCells_cong (hh y) hn]
 cases hb : (allOne news && (Nat.beq z.cells.size i.size && Nat.blt 0 i.size)) with
 | false => rw [hb] at he; cases he
 | true =>
  rw [hb, cond_true] at he
  rw [cond_true]
  exact appendTo_cong (hh s) he
theorem effCopy_cong {P : Program} {ev : Operand -> AV} {h h' : AH} {c : Call} {x : Bool × AV × AH} (hh : ∀ y i B, named (ev y) i -> h.get i = some B -> h'.get i = some B)
 (he : effCopy P ev h c = some x) : effCopy P ev h' c = some x := by
 unfold effCopy at he ⊢
 split at he
 . rename_i d s t ts ea et
   try simp only [ea, et]
   split at he
   . rename_i e i off dl cap hu hd
     try simp only [hu, hd]
     split at he
     . rename_i n B hn hB
       try simp only [hn]
       have hB' := getC_mono (hh d i · (by rw [hd]; rfl)) hB
       simp only [hB']
       split at he
       . rename_i m cs hm
         simp only [sliceCells_cong (hh s) hm]
         exact he
       . cases he
     . cases he
   . cases he
 . cases he
theorem effMark_cong {P : Program} {id : Nat} {h h' : AH} {s : TypeId} {a : AV} {x : Bool × AV × AH} (hh : ∀ i B, named a i -> h.get i = some B -> h'.get i = some B) (he : effMark P id h s a = some x) : effMark P id h' s a = some x := by
 unfold effMark at he ⊢
 split at he
 case h_2 => cases he
 rename_i e hs
 split at he
 case h_2 => cases he
 rename_i hb
 split at he
 case h_2 => cases he
 rename_i i hi
 split at he
 case h_2 => cases he
 rename_i B hB
 have hn : named a i := by
  unfold slName at hi
  split at hi
  . simp at hi; subst hi; rfl
  . simp at hi; subst hi; rfl
  . cases hi
 simp only [getC_mono (hh i · hn) hB]
 exact he
theorem effStr_cong {P : Program} {h h' : AH} {s d : TypeId} {a r : AV} (hh : ∀ i B, named a i -> h.get i = some B -> h'.get i = some B) (he : effStr P h s d a = some r) : effStr P h' s d a = some r := by
 unfold effStr at he ⊢
 split at he
 . rename_i e hs hd
   split at he
   . rename_i hb
     split at he
     . cases he
     . rename_i m l hl
       simp only [sliceCells_cong hh hl]; exact he
   . cases he
 . cases he
theorem effOp_mono {P : Program} {E : Env} (hE : EnvOk P E) {ev : Operand -> AV} {h h' : AH} {id : Nat} {op : Op} {x : Bool × AV × AH}
 (hh : ∀ id B, h.get id = some B -> h'.get id = some B) (he : effOp P E ev h id op = some x) : effOp P E ev h' id op = some x := by
 cases op with
 | load t a =>
  simp only [effOp] at he ⊢
  split at he
  . rename_i i off hx
    split at he
    . rename_i B hB; simp only [getC_mono (hh _) hB]; exact he
    . cases he
  . exact he
  . cases he
 | store t a y =>
  simp only [effOp] at he ⊢
  split at he
  . rename_i i off hx
    split at he
    . rename_i B hB; simp only [getC_mono (hh _) hB]; exact he
    . cases he
  . cases he
 | lookup t x ix ok =>
  simp only [effOp] at he ⊢
  split at he
  . rename_i r hr
    simp only [lookupA_cong (fun i B _ hB => hh i B hB) hr]; exact he
  . cases he
 | mapUpdate t m k x =>
  simp only [effOp] at he ⊢
  split at he
  . rename_i i B hr
    simp only [updateA_cong (fun i B _ hB => hh i B hB) hr]; exact he
  . cases he
 | call c =>
  simp only [effOp] at he ⊢
  split at he
  . rename_i f hf
    unfold effCall at he ⊢
    split at he
    . rename_i fid as bs hfv
      try simp only [hfv]
      split at he
      . exact he
      . rename_i hg
        split at he
        . rename_i f'
          split at he
          . rename_i g hg'
            split at he
            . exact (hE.heap _ g hg').2.mono _ _ _ _ hh he
            . split at he
              . rename_i c1 r1 h1
                simp only [(hE.heap _ g hg').2.mono _ _ _ _ hh h1]
                exact he
              . cases he
          . split at he
            . exact he
            . split at he
              . rename_i g hg'
                split at he
                . exact (hE.act _ g hg').2.mono _ _ _ _ _ hh he
                . split at he
                  . rename_i c1 r1 u1 h1
                    simp only [(hE.act _ g hg').2.mono _ _ _ _ _ hh h1]
                    exact he
                  . cases he
              . cases he
        . split at he
          . cases he
          . rename_i hd
            split at he
            . rename_i g hga
              exact (hE.act _ g hga).2.mono _ _ _ _ _ hh he
            . cases he
    . cases he
  . exact he
  . exact effAppendF_to (effAppend_cong (fun _ i B _ hB => hh i B hB)) he
  . exact he
  . exact he
  . exact effCopy_cong (fun _ i B _ hB => hh i B hB) he
  . exact he
  . cases he
 | convert s d x =>
  simp only [effOp] at he ⊢
  split at he
  . exact effMark_cong (fun i B _ hB => hh i B hB) he
  split at he
  . split at he
    . rename_i r hr
      simp only [effStr_cong (fun i B _ hB => hh i B hB) hr]; exact he
    . cases he
  . exact he
 | _ => exact he
theorem effOp_congr_h {P : Program} {E : Env} (hE : EnvOk P E) {ev : Operand -> AV} {h h' : AH} {id : Nat} {op : Op}
 (hh : ∀ id, h.get id = h'.get id) : effOp P E ev h id op = effOp P E ev h' id op := by
 cases he : effOp P E ev h id op with
 | some x => exact (effOp_mono hE (fun i B hB => by rw [<- hh]; exact hB) he).symm
 | none =>
  cases he' : effOp P E ev h' id op with
  | none => rfl
  | some x => rw [effOp_mono hE (fun i B hB => by rw [hh]; exact hB) he'] at he; cases he
theorem eff_congr_h {P : Program} {E : Env} (hE : EnvOk P E) {γ : Nat -> Option Bool} {base : Nat} {ops : Array Oper} {i : Nat} {tm : List AV} {h h' : AH}
 (hh : ∀ id, h.get id = h'.get id) : eff P E γ base ops i tm h = eff P E γ base ops i tm h' := by
 unfold eff
 split
 . rfl
 . split
   . rfl
   . rfl
   . rw [effT_of (effOp_congr_h hE hh)]
theorem Eqv.put {s t : St} (h : Eqv s t) (e : Eff) : Eqv (s.put e) (t.put e) :=
 ⟨by simp [St.put, h.tm], fun id => AH.get_append_congr h.h id, by simp [St.put, h.ok]⟩
theorem runL_eqv {P : Program} {E : Env} (hE : EnvOk P E) {γ : Nat -> Option Bool} {base : Nat} {ops : Array Oper} : ∀ {l : List Nat} {s t s' : St}, Eqv s t ->
 runL P E γ base ops l s = some s' -> ∃ t', runL P E γ base ops l t = some t' /\ Eqv s' t'
 | [], s, t, s', h, hr => by simp [runL] at hr; subst hr; exact ⟨t, rfl, h⟩
 | i :: l, s, t, s', h, hr => by
  simp only [runL] at hr ⊢
  rw [<- h.tm, <- eff_congr_h hE h.h]
  split at hr
  . cases hr
  . rename_i e he
    exact runL_eqv hE (h.put e) hr
theorem runL_ok {P : Program} {E : Env} {γ : Nat -> Option Bool} {base : Nat} {ops : Array Oper} : ∀ {l : List Nat} {s s' : St}, runL P E γ base ops l s = some s' -> s'.ok = true -> s.ok = true
 | [], s, s', h, hk => by simp [runL] at h; subst h; exact hk
 | i :: l, s, s', h, hk => by
  simp only [runL] at h
  split at h
  . cases h
  . have := runL_ok h hk
    simp [St.put] at this
    exact this.2
theorem maps_congr {ev ev' : Operand -> AV} : ∀ {l : List Operand}, (∀ x ∈ l, ev x = ev' x) -> maps ev l = maps ev' l
 | [], _ => rfl
 | x :: t, h => by simp only [maps]; rw [h x (by simp), maps_congr fun y hy => h y (by simp [hy])]
theorem evs_congr {ev ev' : Operand -> AV} : ∀ {l : List (Nat × Operand)}, (∀ p ∈ l, ev p.2 = ev' p.2) -> evs ev l = evs ev' l
 | [], _ => rfl
 | p :: t, h => by obtain ⟨i, x⟩ := p; simp only [evs]; rw [h (i, x) (by simp), evs_congr fun y hy => h y (by simp [hy])]
theorem bound_congr {ev ev' : Operand -> AV} : ∀ {o : Option Operand}, (∀ x, o = some x -> ev x = ev' x) -> bound ev o = bound ev' o
 | none, _ => rfl
 | some x, h => by simp only [bound]; rw [h x rfl]
theorem opPure_congr {P : Program} {E : Env} {ev ev' : Operand -> AV} {op : Op} (h : ∀ x ∈ op.operands, ev x = ev' x) : opPure P E ev op = opPure P E ev' op := by
 cases op with
 | slice t x lo hi mx =>
  cases mx with
  | some m =>
   cases hi with
   | none => rfl
   | some hi =>
    have hx : ev x = ev' x := h x (by simp [Op.operands])
    have hlo : bound ev lo = bound ev' lo := bound_congr fun y hy => h y (by subst hy; simp [Op.operands])
    have hh : ev hi = ev' hi := h hi (by simp [Op.operands])
    have hm : ev m = ev' m := h m (by simp [Op.operands])
    simp only [opPure, hx, hlo, hh, hm]
  | none =>
   have hx : ev x = ev' x := h x (by simp [Op.operands])
   have hlo : bound ev lo = bound ev' lo := bound_congr fun y hy => h y (by subst hy; simp [Op.operands])
   have hhi : bound ev hi = bound ev' hi := bound_congr fun y hy => h y (by subst hy; simp [Op.operands])
   simp only [opPure, hx, hlo, hhi]
 | build t parts =>
  have hp : evs ev parts.toList = evs ev' parts.toList := evs_congr fun p hp => h p.2 (by
   simp only [Op.operands, List.mem_toArray, List.mem_map]
   exact ⟨p, hp, rfl⟩)
  simp only [opPure, buildA, hp]
 | makeFunc f as bs =>
  have h1 : maps ev as.toList = maps ev' as.toList := maps_congr fun x hx => h x (by simp [Op.operands]; exact .inl (by simpa using hx))
  have h2 : maps ev bs.toList = maps ev' bs.toList := maps_congr fun x hx => h x (by simp [Op.operands]; exact .inr (by simpa using hx))
  simp only [opPure, h1, h2]
 | pick c a b =>
  have h1 := h c (by simp [Op.operands]); have h2 := h a (by simp [Op.operands]); have h3 := h b (by simp [Op.operands])
  simp only [opPure, h1, h2, h3]
 | binOp op t x y u =>
  have h1 := h x (by simp [Op.operands]); have h2 := h y (by simp [Op.operands])
  simp only [opPure, h1, h2]
 | indexAddr t x y =>
  have h1 := h x (by simp [Op.operands]); have h2 := h y (by simp [Op.operands])
  simp only [opPure, h1, h2]
 | index t x y =>
  have h1 := h x (by simp [Op.operands]); have h2 := h y (by simp [Op.operands])
  simp only [opPure, h1, h2]
 | move x => have h1 := h x (by simp [Op.operands]); simp only [opPure, h1]
 | assign x => have h1 := h x (by simp [Op.operands]); simp only [opPure, h1]
 | nilCheck x => have h1 := h x (by simp [Op.operands]); simp only [opPure, h1]
 | unOp o t x => have h1 := h x (by simp [Op.operands]); simp only [opPure, h1]
 | convert s d x => have h1 := h x (by simp [Op.operands]); simp only [opPure, h1]
 | makeInterface t x => have h1 := h x (by simp [Op.operands]); simp only [opPure, h1]
 | sliceToArrayPointer t x => have h1 := h x (by simp [Op.operands]); simp only [opPure, h1]
 | fieldAddr s x f => have h1 := h x (by simp [Op.operands]); simp only [opPure, h1]
 | field s x f => have h1 := h x (by simp [Op.operands]); simp only [opPure, h1]
 | extract x i => have h1 := h x (by simp [Op.operands]); simp only [opPure, h1]
 | _ => rfl
theorem effOp_congr {P : Program} {E : Env} {ev ev' : Operand -> AV} {hp : AH} {id : Nat} {op : Op} (h : ∀ x ∈ op.operands, ev x = ev' x) : effOp P E ev hp id op = effOp P E ev' hp id op := by
 cases op with
 | alloc t => rfl
 | box t x => have h1 := h x (by simp [Op.operands]); simp only [effOp, h1]
 | load t x => have h1 := h x (by simp [Op.operands]); simp only [effOp, h1]
 | store t x y => have h1 := h x (by simp [Op.operands]); have h2 := h y (by simp [Op.operands]); simp only [effOp, h1, h2]
 | call c =>
  have hargs : ∀ x ∈ c.args.toList, ev x = ev' x := fun x hx => h x (by simp [Op.operands, Call.operands]; exact .inr (by simpa using hx))
  simp only [effOp]
  split
  . rename_i f hf
    have h1 : ev f = ev' f := h f (by simp [Op.operands, Call.operands, hf])
    simp only [effCall, h1, maps_congr hargs]
  . have : effLen P ev c = effLen P ev' c := by
     unfold effLen
     split
     . rename_i x xs t ts e1 e2
       rw [hargs x (by rw [e1]; simp)]
     . rfl
    rw [this]
  . have ho : ownArg ev c = ownArg ev' c := by
     unfold ownArg
     split
     . rename_i s xs e1
       rw [hargs s (by rw [e1]; simp)]
     . rfl
    have : effAppend P ev hp id c = effAppend P ev' hp id c := by
     unfold effAppend
     split
     . rename_i s x t t' e1 e2
       rw [hargs s (by rw [e1]; simp), hargs x (by rw [e1]; simp)]
     . rfl
    have hn : nilSrc P E.dyn ev c = nilSrc P E.dyn ev' c := by
     unfold nilSrc
     split
     . rename_i s x t t' e1 e2
       rw [hargs s (by rw [e1]; simp), hargs x (by rw [e1]; simp)]
     . rfl
    simp only [effAppendF, ho, this, hn]
  . simp only [effMax, maps_congr hargs]
  . simp only [effMin, maps_congr hargs]
  . unfold effCopy
    split
    . rename_i s x t ts e1 e2
      rw [hargs s (by rw [e1]; simp), hargs x (by rw [e1]; simp)]
    . rfl
  . have : effCap P ev c = effCap P ev' c := by
     unfold effCap
     split
     . rename_i x xs t ts e1 e2
       rw [hargs x (by rw [e1]; simp)]
     . rfl
    rw [this]
  . rfl
 | convert s d x =>
  have h1 := h x (by simp [Op.operands])
  have h2 := opPure_congr (P := P) (E := E) h
  simp only [effOp, h1, h2]
 | buildSlice t len parts =>
  have hp : evs ev parts.toList = evs ev' parts.toList := evs_congr fun p hp => h p.2 (by
   simp only [Op.operands, List.mem_toArray, List.mem_map]
   exact ⟨p, hp, rfl⟩)
  simp only [effOp, effBuildSlice, hp]
 | makeSlice t l c =>
  have h1 := h l (by simp [Op.operands]); have h2 := h c (by simp [Op.operands])
  simp only [effOp, effMake, h1, h2]
 | makeMap t q =>
  have hq : hintOk P ev t q = hintOk P ev' t q := by
   cases q with
   | none => rfl
   | some z => simp only [hintOk, h z (by simp [Op.operands])]
  simp only [effOp, hq]
 | lookup t x ix ok =>
  have h1 := h x (by simp [Op.operands]); have h2 := h ix (by simp [Op.operands])
  simp only [effOp, h1, h2]
 | mapUpdate t m k x =>
  have h1 := h m (by simp [Op.operands]); have h2 := h k (by simp [Op.operands]); have h3 := h x (by simp [Op.operands])
  simp only [effOp, h1, h2, h3]
 | _ => simp only [effOp, opPure_congr h]
theorem look_congr {tm tm' : List AV} {x : Operand} (h : ∀ t, x = .tmp t -> tm'[t]? = tm[t]?) : look tm' x = look tm x := by
 cases x with
 | tmp t => simp only [look, List.getD]; rw [h t rfl]
 | _ => rfl
theorem rdArgs_mem {E : Env} {op : Op} {as : List Operand} (h : rdArgs E op = some as) {x : Operand} (hx : x ∈ as) : x ∈ op.operands := by
 unfold rdArgs at h
 split at h
 . rename_i c
   split at h
   . split at h
     . cases h
     . split at h
       . split at h
         . simp only [Option.some.injEq] at h
           subst h
           simp only [Op.operands, Call.operands, Array.mem_append]
           exact .inr (Array.mem_toList_iff.1 hx)
         . cases h
       . cases h
   . cases h
 . cases h
theorem strArg_mem {E : Env} {op : Op} {x : Operand} (h : strArg E op = some x) : x ∈ op.operands := by
 unfold strArg at h
 split at h
 . split at h
   . simp only [Option.some.injEq] at h
     subst h
     simp [Op.operands]
   . cases h
 . cases h
theorem mvArg_mem {E : Env} {op : Op} {x : Operand} (h : mvArg E op = some x) : x ∈ op.operands := by
 unfold mvArg at h
 split at h
 . split at h
   . simp only [Option.some.injEq] at h
     subst h
     simp [Op.operands]
   . cases h
 . cases h
theorem appArg_mem {op : Op} {s : Operand} (h : appArg op = some s) : s ∈ op.operands := by
 unfold appArg at h
 split at h
 . rename_i c
   split at h
   . split at h
     . rename_i x t hx
       simp at h; subst h
       have : x ∈ c.args.toList := by rw [hx]; simp
       simp only [Op.operands, Call.operands, Array.mem_append]
       exact .inr (Array.mem_toList_iff.1 this)
     . cases h
   . cases h
 . cases h
theorem eff_congr {P : Program} {E : Env} {γ : Nat -> Option Bool} {base : Nat} {ops : Array Oper} {i : Nat} {o : Oper} {tm tm' : List AV} {h : AH} (ho : ops[i]? = some o)
 (hl : ∀ t ∈ o.looksAt ops, tm'[t]? = tm[t]?) : eff P E γ base ops i tm' h = eff P E γ base ops i tm h := by
 have hget : ops.toList[i]? = some o := by simpa using ho
 have h1 : wantedA ops tm' o = wantedA ops tm o := by
  unfold wantedA
  split
  . rfl
  . rename_i j want hg
    have hy : (ops.toList[j]?).bind (·.dst) = (ops[j]?).bind (·.dst) := by simp
    rw [hy]
    split
    . rfl
    . rename_i d hd
      rw [hl d (by simp [Oper.looksAt, hg, hd])]
 have h2 : effOp P E (look tm') h (base + E.kk * i) o.op = effOp P E (look tm) h (base + E.kk * i) o.op := effOp_congr fun x hx => look_congr fun t e => by
  subst e
  refine hl t ?_
  simp only [Oper.looksAt, List.mem_append, List.mem_filterMap]
  exact .inl ⟨.tmp t, by simpa using hx, rfl⟩
 have h3 : tauOk E i o.op (look tm') = tauOk E i o.op (look tm) := by
  have lk : ∀ x, x ∈ o.op.operands -> look tm' x = look tm x := fun x hx => look_congr fun t e => by
   subst e
   refine hl t ?_
   simp only [Oper.looksAt, List.mem_append, List.mem_filterMap]
   exact .inl ⟨.tmp t, by simpa using hx, rfl⟩
  unfold tauOk
  split
  . rfl
  . split
    . rename_i hop
      rw [lk _ (by rw [hop]; simp [Op.operands])]
    . rename_i hop
      rw [lk _ (by rw [hop]; simp [Op.operands])]
    . split
      . rename_i s hs
        rw [lk _ (appArg_mem hs)]
      . split
        . rename_i a has
          rw [lk _ (strArg_mem has)]
        . split
          . rename_i as has
            rw [maps_congr fun x hx => lk x (rdArgs_mem has hx)]
          . split
            . rename_i a has
              rw [lk _ (mvArg_mem has)]
            . rfl
 unfold eff
 rw [hget]
 simp only [h1, effT_of h2, h3]
theorem putA_get {tm : List AV} {d : Option Tmp} {r : AV} {t : Nat} (h : ∀ e, d = some e -> e ≠ t) : (putA tm d r)[t]? = tm[t]? := by
 cases d with
 | none => rfl
 | some e => simp only [putA]; rw [List.getElem?_set, if_neg (h e rfl)]
theorem putA_comm {tm : List AV} {d e : Option Tmp} {r q : AV} (h : ∀ x, d = some x -> e ≠ some x) : putA (putA tm d r) e q = putA (putA tm e q) d r := by
 cases d with
 | none => rfl
 | some x =>
  cases e with
  | none => rfl
  | some y => exact List.set_comm _ _ (fun he => h x rfl (by rw [he]))
theorem cond_some {α : Type} {b : Bool} {x : Option α} {y : α} (h : (bif b then x else none) = some y) : b = true /\ x = some y := by
 cases b with
 | true => exact ⟨rfl, h⟩
 | false => cases h
theorem effAppendZ_lays {P : Program} {h : AH} {id : Nat} {t t' : TypeId} {a x : AV} {cc : Bool} {r : AV} {ups : AH} (he : effAppendZ P h id t t' a x = some (cc, r, ups)) : ∃ b, ups = [(id, b)] := by
 unfold effAppendZ at he
 split at he
 . split at he
   . split at he
     . obtain ⟨-, he⟩ := cond_some he
       simp at he
       exact ⟨_, he.2.2.symm⟩
     . cases he
   . cases he
 . cases he
theorem effAppendF_lays {P : Program} {E : Env} {ev : Operand -> AV} {h : AH} {id : Nat} {c : Call} {cc : Bool} {r : AV} {ups : AH} (hf : E.fresh = true) (he : effAppendF P E ev h id c = some (cc, r, ups)) : ups = [] \/ ∃ b, ups = [(id, b)] := by
 unfold effAppendF at he
 split at he
 . cases he
 rename_i ho
 rw [hf, Bool.true_and] at ho
 rw [hf] at he
 simp only at he
 unfold effAppend at he
 split at he
 case h_2 => cases he
 rename_i s x t t' ea et
 split at he
 . unfold effAppendO at he
   split at he
   . obtain ⟨i, es, k, n, h1, -⟩ := effAppendT_own he
     unfold ownArg at ho
     rw [ea] at ho
     simp only [h1] at ho
     cases ho
   . exact .inr (effAppendZ_lays he)
 split at he
 case h_2 => cases he
 split at he
 . cases he
 split at he
 . cases he
 split at he
 . cases he
 obtain ⟨-, he⟩ := cond_some he
 unfold appendTo at he
 split at he
 . obtain ⟨-, he⟩ := cond_some he
   simp at he
   exact .inr ⟨_, he.2.2.symm⟩
 . rename_i hs
   unfold ownArg at ho
   rw [ea] at ho
   simp only [hs] at ho
   cases ho
 . split at he
   . cases he
   split at he
   . cases he
   obtain ⟨-, he⟩ := cond_some he
   simp at he
   exact .inr ⟨_, he.2.2.symm⟩
 . cases he
theorem effOp_lays0 {P : Program} {E : Env} {tm : List AV} {h : AH} {id : Nat} {op : Op} {c : Bool} {r : AV} {ups : AH} (hw : isWr E op = false) (he : effOp P E (look tm) h id op = some (c, r, ups)) :
 (ups = [] \/ ∃ b, ups = [(id, b)]) \/ ∀ p ∈ ups, inR id E.kk p.1 := by
 cases op with
 | alloc t => simp only [effOp] at he; split at he <;> simp at he; exact .inl (.inr ⟨_, he.2.2.symm⟩)
 | box t x => simp only [effOp] at he; split at he <;> simp at he; exact .inl (.inr ⟨_, he.2.2.symm⟩)
 | buildSlice t len parts =>
  simp only [effOp, effBuildSlice] at he
  split at he
  . split at he
    . cases he
    . split at he
      . cases he
      . obtain ⟨-, he⟩ := cond_some he
        split at he <;> simp at he
        exact .inl (.inr ⟨_, he.2.2.symm⟩)
  . cases he
 | load t a =>
  simp only [effOp] at he
  split at he
  . split at he
    . split at he <;> simp at he; exact .inl (.inl he.2.2)
    . cases he
  . split at he
    . split at he <;> simp at he; exact .inl (.inl he.2.2)
    . cases he
  . cases he
 | store t a x => simp [isWr] at hw
 | mapUpdate t m k x => simp [isWr] at hw
 | makeMap t q => simp only [effOp] at he; split at he <;> simp at he; exact .inl (.inr ⟨_, he.2.2.symm⟩)
 | call c' =>
  simp only [effOp] at he
  split at he
  . rename_i f hf
    unfold effCall at he
    split at he
    . rename_i fid as bs hfv
      split at he
      . split at he <;> simp at he; exact .inl (.inl he.2.2)
      . rename_i hg
        split at he
        . rename_i f'
          simp [look] at hfv
          obtain ⟨rfl, -, -⟩ := hfv
          split at he
          . rename_i g hg'
            have hro : memN f' E.ro = true := by simpa [isWr, hf, hg, hg'] using hw
            rw [hro] at he
            simp only at he
            split at he
            . simp at he; exact .inl (.inl he.2.2)
            . cases he
          . rename_i hg'
            split at he
            . split at he <;> simp at he
              exact .inl (.inr ⟨_, he.2.2.symm⟩)
            . rename_i hl
              split at he
              . rename_i g hga
                have hro : memN f' E.ro = true := by simpa [isWr, hf, hg, hg', hl, hga] using hw
                rw [hro] at he
                simp only at he
                split at he
                . rename_i c1 r1 u1 h1
                  split at he
                  . rename_i hal
                    simp at he
                    obtain ⟨-, -, rfl⟩ := he
                    exact .inr (allB_spec hal)
                  . cases he
                . cases he
              . cases he
        . rename_i hnf
          have hd : isWr E (.call c') = E.dyn := by
           simp only [isWr, hf]
           try (split; · rename_i f'' e; exact absurd e (hnf f''); · rfl)
          rw [<- hd, hw] at he
          cases he
    . cases he
  . split at he <;> simp at he; exact .inl (.inl he.2.2)
  . rename_i hb
    have hfr : E.fresh = true := by simpa [isWr, hb] using hw
    exact .inl (effAppendF_lays hfr he)
  . split at he <;> simp at he; exact .inl (.inl he.2.2)
  . split at he <;> simp at he; exact .inl (.inl he.2.2)
  . rename_i hb; simp [isWr, hb] at hw
  . split at he <;> simp at he; exact .inl (.inl he.2.2)
  . cases he
 | makeSlice t l c' =>
  simp only [effOp, effMake] at he
  split at he
  . split at he
    . cases he
    . split at he
      . cases he
      . obtain ⟨-, he⟩ := cond_some he
        simp at he
        exact .inl (.inr ⟨_, he.2.2.symm⟩)
  . cases he
 | convert s d x =>
  have hmk : isMark E s d (look tm x) = false := by
   have hw : (E.dyn && Nat.beq s d) = false := hw
   unfold isMark
   rw [hw, Bool.false_and]
  simp only [effOp, hmk] at he
  split at he
  . split at he <;> simp at he <;> exact .inl (.inl he.2.2)
  . split at he
    . rename_i q hq
      simp only [Option.some.injEq] at he
      subst he
      unfold effBytes at hq
      split at hq
      case h_2 => cases hq
      split at hq
      case h_2 => cases hq
      obtain ⟨-, hq⟩ := cond_some hq
      simp only [Option.some.injEq, Prod.mk.injEq] at hq
      exact .inl (.inr ⟨_, hq.2.2.symm⟩)
    . split at he <;> simp at he <;> exact .inl (.inl he.2.2)
 | _ => simp only [effOp] at he; split at he <;> simp at he; exact .inl (.inl he.2.2)
theorem effOp_lays {P : Program} {E : Env} (hE : EnvOk P E) {tm : List AV} {h : AH} {id : Nat} {op : Op} {c : Bool} {r : AV} {ups : AH} (hw : isWr E op = false) (he : effOp P E (look tm) h id op = some (c, r, ups)) :
 ∀ p ∈ ups, inR id E.kk p.1 := by
 rcases effOp_lays0 hw he with (h | ⟨b, h⟩) | h
 . subst h; simp
 . subst h; intro p hp; simp at hp; subst hp; exact inR_self hE.kk
 . exact h
theorem effAppend_ups {P : Program} {ev : Operand -> AV} {h : AH} {id : Nat} {c : Call} {cc : Bool} {r : AV} {ups : AH} (he : effAppend P ev h id c = some (cc, r, ups)) : ∀ p ∈ ups, p.1 = id \/ ∃ B, h.get p.1 = some B := by
 unfold effAppend at he
 split at he
 case h_2 => cases he
 split at he
 . unfold effAppendO at he
   split at he
   . obtain ⟨i, es, k, n, -, B, b, h2, rfl⟩ := effAppendT_own he
     intro p hp
     simp at hp
     rcases hp with rfl | rfl
     . exact .inl rfl
     . exact .inr ⟨B, h2⟩
   obtain ⟨b, rfl⟩ := effAppendZ_lays he
   intro p hp; simp at hp; subst hp; exact .inl rfl
 split at he
 case h_2 => cases he
 split at he
 . cases he
 split at he
 . cases he
 split at he
 . cases he
 obtain ⟨-, he⟩ := cond_some he
 unfold appendTo at he
 split at he
 . obtain ⟨-, he⟩ := cond_some he
   simp at he
   obtain ⟨-, -, rfl⟩ := he
   intro p hp; simp at hp; subst hp; exact .inl rfl
 . split at he
   . cases he
   rename_i B hB
   split at he
   . cases he
   obtain ⟨-, he⟩ := cond_some he
   simp at he
   obtain ⟨-, -, rfl⟩ := he
   intro p hp; simp at hp
   rcases hp with rfl | rfl
   . exact .inl rfl
   . exact .inr ⟨B, getC_get hB⟩
 . split at he
   . cases he
   rename_i B hB
   split at he
   . cases he
   obtain ⟨-, he⟩ := cond_some he
   simp at he
   obtain ⟨-, -, rfl⟩ := he
   intro p hp; simp at hp; subst hp; exact .inl rfl
 . cases he
theorem effOp_writes {P : Program} {E : Env} (hE : EnvOk P E) {tm : List AV} {h : AH} {id : Nat} {op : Op} {c : Bool} {r : AV} {ups : AH} (hw : isWr E op = true) (he : effOp P E (look tm) h id op = some (c, r, ups)) :
 ∀ p ∈ ups, inR id E.kk p.1 \/ ∃ B, h.get p.1 = some B := by
 cases op with
 | store t a x =>
  simp only [effOp] at he
  split at he
  . rename_i i off _
    split at he
    . rename_i B hB
      split at he
      . split at he <;> simp at he
        obtain ⟨-, -, rfl⟩ := he
        intro p hp; simp at hp; subst hp; exact .inr ⟨B, getC_get hB⟩
      . cases he
    . cases he
  . cases he
 | mapUpdate t m k x =>
  simp only [effOp] at he
  split at he
  . rename_i i B hu
    simp at he
    obtain ⟨-, -, rfl⟩ := he
    obtain ⟨-, ⟨B0, hB0, -⟩, -⟩ := updateA_dom hu
    intro p hp; simp at hp; subst hp; exact .inr ⟨B0, hB0⟩
  . cases he
 | call c' =>
  simp only [effOp] at he
  split at he
  . rename_i f hf
    unfold effCall at he
    split at he
    . rename_i fid as bs hfv
      split at he
      . split at he <;> simp at he
        obtain ⟨-, -, rfl⟩ := he
        simp
      . split at he
        . split at he
          . rename_i g hg
            split at he
            . exact fun p hp => .inr ((hE.heap _ g hg).2.dom _ _ _ _ _ he p hp)
            . split at he
              . simp at he
                obtain ⟨-, -, rfl⟩ := he
                simp
              . cases he
          . split at he
            . split at he <;> simp at he
              obtain ⟨-, -, rfl⟩ := he
              intro p hp; simp at hp; subst hp; exact .inl (inR_self hE.kk)
            . split at he
              . rename_i g hga
                split at he
                . exact (hE.act _ g hga).2.dom _ _ _ _ _ _ he
                . split at he
                  . rename_i c1 r1 u1 h1
                    split at he
                    . simp at he
                      obtain ⟨-, -, rfl⟩ := he
                      exact (hE.act _ g hga).2.dom _ _ _ _ _ _ h1
                    . cases he
                  . cases he
              . cases he
        . split at he
          . cases he
          . split at he
            . rename_i g hga
              exact (hE.act _ g hga).2.dom _ _ _ _ _ _ he
            . cases he
    . cases he
  . rename_i hb; simp [isWr, hb] at hw
  . rcases effAppendF_cases he with he | ⟨r', -, he⟩
    case inr =>
     simp only [Prod.mk.injEq] at he
     obtain ⟨-, -, rfl⟩ := he
     intro p hp; cases hp
    . intro p hp
      rcases effAppend_ups he p hp with hq | hq
      . exact .inl (by rw [hq]; exact inR_self hE.kk)
      . exact .inr hq
  . rename_i hb; simp [isWr, hb] at hw
  . rename_i hb; simp [isWr, hb] at hw
  . unfold effCopy at he
    split at he
    . split at he
      . split at he
        . rename_i n B hn hB
          split at he
          . split at he
            . obtain ⟨-, he⟩ := cond_some he
              simp at he
              obtain ⟨-, -, rfl⟩ := he
              intro p hp; simp at hp; subst hp; exact .inr ⟨B, getC_get hB⟩
            . cases he
          . cases he
        . cases he
      . cases he
    . cases he
  . rename_i hb; simp [isWr, hb] at hw
  . cases he
 | convert s d x =>
  have hw : (E.dyn && Nat.beq s d) = true := hw
  simp only [effOp] at he
  split at he
  . unfold effMark at he
    split at he
    case h_2 => cases he
    split at he
    case h_2 => cases he
    split at he
    case h_2 => cases he
    rename_i i hi
    split at he
    case h_2 => cases he
    rename_i B hB
    split at he
    case h_2 => cases he
    simp only [Option.some.injEq, Prod.mk.injEq] at he
    obtain ⟨-, -, rfl⟩ := he
    intro p hp; simp at hp
    rcases hp with rfl | rfl
    . exact .inl (inR_self hE.kk)
    . exact .inr ⟨B, getC_get hB⟩
  . split at he
    . split at he <;> simp at he
      obtain ⟨-, -, rfl⟩ := he
      simp
    . split at he
      . rename_i q hq
        simp only [Option.some.injEq] at he
        subst he
        unfold effBytes at hq
        split at hq
        . split at hq
          . obtain ⟨-, hq⟩ := cond_some hq
            simp at hq
            obtain ⟨-, -, rfl⟩ := hq
            intro p hp; simp at hp; subst hp; exact .inl (inR_self hE.kk)
          . cases hq
        . cases hq
      . split at he <;> simp at he
        obtain ⟨-, -, rfl⟩ := he
        simp
 | _ => simp [isWr] at hw
theorem effOp_free {P : Program} {E : Env} {tm : List AV} {h h' : AH} {id : Nat} {op : Op} (hw : isWr E op = false) (hr : isRd E op = false) :
 effOp P E (look tm) h id op = effOp P E (look tm) h' id op := by
 cases op with
 | load t a => simp [isRd] at hr
 | store t a x => simp [isWr] at hw
 | lookup t x ix ok => simp [isRd] at hr
 | mapUpdate t m k x => simp [isWr] at hw
 | call c' =>
  simp only [effOp]
  split
  . rename_i f hf
    unfold effCall
    split
    . rename_i fid as bs hfv
      split
      . rfl
      . rename_i hg
        split
        . rename_i f'
          simp [look] at hfv
          obtain ⟨rfl, -, -⟩ := hfv
          split
          . rename_i g hg'
            have h1 : memN f' E.ro = true := by simpa [isWr, hf, hg, hg'] using hw
            have h2 : memN f' E.ro = false := by simpa [isRd, hf, hg, hg'] using hr
            rw [h1] at h2; cases h2
          . rename_i hg'
            split
            . rfl
            . rename_i hl
              split
              . rename_i g hga
                have h1 : memN f' E.ro = true := by simpa [isWr, hf, hg, hg', hl, hga] using hw
                have h2 : memN f' E.ro = false := by simpa [isRd, hf, hg, hg', hl, hga] using hr
                rw [h1] at h2; cases h2
              . rfl
        . rename_i hnf
          have hd : isWr E (.call c') = E.dyn := by
           simp only [isWr, hf]
           try (split; · rename_i f'' e; exact absurd e (hnf f''); · rfl)
          rw [<- hd, hw]
    . rfl
  . rfl
  . rename_i hb
    have h1 : E.fresh = true := by simpa [isWr, hb] using hw
    have h2 : E.fresh = false := by simpa [isRd, hb] using hr
    rw [h1] at h2; cases h2
  . rfl
  . rfl
  . rename_i hb; simp [isWr, hb] at hw
  . rfl
  . rfl
 | convert s d x =>
  have hr : inL d E.strT = false := hr
  have hmk : isMark E s d (look tm x) = false := by
   have hw : (E.dyn && Nat.beq s d) = false := hw
   unfold isMark
   rw [hw, Bool.false_and]
  simp only [effOp, hr, hmk, Bool.false_and]
 | _ => rfl
theorem effOp_weaken {P : Program} {E : Env} (hE : EnvOk P E) {ρ : Ren} {ev : Operand -> AV} {va : Operand -> Value} (hev : EvOk ρ ev va) {F : Fr} {w : World} {h : AH} (hw : RW F ρ h w) {u : AH} (hu : ∀ p ∈ u, ρ p.1 = none) {id : Nat} {op : Op} {x : Bool × AV × AH}
 (he : effOp P E ev (u ++ h) id op = some x) : effOp P E ev h id op = some x := by
 have past : ∀ {i : Nat}, ρ i ≠ none -> AH.get (u ++ h) i = AH.get h i := by
  intro i hi
  rw [AH.get_append, if_neg]
  rintro ⟨p, hp, rfl⟩
  exact hi (hu p hp)
 have key : ∀ {y : Operand} {i off : Nat}, ev y = .ptr i off -> AH.get (u ++ h) i = AH.get h i := by
  intro y i off hy
  have := hev y; rw [hy] at this
  generalize va y = v at this
  cases this with
  | ptr hb => exact past (by rw [hb]; simp)
 have keyN : ∀ (y : Operand) (i : Nat) (B : Blk), named (ev y) i -> AH.get (u ++ h) i = some B -> h.get i = some B := by
  intro y i B hn hB
  have := hev y
  unfold named at hn
  rw [past] at hB
  . exact hB
  . split at hn
    . rename_i hy; rw [hy] at this; subst hn
      generalize va y = v at this
      cases this with | slc hb => rw [hb]; simp
    . rename_i hy; rw [hy] at this; subst hn
      generalize va y = v at this
      cases this with | own hb _ _ _ => rw [hb]; simp | ownE hb _ => rw [hb]; simp
    . rename_i hy; rw [hy] at this; subst hn
      generalize va y = v at this
      cases this with | mp hb => rw [hb]; simp
    . exact hn.elim
 cases op with
 | load t a =>
  simp only [effOp] at he ⊢
  split at he
  . rename_i i off hx
    rw [getC_congr (key hx)] at he
    exact he
  . exact he
  . cases he
 | store t a y =>
  simp only [effOp] at he ⊢
  split at he
  . rename_i i off hx
    rw [getC_congr (key hx)] at he
    exact he
  . cases he
 | lookup t x ix ok =>
  simp only [effOp] at he ⊢
  split at he
  . rename_i r hr
    have := lookupA_cong (h' := h) (fun i B hx hB => keyN x i B (by rw [hx]; rfl) hB) hr
    simp only [this]; exact he
  . cases he
 | mapUpdate t m k x =>
  simp only [effOp] at he ⊢
  split at he
  . rename_i i B hr
    have := updateA_cong (h' := h) (fun i B hx hB => keyN m i B (by rw [hx]; rfl) hB) hr
    simp only [this]; exact he
  . cases he
 | call c =>
  simp only [effOp] at he ⊢
  split at he
  . rename_i f hf
    unfold effCall at he ⊢
    split at he
    . rename_i fid as bs hfv
      try simp only [hfv]
      split at he
      . exact he
      . rename_i hg
        split at he
        . rename_i f'
          split at he
          . rename_i g hg'
            have loc : ∀ (u : AH), (∀ p ∈ u, ρ p.1 = none) -> ∀ y, g (maps ev c.args.toList) (u ++ h) = some y -> g (maps ev c.args.toList) h = some y := by
             intro u
             induction u with
             | nil => intro _ y hy; exact hy
             | cons p t ih =>
              intro hp y hy
              exact ih (fun q hq => hp q (List.mem_cons_of_mem _ hq)) y ((hE.heap _ g hg').2.local_ ρ _ _ p.1 p.2 _ _ (Rvs.maps hev c.args.toList) (hp p (by simp)) hy)
            split at he
            . exact loc u hu _ he
            . split at he
              . rename_i c1 r1 h1
                simp only [loc u hu _ h1]
                exact he
              . cases he
          . split at he
            . exact he
            . split at he
              . rename_i g hga
                split at he
                . exact (hE.act _ g hga).2.local_ F ρ _ _ _ u h w _ (Rvs.maps hev c.args.toList) hw hu he
                . split at he
                  . rename_i c1 r1 u1 h1
                    simp only [(hE.act _ g hga).2.local_ F ρ _ _ _ u h w _ (Rvs.maps hev c.args.toList) hw hu h1]
                    exact he
                  . cases he
              . cases he
        . split at he
          . cases he
          . split at he
            . rename_i g hga
              have h0 := hev f
              rw [hfv] at h0
              obtain ⟨xs, ys, -, hxs, hys⟩ := h0.fn_iff
              exact (hE.act _ g hga).2.local_ F ρ _ _ _ u h w _ (hxs.append ((Rvs.maps hev c.args.toList).append hys)) hw hu he
            . cases he
    . cases he
  . exact he
  . exact effAppendF_to (effAppend_cong keyN) he
  . exact he
  . exact he
  . exact effCopy_cong keyN he
  . exact he
  . cases he
 | convert s d x =>
  simp only [effOp] at he ⊢
  split at he
  . exact effMark_cong (keyN x) he
  split at he
  . split at he
    . rename_i r hr
      have := effStr_cong (h' := h) (keyN x) hr
      simp only [this]; exact he
    . cases he
  . exact he
 | _ => exact he
end Go.Rq
