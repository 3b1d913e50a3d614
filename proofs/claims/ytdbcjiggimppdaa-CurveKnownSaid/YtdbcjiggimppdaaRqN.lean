/- Contracts of functions. -/
import Derived.Test.YtdbcjiggimppdaaRqM
namespace Go.Rq
open Go

def resA (P : Program) (tm : List AV) (h : AH) : ResultVar → Option AV
  | .tmp t => tm[t]?
  | .cell a t => match tm.getD a .any with
    | .ptr id off => match h.get id with
      | some B => loadA P t B.cs off
      | none => none
    | _ => none

def resAll (P : Program) (tm : List AV) (h : AH) : List ResultVar → Option (List AV)
  | [] => some []
  | r :: t => match resA P tm h r with
    | none => none
    | some a => match resAll P tm h t with
      | none => none
      | some l => some (a :: l)

def one1 : List AV → AV
  | [a] => a
  | l => .tup l

def undefs : Nat → List AV
  | 0 => []
  | n + 1 => .v undef :: undefs n

theorem undefs_eq {ρ : Ren} (n : Nat) : Rvs ρ (undefs n) (List.replicate n undef) := by
  induction n with
  | zero => exact .nil
  | succ n ih => rw [List.replicate_succ]; exact .cons (.v _) ih

/-- A function's body, gone through: what it hands back, and the heap behind. -/
def afun (P : Program) (E : Env) (sym : List Tmp) (tab : BTab) (lf : Nat) (f : FuncId) (args : List AV) (h : AH) (n : Nat) : Tree (AV × AH) :=
  match P.funcs.toList[f]? with
  | none => .fail
  | some fn => match fn.body with
    | none => .fail
    | some c => (exec P E sym tab lf c ⟨⟨args ++ undefs (fn.ntmps - args.length), h, true⟩, n⟩).bind fun (e, y) => match e with
      | .exit _ => .fail
      | _ => match resAll P y.s.tm y.s.h fn.results.toList with
        | none => .fail
        | some l => .leaf (one1 l, y.s.h)

theorem resA_run {P : Program} {F : Fr} {ds : List Deferred} {ρ : Ren} {s : St} {a : Act} {w : World} (hs : Sim F ds ρ s a w) {r : ResultVar} {x : AV} (h : resA P s.tm s.h r = some x) :
    ∃ v, (match r with | .tmp t => pure (a.tmps.getD t undef) | .cell c t => do loadVar t (← asAddr (a.tmps.getD c undef)) : Sem Value).run P w = .ok v w ∧ Rv ρ x v := by
  cases r with
  | tmp t =>
    simp only [resA] at h
    obtain ⟨v, hv, hr⟩ := hs.tm.getD h
    have hv' : a.tmps[t]? = some v := by simpa using hv
    exact ⟨v, by simp [hv'], hr⟩
  | cell c t =>
    simp only [resA] at h
    split at h
    · rename_i id off hc
      split at h
      · rename_i B hB
        obtain ⟨b, o, h1, h2, ⟨xs, fr, rfl, h3, h4, h5⟩, h6⟩ := hs.h.blk id B hB
        have := look_ok hs.tm (.tmp c)
        simp only [look, Act.eval] at this
        rw [hc] at this
        generalize hv : a.tmps.getD c undef = v at this
        cases this with
        | ptr hb =>
          rw [h1] at hb; simp at hb; subst hb
          obtain ⟨u, h7, h8⟩ := loadA_run h h2 h4 h5
          refine ⟨u, ?_, h8⟩
          simp only [hv, asAddr, Sem.run_bind, Sem.run_pure, Result.andThen_ok, h7]
      · cases h
    · cases h

theorem results_run {P : Program} {F : Fr} {ds : List Deferred} {ρ : Ren} {s : St} {a : Act} {w : World} (hs : Sim F ds ρ s a w) : ∀ {rs : List ResultVar} {l : List AV}, resAll P s.tm s.h rs = some l →
    ∃ vs : List Value, (rs.mapM (fun (r : ResultVar) => (match r with | .tmp t => pure (a.tmps.getD t undef) | .cell c t => do loadVar t (← asAddr (a.tmps.getD c undef)) : Sem Value))).run P w = .ok vs w ∧ Rvs ρ l vs
  | [], l, h => by simp [resAll] at h; subst h; exact ⟨[], by simp, .nil⟩
  | r :: t, l, h => by
    simp only [resAll] at h
    split at h
    · cases h
    · rename_i x hx
      split at h
      · cases h
      · rename_i m hm
        simp at h; subst h
        obtain ⟨v, h1, h2⟩ := resA_run hs hx
        obtain ⟨vs, h3, h4⟩ := results_run hs hm
        refine ⟨v :: vs, ?_, .cons h2 h4⟩
        rw [List.mapM_cons]
        simp only [Sem.run_bind, h1, h3, Result.andThen_ok, Sem.run_pure]

theorem one1_ok {ρ : Ren} {l : List AV} {vs : List Value} (h : Rvs ρ l vs) : Rv ρ (one1 l) (if h : vs.toArray.size = 1 then vs.toArray[0] else .tuple vs.toArray) := by
  cases l with
  | nil => rw [h.unnil]; exact .tup_mk .nil
  | cons a t =>
    obtain ⟨x, ys, rfl, hx, ht⟩ := h.uncons
    cases t with
    | nil => rw [ht.unnil]; exact hx
    | cons b u =>
      obtain ⟨y, zs, rfl, hy, hu⟩ := ht.uncons
      rw [dif_neg (by simp)]
      exact .tup_mk (.cons hx (.cons hy hu))

/-- What a function comes to, from whatever fits. -/
theorem afun_calls {P : Program} {E : Env} (hE : EnvOk P E) (hm : P.follows .mixedOrders = true) {sym : List Tmp} {tab : BTab} {lf f : Nat} {fn : Func} {c : Code} (hf : P.funcs.toList[f]? = some fn) (hb : fn.body = some c)
    (hok : codeOk E c = true) {args : List AV} {h : AH} {n : Nat} (htab : TabOk P n tab c) {K : AV → AH → Prop} (ht : (afun P E sym tab lf f args h n).holds (fun r => K r.1 r.2))
    {F : Fr} {ρ : Ren} {xs : List Value} {w : World} (hx : Rvs ρ args xs) (hw : RW F ρ h w) (hn : ∀ id, n ≤ id → ρ id = none) :
    Calls P f xs.toArray w (fun e w' => ∃ v r h' ρ', e = .returned v ∧ K r h' ∧ Rv ρ' r v ∧ RW F ρ' h' w' ∧ (∀ id, id < n → ρ' id = ρ id)) := by
  have hf' : P.funcs[f]? = some fn := by simpa using hf
  unfold afun at ht
  rw [hf] at ht
  simp only [hb] at ht
  refine calls_of_wp hf' hb ?_
  have hlen := hx.1
  have hs : Sim F [] ρ ⟨args ++ undefs (fn.ntmps - args.length), h, true⟩ { tmps := xs.toArray ++ Array.replicate (fn.ntmps - xs.toArray.size) undef, defers := [] } w := by
    refine ⟨?_, hw, rfl⟩
    have := hx.append (undefs_eq (ρ := ρ) (fn.ntmps - args.length))
    simpa [hlen] using this
  have main := exec_sound hE hm (F := F) (ds := []) (m := n) c ⟨⟨args ++ undefs (fn.ntmps - args.length), h, true⟩, n⟩
    (fun e y => Tree.holds (fun r : AV × AH => K r.1 r.2) (match e with
        | AExit.exit _ => Tree.fail
        | _ => match resAll P y.s.tm y.s.h fn.results.toList with
          | none => Tree.fail
          | some l => Tree.leaf (one1 l, y.s.h))) hok htab (Tree.holds_mono (fun _ k => k) (Tree.holds_bind ht)) ρ _ w hs (Nat.le_refl _) hn
  refine wp_mono main ?_
  rintro e a' w' ⟨e', y, ρ', hk, he, hs', hmy, hfr', hp⟩
  have fin : e = .normal ∨ e = .ret → Tree.holds (fun r : AV × AH => K r.1 r.2) (match resAll P y.s.tm y.s.h fn.results.toList with
        | none => Tree.fail
        | some l => Tree.leaf (one1 l, y.s.h)) → bodyPost P fn (fun e w' => ∃ v r h' ρ', e = .returned v ∧ K r h' ∧ Rv ρ' r v ∧ RW F ρ' h' w' ∧ (∀ id, id < n → ρ' id = ρ id)) e a' w' := by
    intro hcase hh
    split at hh
    · exact hh.elim
    · rename_i l hl
      obtain ⟨vs, h1, h2⟩ := results_run hs' hl
      have hres : (results fn a'.tmps).run P w' = .ok (if h : vs.toArray.size = 1 then vs.toArray[0] else .tuple vs.toArray) w' := by
        unfold results
        simp only [Sem.run_bind]
        rw [Array.mapM_eq_mapM_toList]
        simp only [Sem.run_map]
        have e1 : (fn.results.toList.mapM (fun (x : ResultVar) => (match x with
            | .tmp t => pure (a'.tmps.getD t undef)
            | .cell a t => do loadVar t (← asAddr (a'.tmps.getD a undef)) : Sem Value))).run P w' = .ok vs w' := h1
        erw [e1]
        simp only [Result.andThen_ok, Sem.run_pure]
      have post : a'.defers = [] ∧ ∃ v, (results fn a'.tmps).run P w' = .ok v w' ∧ (∃ v' r h' ρ', Ending.returned v = .returned v' ∧ K r h' ∧ Rv ρ' r v' ∧ RW F ρ' h' w' ∧ (∀ id, id < n → ρ' id = ρ id)) :=
        ⟨hs'.ds, _, hres, _, _, _, ρ', rfl, hh, one1_ok h2, hs'.h, hp⟩
      rcases hcase with rfl | rfl
      · exact post
      · exact post
  cases e' with
  | normal =>
    cases e <;> simp only [AExit.is] at he
    exact fin (.inl rfl) hk
  | exit i => exact hk.elim
  | ret =>
    cases e <;> simp only [AExit.is] at he
    exact fin (.inr rfl) hk

def flatL : List AV → Option (List Value)
  | [] => some []
  | a :: t => match flat a with
    | none => none
    | some x => match flatL t with
      | none => none
      | some l => some (x :: l)

theorem Rvs.flatL_eq {ρ : Ren} : ∀ {as : List AV} {xs l : List Value}, Rvs ρ as xs → flatL as = some l → xs = l
  | [], xs, l, h, e => by simp [flatL] at e; subst e; exact h.unnil
  | a :: t, xs, l, h, e => by
    obtain ⟨x, ys, rfl, hx, ht⟩ := h.uncons
    simp only [flatL] at e
    split at e
    · cases e
    · rename_i y hy
      split at e
      · cases e
      · rename_i m hm
        simp at e; subst e
        rw [hx.flat_eq hy, Rvs.flatL_eq ht hm]

theorem Rvs.of_flatL {ρ : Ren} : ∀ {as : List AV} {l : List Value}, flatL as = some l → Rvs ρ as l
  | [], l, e => by simp [flatL] at e; subst e; exact .nil
  | a :: t, l, e => by
    simp only [flatL] at e
    split at e
    · cases e
    · rename_i y hy
      split at e
      · cases e
      · rename_i m hm
        simp at e; subst e
        exact .cons (.of_flat hy) (Rvs.of_flatL hm)

def frameOf (w : World) : Fr := ⟨fun b => w.heap[b]?, w.os, w.tape, w.output⟩

theorem RW.init (w : World) (ρ : Ren) : RW (frameOf w) ρ [] w :=
  ⟨fun id B h => by simp [AH.get] at h, fun id id' B B' b h => by simp [AH.get] at h, fun _ _ h => h, rfl, rfl, rfl⟩

theorem RW.to_below {w w' : World} {ρ : Ren} {h : AH} (r : RW (frameOf w) ρ h w') : RowKit.Below w.heap.size w w' := by
  refine ⟨r.os, r.tape, r.out, ?_, fun k hk => ?_⟩
  · cases hs : w.heap.size with
    | zero => omega
    | succ n =>
      have hlt : n < w.heap.size := by omega
      have := r.fr n w.heap[n] (by simp [frameOf, hlt])
      have := (Array.getElem?_eq_some_iff.1 this).1
      omega
  · have hg : w.heap[k]? = some w.heap[k] := Array.getElem?_eq_getElem hk
    rw [hg]
    exact r.fr k w.heap[k] hg

/-- A function of exact values, whose answer is exact: its contract. -/
theorem pure_of_afun {P : Program} {E : Env} (hE : EnvOk P E) (hm : P.follows .mixedOrders = true) {sym : List Tmp} {tab : BTab} {lf f : Nat} {fn : Func} {c : Code} (hf : P.funcs.toList[f]? = some fn) (hb : fn.body = some c)
    (hok : codeOk E c = true) (htab : TabOk P 0 tab c) {g : List AV → Option (Bool × AV)}
    (h : ∀ as r, g as = some (true, r) → (∃ l, flatL as = some l) ∧ (∃ y, flat r = some y ∧ (afun P E sym tab lf f as [] 0).holds (fun q => flat q.1 = some y))) : PureOk P f g := by
  intro ρ as xs r hg hx w
  obtain ⟨⟨l, hl⟩, y, hy, ht⟩ := h as r hg
  have hxl := hx.flatL_eq hl
  subst hxl
  have := afun_calls hE hm hf hb hok htab (K := fun q _ => flat q = some y) (Tree.holds_mono (fun _ k => k) ht) (F := frameOf w) (ρ := Ren.empty) (xs := xs) (w := w) (Rvs.of_flatL hl) (RW.init w _) (fun _ _ => rfl)
  refine Calls.mono this ?_
  rintro e w' ⟨v, q, h', ρ', rfl, hk, hrv, hrw, _⟩
  have := hrv.flat_eq hk
  subst this
  exact ⟨v, rfl, .of_flat hy, hrw.to_below⟩

/-! Tables of functions. -/

abbrev PureTab := List (FuncId × (List AV → Option (Bool × AV)))

def lookP : PureTab → FuncId → Option (List AV → Option (Bool × AV))
  | [], _ => none
  | (f, g) :: t, k => bif Nat.beq f k then some g else lookP t k

def lookE : List (TypeId × List Nat) → TypeId → Option (List Nat)
  | [], _ => none
  | (f, g) :: t, k => bif Nat.beq f k then some g else lookE t k

def envOf (eqs : List (TypeId × List Nat)) (ps : PureTab) : Env := ⟨lookP ps, fun _ => none, lookE eqs, false, false, []⟩

/-- Likewise, where places may be variables. -/
def envW (eqs : List (TypeId × List Nat)) (ps : PureTab) : Env := ⟨lookP ps, fun _ => none, lookE eqs, true, false, []⟩

theorem lookP_mem : ∀ {ps : PureTab} {f : FuncId} {g}, lookP ps f = some g → (f, g) ∈ ps
  | [], f, g, h => by simp [lookP] at h
  | (k, q) :: t, f, g, h => by
    simp only [lookP] at h
    cases hb : Nat.beq k f with
    | true => rw [hb] at h; simp at h; subst h; rw [Nat.eq_of_beq_eq_true hb]; simp
    | false => rw [hb] at h; exact List.mem_cons_of_mem _ (lookP_mem h)

theorem lookE_mem : ∀ {ps : List (TypeId × List Nat)} {f : TypeId} {g}, lookE ps f = some g → (f, g) ∈ ps
  | [], f, g, h => by simp [lookE] at h
  | (k, q) :: t, f, g, h => by
    simp only [lookE] at h
    cases hb : Nat.beq k f with
    | true => rw [hb] at h; simp at h; subst h; rw [Nat.eq_of_beq_eq_true hb]; simp
    | false => rw [hb] at h; exact List.mem_cons_of_mem _ (lookE_mem h)

def EqsOk (P : Program) (eqs : List (TypeId × List Nat)) : Prop := ∀ p ∈ eqs, plan P 100 p.1 = some p.2 ∧ (match P.underlying p.1 with | some u => isRow u | none => false) = true ∧ P.eqGuardType P.depth p.1 = false

def TabPOk (P : Program) (ps : PureTab) : Prop := ∀ p ∈ ps, CallOk P p.1 p.2

theorem TabPOk.nil {P : Program} : TabPOk P [] := fun p h => by simp at h
theorem TabPOk.cons {P : Program} {f : FuncId} {g : List AV → Option (Bool × AV)} {t : PureTab} (h : CallOk P f g) (r : TabPOk P t) : TabPOk P ((f, g) :: t) := by
  intro p hp
  rcases List.mem_cons.1 hp with rfl | hp
  · exact h
  · exact r p hp

theorem envOf_ok {P : Program} {eqs : List (TypeId × List Nat)} {ps : PureTab} (he : EqsOk P eqs) (hp : TabPOk P ps) : EnvOk P (envOf eqs ps) :=
  ⟨fun _ _ h => he _ (lookE_mem h), fun _ _ h => hp _ (lookP_mem h), fun _ _ h => by simp [envOf] at h⟩

theorem envW_ok {P : Program} {eqs : List (TypeId × List Nat)} {ps : PureTab} (he : EqsOk P eqs) (hp : TabPOk P ps) : EnvOk P (envW eqs ps) :=
  ⟨fun _ _ h => he _ (lookE_mem h), fun _ _ h => hp _ (lookP_mem h), fun _ _ h => by simp [envW] at h⟩

theorem EqsOk.nil {P : Program} : EqsOk P [] := fun p h => by simp at h
theorem EqsOk.cons {P : Program} {t : TypeId} {k : List Nat} {l : List (TypeId × List Nat)} (h1 : plan P 100 t = some k) (h2 : (match P.underlying t with | some u => isRow u | none => false) = true) (h3 : P.eqGuardType P.depth t = false)
    (r : EqsOk P l) : EqsOk P ((t, k) :: l) := by
  intro p hp
  rcases List.mem_cons.1 hp with rfl | hp
  · exact ⟨h1, h2, h3⟩
  · exact r p hp

theorem enters_of {P : Program} {f : FuncId} {fn : Func} (h : P.funcs.toList[f]? = some fn) (h2 : (fn.name == "runtime.NumGoroutine") = false) (h3 : fn.body.isNone = false) : Enters P f :=
  ⟨fn, by simpa using h, h2, h3⟩

end Go.Rq
