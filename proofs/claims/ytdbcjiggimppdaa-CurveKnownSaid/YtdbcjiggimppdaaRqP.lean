/- Loops whose rounds are told by data; functions behind a pointer; functions gone through where they are called. -/
import Derived.Test.YtdbcjiggimppdaaRqO
namespace Go.Rq
open Go

instance : Inhabited XS := ⟨⟨⟨[], [], true⟩, 0⟩⟩

def XS.setT (x : XS) (i : Nat) (a : AV) : XS := ⟨⟨x.s.tm.set i a, x.s.h, x.s.ok⟩, x.n⟩

def setH : AH → Nat → List AV → AH
  | [], _, _ => []
  | (i, b) :: t, id, cs => bif Nat.beq i id then (match b with
    | some B => (i, some ⟨B.wr, B.ty, cs⟩) :: t
    | none => (i, b) :: t) else (i, b) :: setH t id cs

def XS.setB (x : XS) (id : Nat) (cs : List AV) : XS := ⟨⟨x.s.tm, setH x.s.h id cs, x.s.ok⟩, x.n⟩

/-- What is kept at a round's head: slots, blocks, the next block's name; and behind a return. -/
structure Keep where
  tm : List Tmp
  ids : List Nat
  n : Nat

def trimK (k : Keep) (e : AExit) (y : XS) : Tree (AExit × XS) :=
  match trim k.tm k.ids k.n y with
  | some z => .need (allBlt k.n k.ids) (.leaf (e, z))
  | none => .fail

/-- One round: what is not kept is forgotten. -/
def roundT (P : Program) (E : Env) (sym : List Tmp) (tab : BTab) (lf : Nat) (k kx kr : Keep) (c : Code) (x : XS) : Tree (AExit × XS) :=
  (exec P E sym tab lf c x).bind fun (e, y) => match e with
    | .normal => trimK k e y
    | .exit _ => trimK kx e y
    | .ret => trimK kr e y

theorem trimK_sim {F : Fr} {ds : List Deferred} {ρ : Ren} {k : Keep} {e : AExit} {x : XS} {a : Act} {w : World} {m : Nat} {K : AExit × XS → Prop} (hs : Sim F ds ρ x.s a w) (hm : m ≤ k.n) (h : (trimK k e x).holds K) :
    ∃ z ρ', K (e, z) ∧ Sim F ds ρ' z.s a w ∧ m ≤ z.n ∧ (∀ id, z.n ≤ id → ρ' id = none) ∧ (∀ id, id < m → ρ' id = ρ id) := by
  unfold trimK at h
  split at h
  · rename_i z hz
    obtain ⟨ρ', h1, h2, h3, h4⟩ := trim_sim (m := m) hs hz (allBlt_spec h.1) hm
    exact ⟨z, ρ', h.2, h1, h2, h3, h4⟩
  · exact h.elim

theorem round_sound {P : Program} {E : Env} (hE : EnvOk P E) (hm : P.follows .mixedOrders = true) {F : Fr} {ds : List Deferred} {m : Nat} {sym : List Tmp} {tab : BTab} {lf : Nat} {k kx kr : Keep} (h1 : m ≤ k.n) (h2 : m ≤ kx.n) (h3 : m ≤ kr.n)
    {c : Code} {x : XS} {K : AExit → XS → Prop} (hok : codeOk E c = true) (htab : TabOk P m tab c) (h : (roundT P E sym tab lf k kx kr c x).holds (fun r => K r.1 r.2)) : Tri P F ds m c x K := by
  intro ρ a w hs hmx hf
  have main := exec_sound hE hm (F := F) (ds := ds) (m := m) c x
    (fun e y => Tree.holds (fun r : AExit × XS => K r.1 r.2) (match e with
      | .normal => trimK k e y
      | .exit _ => trimK kx e y
      | .ret => trimK kr e y)) hok htab (Tree.holds_mono (fun _ q => q) (Tree.holds_bind h)) ρ a w hs hmx hf
  refine wp_mono main ?_
  rintro e a' w' ⟨e', y, ρ', hk, he, hs', hm', hf', hp'⟩
  have fin : ∀ kk : Keep, m ≤ kk.n → (trimK kk e' y).holds (fun r => K r.1 r.2) → ∃ e2 z ρ2, K e2 z ∧ e2.is e ∧ Sim F ds ρ2 z.s a' w' ∧ m ≤ z.n ∧ (∀ id, z.n ≤ id → ρ2 id = none) ∧ (∀ id, id < m → ρ2 id = ρ id) := by
    intro kk hkk hh
    obtain ⟨z, ρ2, g1, g2, g3, g4, g5⟩ := trimK_sim (m := m) hs' hkk hh
    exact ⟨e', z, ρ2, g1, he, g2, g3, g4, fun id hlt => (g5 id hlt).trans (hp' id hlt)⟩
  cases e' with
  | normal => exact fin k h1 hk
  | exit i => exact fin kx h2 hk
  | ret => exact fin kr h3 hk

/-- A loop in a block: what holds ahead of each round is told by data. -/
theorem blockLoop {P : Program} {E : Env} (hE : EnvOk P E) (hm : P.follows .mixedOrders = true) {F : Fr} {ds : List Deferred} {m id : Nat} {sym : List Tmp} {tab : BTab} {lf : Nat} {k kx kr : Keep} (h1 : m ≤ k.n) (h2 : m ≤ kx.n) (h3 : m ≤ kr.n)
    {c : Code} {K : AExit → XS → Prop} (hok : codeOk E c = true) (htab : TabOk P m tab c) {α : Type} (I : α → XS) (R : α → Prop) (μ : α → Nat) (i0 : α) (hR : R i0)
    (h : ∀ i, R i → (roundT P E sym tab lf k kx kr c (I i)).holds (fun r => match r.1 with
      | .normal => ∃ j, R j ∧ μ j < μ i ∧ r.2 = I j
      | .exit q => if q = id then K .normal r.2 else K (.exit q) r.2
      | .ret => K .ret r.2)) : Tri P F ds m (.block id (.loop c)) (I i0) K := by
  refine Tri.block (Tri.loop (F := F) I R μ i0 rfl hR fun i hi => ?_)
  refine (round_sound hE hm h1 h2 h3 hok htab (K := fun e y => match e with
      | .normal => ∃ j, R j ∧ μ j < μ i ∧ y = I j
      | .exit q => if q = id then K .normal y else K (.exit q) y
      | .ret => K .ret y) (h i hi)).mono ?_
  intro e y hy
  cases e <;> exact hy

/-- The state at a block's head. -/
def reach (P : Program) (E : Env) (sym : List Tmp) (tab : BTab) (lf : Nat) (target : Nat) : Code → XS → Tree (Bool × AExit × XS)
  | .seq a b, x => (reach P E sym tab lf target a x).bind fun r => match r with
    | (true, e, y) => .leaf (true, e, y)
    | (false, .normal, y) => reach P E sym tab lf target b y
    | (false, e, y) => .leaf (false, e, y)
  | .cond c a b, x => match boolOf (look x.s.tm c) with
    | some true => reach P E sym tab lf target a x
    | some false => reach P E sym tab lf target b x
    | none => .fail
  | .block id c, x => bif Nat.beq id target then .leaf (true, .normal, x) else match tab id with
    | some b => b.post.bind fun (e, y) => .leaf (false, e, y)
    | none => (reach P E sym tab lf target c x).bind fun r => match r with
      | (false, .exit i, y) => bif Nat.beq i id then .leaf (false, .normal, y) else .leaf (false, .exit i, y)
      | r => .leaf r
  | .loop c, x => reach P E sym tab lf target c x
  | c, x => (exec P E sym tab lf c x).bind fun (e, y) => .leaf (false, e, y)

def firstT : Tree (Bool × AExit × XS) → Option XS
  | .leaf (true, _, x) => some x
  | .leaf (false, _, _) => none
  | .br _ t f => match firstT t with
    | some x => some x
    | none => firstT f
  | .need _ t => firstT t
  | .same _ _ t => firstT t
  | .fail => none

def bodyOf (P : Program) (f : Nat) : Code := match P.funcs.toList[f]? with
  | some fn => match fn.body with
    | some c => c
    | none => .skip
  | none => .skip

def ntmpsOf (P : Program) (f : Nat) : Nat := match P.funcs.toList[f]? with
  | some fn => fn.ntmps
  | none => 0

/-- The state at the head of a block of a function's body, as far as it is kept. -/
def entryOf (P : Program) (E : Env) (sym : List Tmp) (tab : BTab) (lf : Nat) (f : Nat) (args : List AV) (h : AH) (n : Nat) (target : Nat) (k : Keep) : XS :=
  match firstT (reach P E sym tab lf target (bodyOf P f) ⟨⟨args ++ undefs (ntmpsOf P f - args.length), h, true⟩, n⟩) with
  | some x => match trim k.tm k.ids k.n x with
    | some y => y
    | none => default
  | none => default

/-- The piece of code that a block holds. -/
def blockIn (id : Nat) : Code → Option Code
  | .seq a b => match blockIn id a with
    | some c => some c
    | none => blockIn id b
  | .cond _ a b => match blockIn id a with
    | some c => some c
    | none => blockIn id b
  | .block i c => bif Nat.beq i id then some c else blockIn id c
  | .loop c => blockIn id c
  | _ => none

/-- The round of the loop in a block of a function's body. -/
def roundOf (P : Program) (f id : Nat) : Code := match blockIn id (bodyOf P f) with
  | some (.loop c) => c
  | _ => .skip

def tabOf : List (Nat × BEnt) → BTab
  | [], _ => none
  | (i, b) :: t, id => bif Nat.beq i id then some b else tabOf t id

theorem ctx_of {P : Program} {E : Env} {sym : List Tmp} {tab : BTab} {lf f : Nat} (hE : EnvOk P E) (hm : P.follows .mixedOrders = true) {fn : Func} (hf : P.funcs.toList[f]? = some fn) (hb : fn.body = some (bodyOf P f)) (hok : codeOk E (bodyOf P f) = true)
    (htab : TabOk P 0 tab (bodyOf P f)) : Ctx P E sym tab lf f := ⟨hE, hm, fn, _, hf, hb, hok, htab⟩

theorem tabOk_none {P : Program} {m : Nat} : ∀ c : Code, TabOk P m (fun _ => none) c := by
  intro c
  induction c with
  | seq a b ha hb => exact ⟨ha, hb⟩
  | cond c a b ha hb => exact ⟨ha, hb⟩
  | block id c ih => exact ih
  | loop c ih => exact ih
  | _ => trivial

/-! Called functions, gone through where they are called: at exact values. -/

def strip : Tree AV → Option AV
  | .leaf a => some a
  | .need true t => strip t
  | _ => none

def allFlat (as : List AV) : Bool := match flatL as with
  | some _ => true
  | none => false

def isFlat (a : AV) : Bool := match flat a with
  | some _ => true
  | none => false

/-- A function gone through where it is called: it must come to one exact answer. -/
def inlineG (P : Program) (E : Env) (sym : List Tmp) (lf f : Nat) (as : List AV) : Option (Bool × AV) :=
  match allFlat as with
  | true => match strip (afunR P E sym (fun _ => none) lf f as).strict with
    | some r => match isFlat r with
      | true => some (true, r)
      | false => none
    | none => none
  | false => none

theorem strip_holds : ∀ {t : Tree AV} {r : AV}, strip t = some r → t.holds (fun q => q = r)
  | .leaf a, r, h => by simp [strip] at h; exact h
  | .need true t, r, h => by simp only [strip] at h; exact ⟨rfl, strip_holds h⟩
  | .need false t, r, h => by simp [strip] at h
  | .br _ _ _, r, h => by simp [strip] at h
  | .same _ _ _, r, h => by simp [strip] at h
  | .fail, r, h => by simp [strip] at h

theorem inline_ok {P : Program} {E : Env} {sym : List Tmp} {lf f : Nat} (X : Ctx P E sym (fun _ => none) lf f) : PureOk P f (inlineG P E sym lf f) := by
  refine pure_core X fun as r hg => ?_
  unfold inlineG at hg
  split at hg
  · rename_i hfl
    split at hg
    · rename_i q hq
      split at hg
      · rename_i hfr
        simp at hg; subst hg
        unfold allFlat at hfl
        split at hfl
        · rename_i l hl
          unfold isFlat at hfr
          split at hfr
          · rename_i y hy
            exact ⟨as, l, fun ρ xs hx => hx.flatL_eq hl, hl, y, hy, Tree.holds_strict (Tree.holds_mono (fun a h => by rw [h]; exact hy) (strip_holds hq))⟩
          · cases hfr
        · cases hfl
      · cases hg
    · cases hg
  · cases hg

end Go.Rq
