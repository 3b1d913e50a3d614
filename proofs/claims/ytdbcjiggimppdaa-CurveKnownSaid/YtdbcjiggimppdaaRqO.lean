/- Data as abstract values; contracts by them. -/
import Derived.Test.YtdbcjiggimppdaaRqN
namespace Go.Rq
open Go

/-- Cells that tell a datum. -/
structure CC (α : Type) where
  n : Nat
  enc : α → List AV
  dec : List AV → Option α
  val : α → List Value
  len : ∀ x, (enc x).length = n
  h1 : ∀ x, flats (enc x) = some (val x)
  h2 : ∀ (ρ : Ren) (as : List AV) (vs : List Value) (x : α), dec as = some x → Rvs ρ as vs → vs = val x

/-- A value that tells a datum. -/
structure Cod (α : Type) where
  enc : α → AV
  dec : AV → Option α
  val : α → Value
  h1 : ∀ x, flat (enc x) = some (val x)
  h2 : ∀ (ρ : Ren) (a : AV) (v : Value) (x : α), dec a = some x → Rv ρ a v → v = val x

theorem flats_append : ∀ {as bs : List AV} {xs ys : List Value}, flats as = some xs → flats bs = some ys → flats (as ++ bs) = some (xs ++ ys)
  | [], bs, xs, ys, h, k => by simp [flats] at h; subst h; exact k
  | a :: as, bs, xs, ys, h, k => by
    simp only [flats] at h
    split at h
    · cases h
    · rename_i x hx
      split at h
      · rename_i l hl; simp at h; subst h
        simp only [List.cons_append, flats, hx, flats_append hl k]
      · cases h

/-- One after the other. -/
def CC.prod {α β : Type} (A : CC α) (B : CC β) : CC (α × β) where
  n := A.n + B.n
  enc x := A.enc x.1 ++ B.enc x.2
  dec l := match A.dec (l.take A.n), B.dec (l.drop A.n) with
    | some x, some y => some (x, y)
    | _, _ => none
  val x := A.val x.1 ++ B.val x.2
  len x := by simp [A.len, B.len]
  h1 x := flats_append (A.h1 _) (B.h1 _)
  h2 ρ as vs x h r := by
    split at h
    · rename_i p q hp hq
      simp at h; subst h
      rw [← A.h2 ρ _ _ _ hp (r.take A.n), ← B.h2 ρ _ _ _ hq (r.drop A.n), List.take_append_drop]
    · cases h

theorem flats_one {a : AV} {x : Value} (h : scal a = some x) : flats [a] = some [x] := by simp [flats, h]

/-- A cell of a bool. -/
def cBool : CC Bool where
  n := 1
  enc b := [.v (.bool b)]
  dec l := match l with
    | [a] => boolOf a
    | _ => none
  val b := [.bool b]
  len _ := rfl
  h1 _ := rfl
  h2 ρ as vs x h r := by
    split at h
    · obtain ⟨v, ys, rfl, hv, ht⟩ := r.uncons
      rw [ht.unnil, boolOf_ok hv h]
    · cases h

/-- A cell of a word. -/
def cU : CC (BitVec 64) where
  n := 1
  enc b := [.u b]
  dec l := match l with
    | [a] => toU a
    | _ => none
  val b := [uval b]
  len _ := rfl
  h1 _ := rfl
  h2 ρ as vs x h r := by
    split at h
    · obtain ⟨v, ys, rfl, hv, ht⟩ := r.uncons
      rw [ht.unnil, hv.toU h]
    · cases h

def intOf (k : IntKind) : AV → Option Int
  | .v (.int k' n) => match decide (k' = k) with
    | true => some n
    | false => none
  | _ => none

/-- A cell of an integer of a kind. -/
def cInt (k : IntKind) : CC Int where
  n := 1
  enc b := [.v (.int k b)]
  dec l := match l with
    | [a] => intOf k a
    | _ => none
  val b := [.int k b]
  len _ := rfl
  h1 _ := rfl
  h2 ρ as vs x h r := by
    split at h
    · obtain ⟨v, ys, rfl, hv, ht⟩ := r.uncons
      rename_i a
      unfold intOf at h
      split at h
      · split at h
        · rename_i hk
          have hk := of_decide_eq_true hk
          subst hk
          simp at h; subst h
          cases hv
          rw [ht.unnil]
        · cases h
      · cases h
    · cases h

structure W6 where
  w0 : BitVec 64
  w1 : BitVec 64
  w2 : BitVec 64
  w3 : BitVec 64
  w4 : BitVec 64
  w5 : BitVec 64
  deriving DecidableEq

/-- Six cells of words. -/
def c6 : CC W6 where
  n := 6
  enc x := [.u x.w0, .u x.w1, .u x.w2, .u x.w3, .u x.w4, .u x.w5]
  dec l := match l with
    | [a0, a1, a2, a3, a4, a5] => match toU a0, toU a1, toU a2, toU a3, toU a4, toU a5 with
      | some x0, some x1, some x2, some x3, some x4, some x5 => some ⟨x0, x1, x2, x3, x4, x5⟩
      | _, _, _, _, _, _ => none
    | _ => none
  val x := [uval x.w0, uval x.w1, uval x.w2, uval x.w3, uval x.w4, uval x.w5]
  len _ := rfl
  h1 _ := rfl
  h2 ρ as vs x h r := by
    split at h
    · obtain ⟨v0, y0, rfl, h0, r⟩ := r.uncons
      obtain ⟨v1, y1, rfl, h1, r⟩ := r.uncons
      obtain ⟨v2, y2, rfl, h2, r⟩ := r.uncons
      obtain ⟨v3, y3, rfl, h3, r⟩ := r.uncons
      obtain ⟨v4, y4, rfl, h4, r⟩ := r.uncons
      obtain ⟨v5, y5, rfl, h5, r⟩ := r.uncons
      split at h
      · rename_i e0 e1 e2 e3 e4 e5
        simp at h; subst h
        rw [r.unnil, h0.toU e0, h1.toU e1, h2.toU e2, h3.toU e3, h4.toU e4, h5.toU e5]
      · cases h
    · cases h

/-- A struct or an array of such cells. -/
def CC.agg {α : Type} (A : CC α) : Cod α where
  enc x := .agg (A.enc x)
  dec a := match aggOf a with
    | some l => A.dec l
    | none => none
  val x := .agg (A.val x).toArray
  h1 x := by simp only [flat, A.h1]
  h2 ρ a v x h r := by
    split at h
    · rename_i l hl
      obtain ⟨xs, rfl, hx⟩ := r.aggOf hl
      rw [← A.h2 ρ _ _ _ h hx]
    · cases h

def kBool : Cod Bool where
  enc b := .v (.bool b)
  dec a := boolOf a
  val b := .bool b
  h1 _ := rfl
  h2 _ _ _ _ h r := boolOf_ok r h

def kU : Cod (BitVec 64) where
  enc b := .u b
  dec a := toU a
  val b := uval b
  h1 _ := rfl
  h2 _ _ _ _ h r := r.toU h

/-- A word that is 0 or 1. -/
def kBit : Cod Bool where
  enc b := .bit b
  dec a := match a with
    | .bit b => some b
    | _ => none
  val b := uval (bitW b)
  h1 _ := rfl
  h2 ρ a v x h r := by
    split at h
    · simp at h; subst h; cases r; rfl
    · cases h

def kInt (k : IntKind) : Cod Int where
  enc b := .v (.int k b)
  dec a := intOf k a
  val b := .int k b
  h1 _ := rfl
  h2 ρ a v x h r := by
    have := (cInt k).h2 ρ [a] [v] x h (.cons r .nil)
    simpa [cInt] using this

def tupOf : AV → Option (List AV)
  | .tup l => some l
  | _ => none

/-- Several results: as a list of values. -/
structure Res (α : Type) where
  enc : α → List AV
  val : α → List Value
  h1 : ∀ x, flatL (enc x) = some (val x)

def flatR (l : List AV) : Option Value := match flatL l with
  | some [x] => some x
  | some l => some (.tuple l.toArray)
  | none => none

/-! A function's specification, by its arguments' codes. -/

def fn0 {β : Type} (B : Cod β) (F : β) : List AV → Option (Bool × AV)
  | [] => some (true, B.enc F)
  | _ => none

def fn1 {α β : Type} (A : Cod α) (B : Cod β) (F : α → β) : List AV → Option (Bool × AV)
  | [a] => match A.dec a with
    | some x => some (true, B.enc (F x))
    | none => none
  | _ => none

def fn2 {α γ β : Type} (A : Cod α) (C : Cod γ) (B : Cod β) (F : α → γ → β) : List AV → Option (Bool × AV)
  | [a, c] => match A.dec a, C.dec c with
    | some x, some y => some (true, B.enc (F x y))
    | _, _ => none
  | _ => none

def fn3 {α γ δ β : Type} (A : Cod α) (C : Cod γ) (D : Cod δ) (B : Cod β) (F : α → γ → δ → β) : List AV → Option (Bool × AV)
  | [a, c, d] => match A.dec a, C.dec c, D.dec d with
    | some x, some y, some z => some (true, B.enc (F x y z))
    | _, _, _ => none
  | _ => none

/-- The answer alone. -/
def afunR (P : Program) (E : Env) (sym : List Tmp) (tab : BTab) (lf : Nat) (f : FuncId) (args : List AV) : Tree AV :=
  (afun P E sym tab lf f args [] 0).bind fun q => .leaf q.1

/-- What all contracts of one program need. -/
structure Ctx (P : Program) (E : Env) (sym : List Tmp) (tab : BTab) (lf f : Nat) : Prop where
  env : EnvOk P E
  mixed : P.follows .mixedOrders = true
  body : ∃ fn c, P.funcs.toList[f]? = some fn ∧ fn.body = some c ∧ codeOk E c = true ∧ TabOk P 0 tab c

theorem pure_core {P : Program} {E : Env} {sym : List Tmp} {tab : BTab} {lf f : Nat} (X : Ctx P E sym tab lf f) {g : List AV → Option (Bool × AV)}
    (h : ∀ as r, g as = some (true, r) → ∃ as' l, (∀ (ρ : Ren) (xs : List Value), Rvs ρ as xs → xs = l) ∧ flatL as' = some l ∧ ∃ y, flat r = some y ∧ (afunR P E sym tab lf f as').holds (fun q => flat q = some y)) : PureOk P f g := by
  obtain ⟨fn, c, hf, hb, hok, htab⟩ := X.body
  intro ρ as xs r hg hx w
  obtain ⟨as', l, h1, h2, y, h3, h4⟩ := h as r hg
  have hxl := h1 ρ xs hx
  subst hxl
  have := afun_calls X.env X.mixed hf hb hok htab (K := fun q _ => flat q = some y) (Tree.holds_bind h4) (F := frameOf w) (ρ := Ren.empty) (xs := xs) (w := w) (Rvs.of_flatL h2) (RW.init w _) (fun _ _ => rfl)
  refine Calls.mono this ?_
  rintro e w' ⟨v, q, h', ρ', rfl, hk, hrv, hrw, _⟩
  have := hrv.flat_eq hk
  subst this
  exact ⟨v, rfl, .of_flat h3, hrw.to_below⟩

theorem leafOk {α : Type} {t : Tree α} {a : α} {K : α → Prop} (h : t.strict = .leaf a) (hk : K a) : t.holds K := Tree.holds_strict (by rw [h]; exact hk)

/-- The walk comes to one exact answer. (A structure: nothing looks behind it by itself.) -/
structure Gives (t : Tree AV) (v : Value) : Prop where
  out : t.holds (fun q => flat q = some v)

theorem leafVal {β : Type} {B : Cod β} {y : β} {t : Tree AV} (h : t.strict = .leaf (B.enc y)) : Gives t (B.val y) :=
  ⟨Tree.holds_strict (by rw [h]; exact B.h1 y)⟩

theorem brVal {β : Type} {B : Cod β} {y y1 y2 : β} {c : Bool} {t : Tree AV} (h : t.strict = .br c (.leaf (B.enc y1)) (.leaf (B.enc y2))) (h1 : c = true → y = y1) (h2 : c = false → y = y2) : Gives t (B.val y) :=
  ⟨Tree.holds_strict (by rw [h]; exact ⟨fun hc => by rw [h1 hc]; exact B.h1 y1, fun hc => by rw [h2 hc]; exact B.h1 y2⟩)⟩

section
variable {P : Program} {E : Env} {sym : List Tmp} {tab : BTab} {lf f : Nat} {α β γ δ : Type} {A : Cod α} {B : Cod β} {C : Cod γ} {D : Cod δ}

theorem pure0 (X : Ctx P E sym tab lf f) {F : β} (h : Gives (afunR P E sym tab lf f []) (B.val F)) : PureOk P f (fn0 B F) := by
  refine pure_core X fun as r hg => ?_
  unfold fn0 at hg
  split at hg
  · simp at hg; subst hg
    exact ⟨[], [], fun ρ xs hx => hx.unnil, rfl, _, B.h1 _, h.out⟩
  · cases hg

theorem pure1 (X : Ctx P E sym tab lf f) {F : α → β} (h : ∀ x, Gives (afunR P E sym tab lf f [A.enc x]) (B.val (F x))) : PureOk P f (fn1 A B F) := by
  refine pure_core X fun as r hg => ?_
  unfold fn1 at hg
  split at hg
  · rename_i a
    split at hg
    · rename_i x hx
      simp at hg; subst hg
      refine ⟨[A.enc x], [A.val x], fun ρ xs hxs => ?_, by simp [flatL, A.h1], _, B.h1 _, (h x).out⟩
      obtain ⟨v, ys, rfl, h1, h2⟩ := hxs.uncons
      rw [h2.unnil, A.h2 ρ _ _ _ hx h1]
    · cases hg
  · cases hg

theorem pure2 (X : Ctx P E sym tab lf f) {F : α → γ → β} (h : ∀ x y, Gives (afunR P E sym tab lf f [A.enc x, C.enc y]) (B.val (F x y))) : PureOk P f (fn2 A C B F) := by
  refine pure_core X fun as r hg => ?_
  unfold fn2 at hg
  split at hg
  · rename_i a c
    split at hg
    · rename_i x y hx hy
      simp at hg; subst hg
      refine ⟨[A.enc x, C.enc y], [A.val x, C.val y], fun ρ xs hxs => ?_, by simp [flatL, A.h1, C.h1], _, B.h1 _, (h x y).out⟩
      obtain ⟨v, ys, rfl, h1, h2⟩ := hxs.uncons
      obtain ⟨u, zs, rfl, h3, h4⟩ := h2.uncons
      rw [h4.unnil, A.h2 ρ _ _ _ hx h1, C.h2 ρ _ _ _ hy h3]
    · cases hg
  · cases hg

theorem pure3 (X : Ctx P E sym tab lf f) {F : α → γ → δ → β} (h : ∀ x y z, Gives (afunR P E sym tab lf f [A.enc x, C.enc y, D.enc z]) (B.val (F x y z))) : PureOk P f (fn3 A C D B F) := by
  refine pure_core X fun as r hg => ?_
  unfold fn3 at hg
  split at hg
  · rename_i a c d
    split at hg
    · rename_i x y z hx hy hz
      simp at hg; subst hg
      refine ⟨[A.enc x, C.enc y, D.enc z], [A.val x, C.val y, D.val z], fun ρ xs hxs => ?_, by simp [flatL, A.h1, C.h1, D.h1], _, B.h1 _, (h x y z).out⟩
      obtain ⟨v, ys, rfl, h1, h2⟩ := hxs.uncons
      obtain ⟨u, zs, rfl, h3, h4⟩ := h2.uncons
      obtain ⟨t, us, rfl, h5, h6⟩ := h4.uncons
      rw [h6.unnil, A.h2 ρ _ _ _ hx h1, C.h2 ρ _ _ _ hy h3, D.h2 ρ _ _ _ hz h5]
    · cases hg
  · cases hg

end

/-- Two results. -/
def kTup {α β : Type} (A : Cod α) (B : Cod β) (hA : ∀ x, flatA (A.enc x) = some (A.val x)) (hB : ∀ x, flatA (B.enc x) = some (B.val x)) : Cod (α × β) where
  enc x := .tup [A.enc x.1, B.enc x.2]
  dec a := match a with
    | .tup [a, b] => match A.dec a, B.dec b with
      | some x, some y => some (x, y)
      | _, _ => none
    | _ => none
  val x := .tuple #[A.val x.1, B.val x.2]
  h1 x := by simp [flat, flatsA, hA, hB]
  h2 ρ a v x h r := by
    split at h
    · split at h
      · rename_i p q hp hq
        simp at h; subst h
        obtain ⟨xs, rfl, hx⟩ := r.tup_iff
        obtain ⟨v0, y0, e0, h0, r0⟩ := hx.uncons
        obtain ⟨v1, y1, e1, h1, r1⟩ := r0.uncons
        have e2 := r1.unnil
        subst e2; subst e1
        rw [A.h2 ρ _ _ _ hp h0, B.h2 ρ _ _ _ hq h1] at e0
        have : xs = #[A.val p, B.val q] := by apply Array.ext'; simpa using e0
        rw [this]
      · cases h
    · cases h

/-! The library's own. -/

/-- math/bits.Add64: the sum, and what is carried. -/
def add64 (x y : BitVec 64) (c : Bool) : BitVec 64 × Bool :=
  (x + y + bitW c, decide (2 ^ 64 ≤ x.toNat + y.toNat + (bif c then 1 else 0)))

def sub64 (x y : BitVec 64) (c : Bool) : BitVec 64 × Bool :=
  (x - y - bitW c, decide (x.toNat < y.toNat + (bif c then 1 else 0)))

def kUB : Cod (BitVec 64 × Bool) := kTup kU kBit (fun _ => rfl) (fun _ => rfl)

theorem bitW_toNat (c : Bool) : (bitW c).toNat = bif c then 1 else 0 := by cases c <;> rfl

theorem uval_mk (n : Nat) (x : BitVec 64) (h : n = x.toNat) : Value.int .u64 (Int.ofNat n) = uval x := by rw [h]; rfl

theorem three_run {P : Program} (nm : String) (x y : BitVec 64) (z : Bool) (w : World) :
    (Extern.MathBitsCarry.three nm #[uval x, uval y, uval (bitW z)]).run P w = .ok (x.toNat, y.toNat, (bitW z).toNat) w := by
  cases z <;> rfl

theorem add64_pair (x y : BitVec 64) (z : Bool) :
    Extern.MathBitsCarry.pair ((x.toNat + y.toNat + (bitW z).toNat) % Extern.MathBitsCarry.m64) ((x.toNat + y.toNat + (bitW z).toNat) / Extern.MathBitsCarry.m64) = kUB.val (add64 x y z) := by
  have hx64 := x.isLt
  have hy64 := y.isLt
  have hzb : (bitW z).toNat ≤ 1 := by cases z <;> decide
  have e1 : (x.toNat + y.toNat + (bitW z).toNat) % Extern.MathBitsCarry.m64 = (x + y + bitW z).toNat := by
    simp [Extern.MathBitsCarry.m64, BitVec.toNat_add]
  have e2 : (x.toNat + y.toNat + (bitW z).toNat) / Extern.MathBitsCarry.m64 = (bitW (decide (2 ^ 64 ≤ x.toNat + y.toNat + (bif z then 1 else 0)))).toNat := by
    rw [bitW_toNat, bitW_toNat]
    rw [bitW_toNat] at hzb
    simp only [Extern.MathBitsCarry.m64]
    by_cases hh : 2 ^ 64 ≤ x.toNat + y.toNat + (bif z then 1 else 0)
    · simp only [hh, decide_true, cond_true]; omega
    · simp only [hh, decide_false, cond_false]; omega
  rw [e1, e2]
  rfl

theorem sub64_pair (x y : BitVec 64) (z : Bool) :
    Extern.MathBitsCarry.pair ((x.toNat + Extern.MathBitsCarry.m64 - y.toNat - (bitW z).toNat) % Extern.MathBitsCarry.m64) (if x.toNat < y.toNat + (bitW z).toNat then 1 else 0) = kUB.val (sub64 x y z) := by
  have hx64 := x.isLt
  have hy64 := y.isLt
  have hzb : (bitW z).toNat ≤ 1 := by cases z <;> decide
  have e1 : (x.toNat + Extern.MathBitsCarry.m64 - y.toNat - (bitW z).toNat) % Extern.MathBitsCarry.m64 = (x - y - bitW z).toNat := by
    simp only [Extern.MathBitsCarry.m64, BitVec.toNat_sub]; omega
  have e2 : (if x.toNat < y.toNat + (bitW z).toNat then 1 else 0) = (bitW (decide (x.toNat < y.toNat + (bif z then 1 else 0)))).toNat := by
    rw [bitW_toNat, bitW_toNat]
    by_cases hh : x.toNat < y.toNat + (bif z then 1 else 0)
    · simp only [hh, decide_true, cond_true, if_true]
    · simp only [hh, decide_false, cond_false, if_false]
  rw [e1, e2]
  rfl

theorem ext3 {P : Program} {f : FuncId} {fn : Func} (hf : P.funcs.toList[f]? = some fn) (h1 : (fn.name == "runtime.NumGoroutine") = false) (h2 : fn.body.isNone = true) (h3 : (Extern.findNext fn).isNone = true)
    {r : Array Value → Sem Value} (h4 : Extern.find fn = some r) {α β γ δ : Type} {A : Cod α} {B : Cod β} {C : Cod γ} {D : Cod δ} {F : α → γ → δ → β}
    (h : ∀ x y z w, (r #[A.val x, C.val y, D.val z]).run P w = .ok (B.val (F x y z)) w) : ExtOk P f (fn3 A C D B F) := by
  intro ρ as xs q hg hx w
  unfold fn3 at hg
  split at hg
  · rename_i a c d
    split at hg
    · rename_i x y z hx' hy hz
      simp at hg; subst hg
      obtain ⟨v, ys, rfl, h1', h2'⟩ := hx.uncons
      obtain ⟨u, zs, rfl, h3', h4'⟩ := h2'.uncons
      obtain ⟨t, us, rfl, h5', h6'⟩ := h4'.uncons
      rw [h6'.unnil, A.h2 ρ _ _ _ hx' h1', C.h2 ρ _ _ _ hy h3', D.h2 ρ _ _ _ hz h5']
      refine ⟨B.val (F x y z), ?_, .of_flat (B.h1 _)⟩
      have hf' : P.funcs[f]? = some fn := by simpa using hf
      have hnext : Extern.findNext fn = none := by simpa using h3
      have hr := h x y z w
      simp only [callFunc, Sem.run_bind, run_program, Result.andThen_ok, hf', h1, h2, hnext, h4, Sem.run_ite]
      simp only [hr, Bool.false_eq_true, if_false, if_true, run_mark, Result.andThen_ok, Sem.run_pure]
    · cases hg
  · cases hg

def add64Row : Array Value → Sem Value := fun args => do
    let (x, y, c) ← Extern.MathBitsCarry.three "Add64" args
    pure (Extern.MathBitsCarry.pair ((x + y + c) % Extern.MathBitsCarry.m64) ((x + y + c) / Extern.MathBitsCarry.m64))

def sub64Row : Array Value → Sem Value := fun args => do
    let (x, y, b) ← Extern.MathBitsCarry.three "Sub64" args
    pure (Extern.MathBitsCarry.pair ((x + Extern.MathBitsCarry.m64 - y - b) % Extern.MathBitsCarry.m64) (if x < y + b then 1 else 0))

theorem add64_run {P : Program} (x y : BitVec 64) (z : Bool) (w : World) : (add64Row #[kU.val x, kU.val y, kBit.val z]).run P w = .ok (kUB.val (add64 x y z)) w := by
  have := three_run (P := P) "Add64" x y z w
  rw [← add64_pair]
  simp only [add64Row, kU, kBit, Sem.run_bind, this, Result.andThen_ok]
  rfl

theorem sub64_run {P : Program} (x y : BitVec 64) (z : Bool) (w : World) : (sub64Row #[kU.val x, kU.val y, kBit.val z]).run P w = .ok (kUB.val (sub64 x y z)) w := by
  have := three_run (P := P) "Sub64" x y z w
  rw [← sub64_pair]
  simp only [sub64Row, kU, kBit, Sem.run_bind, this, Result.andThen_ok]
  rfl

end Go.Rq
