/- Data as abstract values; contracts by them. -/
import Derived.Test.YtbamkkbefjgeoaaGreatRq08
namespace Go.Rq
open Go

/-- Cells that tell a datum. -/
structure CC (α : Type) where
  n : Nat
  enc : α → List AV
  dec : List AV → Option α
  val : α → List Value
  len : ∀ x, (enc x).length = n
  h1 : ∀ x, flats (enc x) = some (val x)
  h2 : ∀ (ρ : Ren) (as : List AV) (vs : List Value) (x : α), dec as = some x → Rvs ρ as vs → vs = val x

/-- A value that tells a datum. -/
structure Cod (α : Type) where
  enc : α → AV
  dec : AV → Option α
  val : α → Value
  h1 : ∀ x, flat (enc x) = some (val x)
  h2 : ∀ (ρ : Ren) (a : AV) (v : Value) (x : α), dec a = some x → Rv ρ a v → v = val x

theorem flats_append : ∀ {as bs : List AV} {xs ys : List Value}, flats as = some xs → flats bs = some ys → flats (as ++ bs) = some (xs ++ ys)
  | [], bs, xs, ys, h, k => by simp [flats] at h; subst h; exact k
  | a :: as, bs, xs, ys, h, k => by
    simp only [flats] at h
    split at h
    · cases h
    · rename_i x hx
      split at h
      · rename_i l hl; simp at h; subst h
        simp only [List.cons_append, flats, hx, flats_append hl k]
      · cases h

/-- One after the other. -/
def CC.prod {α β : Type} (A : CC α) (B : CC β) : CC (α × β) where
  n := A.n + B.n
  enc x := A.enc x.1 ++ B.enc x.2
  dec l := match A.dec (l.take A.n), B.dec (l.drop A.n) with
    | some x, some y => some (x, y)
    | _, _ => none
  val x := A.val x.1 ++ B.val x.2
  len x := by simp [A.len, B.len]
  h1 x := flats_append (A.h1 _) (B.h1 _)
  h2 ρ as vs x h r := by
    split at h
    · rename_i p q hp hq
      simp at h; subst h
      rw [← A.h2 ρ _ _ _ hp (r.take A.n), ← B.h2 ρ _ _ _ hq (r.drop A.n), List.take_append_drop]
    · cases h

theorem flats_one {a : AV} {x : Value} (h : scal a = some x) : flats [a] = some [x] := by simp [flats, h]

/-- A cell of a bool. -/
def cBool : CC Bool where
  n := 1
  enc b := [.v (.bool b)]
  dec l := match l with
    | [a] => boolOf a
    | _ => none
  val b := [.bool b]
  len _ := rfl
  h1 _ := rfl
  h2 ρ as vs x h r := by
    split at h
    · obtain ⟨v, ys, rfl, hv, ht⟩ := r.uncons
      rw [ht.unnil, boolOf_ok hv h]
    · cases h

/-- A cell of a word. -/
def cU : CC (BitVec 64) where
  n := 1
  enc b := [.u b]
  dec l := match l with
    | [a] => toU a
    | _ => none
  val b := [uval b]
  len _ := rfl
  h1 _ := rfl
  h2 ρ as vs x h r := by
    split at h
    · obtain ⟨v, ys, rfl, hv, ht⟩ := r.uncons
      rw [ht.unnil, hv.toU h]
    · cases h

def intOf (k : IntKind) : AV → Option Int
  | .v (.int k' n) => match decide (k' = k) with
    | true => some n
    | false => none
  | _ => none

/-- A cell of an integer of a kind. -/
def cInt (k : IntKind) : CC Int where
  n := 1
  enc b := [.v (.int k b)]
  dec l := match l with
    | [a] => intOf k a
    | _ => none
  val b := [.int k b]
  len _ := rfl
  h1 _ := rfl
  h2 ρ as vs x h r := by
    split at h
    · obtain ⟨v, ys, rfl, hv, ht⟩ := r.uncons
      rename_i a
      unfold intOf at h
      split at h
      · split at h
        · rename_i hk
          have hk := of_decide_eq_true hk
          subst hk
          simp at h; subst h
          cases hv
          rw [ht.unnil]
        · cases h
      · cases h
    · cases h

structure W6 where
  w0 : BitVec 64
  w1 : BitVec 64
  w2 : BitVec 64
  w3 : BitVec 64
  w4 : BitVec 64
  w5 : BitVec 64
  deriving DecidableEq

/-- Six cells of words. -/
def c6 : CC W6 where
  n := 6
  enc x := [.u x.w0, .u x.w1, .u x.w2, .u x.w3, .u x.w4, .u x.w5]
  dec l := match l with
    | [a0, a1, a2, a3, a4, a5] => match toU a0, toU a1, toU a2, toU a3, toU a4, toU a5 with
      | some x0, some x1, some x2, some x3, some x4, some x5 => some ⟨x0, x1, x2, x3, x4, x5⟩
      | _, _, _, _, _, _ => none
    | _ => none
  val x := [uval x.w0, uval x.w1, uval x.w2, uval x.w3, uval x.w4, uval x.w5]
  len _ := rfl
  h1 _ := rfl
  h2 ρ as vs x h r := by
    split at h
    · obtain ⟨v0, y0, rfl, h0, r⟩ := r.uncons
      obtain ⟨v1, y1, rfl, h1, r⟩ := r.uncons
      obtain ⟨v2, y2, rfl, h2, r⟩ := r.uncons
      obtain ⟨v3, y3, rfl, h3, r⟩ := r.uncons
      obtain ⟨v4, y4, rfl, h4, r⟩ := r.uncons
      obtain ⟨v5, y5, rfl, h5, r⟩ := r.uncons
      split at h
      · rename_i e0 e1 e2 e3 e4 e5
        simp at h; subst h
        rw [r.unnil, h0.toU e0, h1.toU e1, h2.toU e2, h3.toU e3, h4.toU e4, h5.toU e5]
      · cases h
    · cases h

/-- A struct or an array of such cells. -/
def CC.agg {α : Type} (A : CC α) : Cod α where
  enc x := .agg (A.enc x)
  dec a := match aggOf a with
    | some l => A.dec l
    | none => none
  val x := .agg (A.val x).toArray
  h1 x := by simp only [flat, A.h1]
  h2 ρ a v x h r := by
    split at h
    · rename_i l hl
      obtain ⟨xs, rfl, hx⟩ := r.aggOf hl
      rw [← A.h2 ρ _ _ _ h hx]
    · cases h

def kBool : Cod Bool where
  enc b := .v (.bool b)
  dec a := boolOf a
  val b := .bool b
  h1 _ := rfl
  h2 _ _ _ _ h r := boolOf_ok r h

def kU : Cod (BitVec 64) where
  enc b := .u b
  dec a := toU a
  val b := uval b
  h1 _ := rfl
  h2 _ _ _ _ h r := r.toU h

/-- A word that is 0 or 1. -/
def kBit : Cod Bool where
  enc b := .bit b
  dec a := match a with
    | .bit b => some b
    | _ => none
  val b := uval (bitW b)
  h1 _ := rfl
  h2 ρ a v x h r := by
    split at h
    · simp at h; subst h; cases r; rfl
    · cases h

def kInt (k : IntKind) : Cod Int where
  enc b := .v (.int k b)
  dec a := intOf k a
  val b := .int k b
  h1 _ := rfl
  h2 ρ a v x h r := by
    have := (cInt k).h2 ρ [a] [v] x h (.cons r .nil)
    simpa [cInt] using this

def tupOf : AV → Option (List AV)
  | .tup l => some l
  | _ => none

/-- Several results: as a list of values. -/
structure Res (α : Type) where
  enc : α → List AV
  val : α → List Value
  h1 : ∀ x, flatL (enc x) = some (val x)

def flatR (l : List AV) : Option Value := match flatL l with
  | some [x] => some x
  | some l => some (.tuple l.toArray)
  | none => none

/-! A function's specification, by its arguments' codes. -/

def fn0 {β : Type} (B : Cod β) (F : β) : List AV → Option (Bool × AV)
  | [] => some (true, B.enc F)
  | _ => none

def fn1 {α β : Type} (A : Cod α) (B : Cod β) (F : α → β) : List AV → Option (Bool × AV)
  | [a] => match A.dec a with
    | some x => some (true, B.enc (F x))
    | none => none
  | _ => none

def fn2 {α γ β : Type} (A : Cod α) (C : Cod γ) (B : Cod β) (F : α → γ → β) : List AV → Option (Bool × AV)
  | [a, c] => match A.dec a, C.dec c with
    | some x, some y => some (true, B.enc (F x y))
    | _, _ => none
  | _ => none

def fn3 {α γ δ β : Type} (A : Cod α) (C : Cod γ) (D : Cod δ) (B : Cod β) (F : α → γ → δ → β) : List AV → Option (Bool × AV)
  | [a, c, d] => match A.dec a, C.dec c, D.dec d with
    | some x, some y, some z => some (true, B.enc (F x y z))
    | _, _, _ => none
  | _ => none

/-- The answer alone. -/
def afunR (P : Program) (E : Env) (sym : List Tmp) (tab : BTab) (lf : Nat) (f : FuncId) (args : List AV) : Tree AV :=
  (afun P E sym tab lf f args [] 0).bind fun q => .leaf q.1

/-- What all contracts of one program need. -/
structure Ctx (P : Program) (E : Env) (sym : List Tmp) (tab : BTab) (lf f : Nat) : Prop where
  env : EnvOk P E
  mixed : P.follows .mixedOrders = true
  body : ∃ fn c, P.funcs.toList[f]? = some fn ∧ fn.body = some c ∧ codeOk E c = true ∧ TabOk P 0 tab c

theorem pure_core {P : Program} {E : Env} {sym : List Tmp} {tab : BTab} {lf f : Nat} (X : Ctx P E sym tab lf f) {g : List AV → Option (Bool × AV)}
    (h : ∀ as r, g as = some (true, r) → ∃ as' l, (∀ (ρ : Ren) (xs : List Value), Rvs ρ as xs → xs = l) ∧ flatL as' = some l ∧ ∃ y, flat r = some y ∧ (afunR P E sym tab lf f as').holds (fun q => flat q = some y)) : PureOk P f g := by
  obtain ⟨fn, c, hf, hb, hok, htab⟩ := X.body
  intro ρ as xs r hg hx w hgw
  obtain ⟨as', l, h1, h2, y, h3, h4⟩ := h as r hg
  have hxl := h1 ρ xs hx
  subst hxl
  have := afun_calls X.env X.mixed hf hb hok htab (K := fun q _ => flat q = some y) (Tree.holds_bind h4) (F := frameOf w) (ρ := Ren.empty) (xs := xs) (w := w) (Rvs.of_flatL h2) (RW.init w _ hgw) (fun _ _ => rfl)
  refine Calls.mono this ?_
  rintro e w' ⟨v, q, h', ρ', rfl, hk, hrv, hrw, _⟩
  have := hrv.flat_eq hk
  subst this
  exact ⟨v, rfl, .of_flat h3, hrw.to_below⟩

theorem leafOk {α : Type} {t : Tree α} {a : α} {K : α → Prop} (h : t.strict = .leaf a) (hk : K a) : t.holds K := Tree.holds_strict (by rw [h]; exact hk)

/-- The walk comes to one exact answer. (A structure: nothing looks behind it by itself.) -/
structure Gives (t : Tree AV) (v : Value) : Prop where
  out : t.holds (fun q => flat q = some v)

theorem leafVal {β : Type} {B : Cod β} {y : β} {t : Tree AV} (h : t.strict = .leaf (B.enc y)) : Gives t (B.val y) :=
  ⟨Tree.holds_strict (by rw [h]; exact B.h1 y)⟩

theorem brVal {β : Type} {B : Cod β} {y y1 y2 : β} {c : Bool} {t : Tree AV} (h : t.strict = .br c (.leaf (B.enc y1)) (.leaf (B.enc y2))) (h1 : c = true → y = y1) (h2 : c = false → y = y2) : Gives t (B.val y) :=
  ⟨Tree.holds_strict (by rw [h]; exact ⟨fun hc => by rw [h1 hc]; exact B.h1 y1, fun hc => by rw [h2 hc]; exact B.h1 y2⟩)⟩

section
variable {P : Program} {E : Env} {sym : List Tmp} {tab : BTab} {lf f : Nat} {α β γ δ : Type} {A : Cod α} {B : Cod β} {C : Cod γ} {D : Cod δ}

theorem pure0 (X : Ctx P E sym tab lf f) {F : β} (h : Gives (afunR P E sym tab lf f []) (B.val F)) : PureOk P f (fn0 B F) := by
  refine pure_core X fun as r hg => ?_
  unfold fn0 at hg
  split at hg
  · simp at hg; subst hg
    exact ⟨[], [], fun ρ xs hx => hx.unnil, rfl, _, B.h1 _, h.out⟩
  · cases hg

theorem pure1 (X : Ctx P E sym tab lf f) {F : α → β} (h : ∀ x, Gives (afunR P E sym tab lf f [A.enc x]) (B.val (F x))) : PureOk P f (fn1 A B F) := by
  refine pure_core X fun as r hg => ?_
  unfold fn1 at hg
  split at hg
  · rename_i a
    split at hg
    · rename_i x hx
      simp at hg; subst hg
      refine ⟨[A.enc x], [A.val x], fun ρ xs hxs => ?_, by simp [flatL, A.h1], _, B.h1 _, (h x).out⟩
      obtain ⟨v, ys, rfl, h1, h2⟩ := hxs.uncons
      rw [h2.unnil, A.h2 ρ _ _ _ hx h1]
    · cases hg
  · cases hg

theorem pure2 (X : Ctx P E sym tab lf f) {F : α → γ → β} (h : ∀ x y, Gives (afunR P E sym tab lf f [A.enc x, C.enc y]) (B.val (F x y))) : PureOk P f (fn2 A C B F) := by
  refine pure_core X fun as r hg => ?_
  unfold fn2 at hg
  split at hg
  · rename_i a c
    split at hg
    · rename_i x y hx hy
      simp at hg; subst hg
      refine ⟨[A.enc x, C.enc y], [A.val x, C.val y], fun ρ xs hxs => ?_, by simp [flatL, A.h1, C.h1], _, B.h1 _, (h x y).out⟩
      obtain ⟨v, ys, rfl, h1, h2⟩ := hxs.uncons
      obtain ⟨u, zs, rfl, h3, h4⟩ := h2.uncons
      rw [h4.unnil, A.h2 ρ _ _ _ hx h1, C.h2 ρ _ _ _ hy h3]
    · cases hg
  · cases hg

theorem pure3 (X : Ctx P E sym tab lf f) {F : α → γ → δ → β} (h : ∀ x y z, Gives (afunR P E sym tab lf f [A.enc x, C.enc y, D.enc z]) (B.val (F x y z))) : PureOk P f (fn3 A C D B F) := by
  refine pure_core X fun as r hg => ?_
  unfold fn3 at hg
  split at hg
  · rename_i a c d
    split at hg
    · rename_i x y z hx hy hz
      simp at hg; subst hg
      refine ⟨[A.enc x, C.enc y, D.enc z], [A.val x, C.val y, D.val z], fun ρ xs hxs => ?_, by simp [flatL, A.h1, C.h1, D.h1], _, B.h1 _, (h x y z).out⟩
      obtain ⟨v, ys, rfl, h1, h2⟩ := hxs.uncons
      obtain ⟨u, zs, rfl, h3, h4⟩ := h2.uncons
      obtain ⟨t, us, rfl, h5, h6⟩ := h4.uncons
      rw [h6.unnil, A.h2 ρ _ _ _ hx h1, C.h2 ρ _ _ _ hy h3, D.h2 ρ _ _ _ hz h5]
    · cases hg
  · cases hg

end

/-- Two results. -/
def kTup {α β : Type} (A : Cod α) (B : Cod β) (hA : ∀ x, flatA (A.enc x) = some (A.val x)) (hB : ∀ x, flatA (B.enc x) = some (B.val x)) : Cod (α × β) where
  enc x := .tup [A.enc x.1, B.enc x.2]
  dec a := match a with
    | .tup [a, b] => match A.dec a, B.dec b with
      | some x, some y => some (x, y)
      | _, _ => none
    | _ => none
  val x := .tuple #[A.val x.1, B.val x.2]
  h1 x := by simp [flat, flatsA, hA, hB]
  h2 ρ a v x h r := by
    split at h
    · split at h
      · rename_i p q hp hq
        simp at h; subst h
        obtain ⟨xs, rfl, hx⟩ := r.tup_iff
        obtain ⟨v0, y0, e0, h0, r0⟩ := hx.uncons
        obtain ⟨v1, y1, e1, h1, r1⟩ := r0.uncons
        have e2 := r1.unnil
        subst e2; subst e1
        rw [A.h2 ρ _ _ _ hp h0, B.h2 ρ _ _ _ hq h1] at e0
        have : xs = #[A.val p, B.val q] := by apply Array.ext'; simpa using e0
        rw [this]
      · cases h
    · cases h

/-! The library's own. -/

/-- math/bits.Add64: the sum, and what is carried. -/
def add64 (x y : BitVec 64) (c : Bool) : BitVec 64 × Bool :=
  (x + y + bitW c, decide (2 ^ 64 ≤ x.toNat + y.toNat + (bif c then 1 else 0)))

def sub64 (x y : BitVec 64) (c : Bool) : BitVec 64 × Bool :=
  (x - y - bitW c, decide (x.toNat < y.toNat + (bif c then 1 else 0)))

def kUB : Cod (BitVec 64 × Bool) := kTup kU kBit (fun _ => rfl) (fun _ => rfl)

theorem bitW_toNat (c : Bool) : (bitW c).toNat = bif c then 1 else 0 := by cases c <;> rfl

theorem uval_mk (n : Nat) (x : BitVec 64) (h : n = x.toNat) : Value.int .u64 (Int.ofNat n) = uval x := by rw [h]; rfl

theorem three_run {P : Program} (nm : String) (x y : BitVec 64) (z : Bool) (w : World) :
    (Extern.MathBitsCarry.three nm #[uval x, uval y, uval (bitW z)]).run P w = .ok (x.toNat, y.toNat, (bitW z).toNat) w := by
  cases z <;> rfl

theorem add64_pair (x y : BitVec 64) (z : Bool) :
    Extern.MathBitsCarry.pair ((x.toNat + y.toNat + (bitW z).toNat) % Extern.MathBitsCarry.m64) ((x.toNat + y.toNat + (bitW z).toNat) / Extern.MathBitsCarry.m64) = kUB.val (add64 x y z) := by
  have hx64 := x.isLt
  have hy64 := y.isLt
  have hzb : (bitW z).toNat ≤ 1 := by cases z <;> decide
  have e1 : (x.toNat + y.toNat + (bitW z).toNat) % Extern.MathBitsCarry.m64 = (x + y + bitW z).toNat := by
    simp [Extern.MathBitsCarry.m64, BitVec.toNat_add]
  have e2 : (x.toNat + y.toNat + (bitW z).toNat) / Extern.MathBitsCarry.m64 = (bitW (decide (2 ^ 64 ≤ x.toNat + y.toNat + (bif z then 1 else 0)))).toNat := by
    rw [bitW_toNat, bitW_toNat]
    rw [bitW_toNat] at hzb
    simp only [Extern.MathBitsCarry.m64]
    by_cases hh : 2 ^ 64 ≤ x.toNat + y.toNat + (bif z then 1 else 0)
    · simp only [hh, decide_true, cond_true]; omega
    · simp only [hh, decide_false, cond_false]; omega
  rw [e1, e2]
  rfl

theorem sub64_pair (x y : BitVec 64) (z : Bool) :
    Extern.MathBitsCarry.pair ((x.toNat + Extern.MathBitsCarry.m64 - y.toNat - (bitW z).toNat) % Extern.MathBitsCarry.m64) (if x.toNat < y.toNat + (bitW z).toNat then 1 else 0) = kUB.val (sub64 x y z) := by
  have hx64 := x.isLt
  have hy64 := y.isLt
  have hzb : (bitW z).toNat ≤ 1 := by cases z <;> decide
  have e1 : (x.toNat + Extern.MathBitsCarry.m64 - y.toNat - (bitW z).toNat) % Extern.MathBitsCarry.m64 = (x - y - bitW z).toNat := by
    simp only [Extern.MathBitsCarry.m64, BitVec.toNat_sub]; omega
  have e2 : (if x.toNat < y.toNat + (bitW z).toNat then 1 else 0) = (bitW (decide (x.toNat < y.toNat + (bif z then 1 else 0)))).toNat := by
    rw [bitW_toNat, bitW_toNat]
    by_cases hh : x.toNat < y.toNat + (bif z then 1 else 0)
    · simp only [hh, decide_true, cond_true, if_true]
    · simp only [hh, decide_false, cond_false, if_false]
  rw [e1, e2]
  rfl

theorem ext3 {P : Program} {f : FuncId} {fn : Func} (hf : P.funcs.toList[f]? = some fn) (h1 : (fn.name == "runtime.NumGoroutine") = false) (h2 : fn.body.isNone = true) (h3 : (Extern.findNext fn).isNone = true)
    {r : Array Value → Sem Value} (h4 : Extern.find fn = some r) {α β γ δ : Type} {A : Cod α} {B : Cod β} {C : Cod γ} {D : Cod δ} {F : α → γ → δ → β}
    (h : ∀ x y z w, (r #[A.val x, C.val y, D.val z]).run P w = .ok (B.val (F x y z)) w) : ExtOk P f (fn3 A C D B F) := by
  intro ρ as xs q hg hx w
  unfold fn3 at hg
  split at hg
  · rename_i a c d
    split at hg
    · rename_i x y z hx' hy hz
      simp at hg; subst hg
      obtain ⟨v, ys, rfl, h1', h2'⟩ := hx.uncons
      obtain ⟨u, zs, rfl, h3', h4'⟩ := h2'.uncons
      obtain ⟨t, us, rfl, h5', h6'⟩ := h4'.uncons
      rw [h6'.unnil, A.h2 ρ _ _ _ hx' h1', C.h2 ρ _ _ _ hy h3', D.h2 ρ _ _ _ hz h5']
      refine ⟨B.val (F x y z), ?_, .of_flat (B.h1 _)⟩
      have hf' : P.funcs[f]? = some fn := by simpa using hf
      have hnext : Extern.findNext fn = none := by simpa using h3
      have hr := h x y z w
      simp only [callFunc, Sem.run_bind, run_program, Result.andThen_ok, hf', h1, h2, hnext, h4, Sem.run_ite]
      simp only [hr, Bool.false_eq_true, if_false, if_true, run_mark, Result.andThen_ok, Sem.run_pure]
    · cases hg
  · cases hg

def add64Row : Array Value → Sem Value := fun args => do
    let (x, y, c) ← Extern.MathBitsCarry.three "Add64" args
    pure (Extern.MathBitsCarry.pair ((x + y + c) % Extern.MathBitsCarry.m64) ((x + y + c) / Extern.MathBitsCarry.m64))

def sub64Row : Array Value → Sem Value := fun args => do
    let (x, y, b) ← Extern.MathBitsCarry.three "Sub64" args
    pure (Extern.MathBitsCarry.pair ((x + Extern.MathBitsCarry.m64 - y - b) % Extern.MathBitsCarry.m64) (if x < y + b then 1 else 0))

theorem add64_run {P : Program} (x y : BitVec 64) (z : Bool) (w : World) : (add64Row #[kU.val x, kU.val y, kBit.val z]).run P w = .ok (kUB.val (add64 x y z)) w := by
  have := three_run (P := P) "Add64" x y z w
  rw [← add64_pair]
  simp only [add64Row, kU, kBit, Sem.run_bind, this, Result.andThen_ok]
  rfl

theorem sub64_run {P : Program} (x y : BitVec 64) (z : Bool) (w : World) : (sub64Row #[kU.val x, kU.val y, kBit.val z]).run P w = .ok (kUB.val (sub64 x y z)) w := by
  have := three_run (P := P) "Sub64" x y z w
  rw [← sub64_pair]
  simp only [sub64Row, kU, kBit, Sem.run_bind, this, Result.andThen_ok]
  rfl

end Go.Rq

/- What the functions on words reckon, as plain functions. -/
namespace Go.Rq
open Go

def subs (a b : W6) : W6 × Bool :=
  let d0 := sub64 a.w0 b.w0 false
  let d1 := sub64 a.w1 b.w1 d0.2
  let d2 := sub64 a.w2 b.w2 d1.2
  let d3 := sub64 a.w3 b.w3 d2.2
  let d4 := sub64 a.w4 b.w4 d3.2
  let d5 := sub64 a.w5 b.w5 d4.2
  (⟨d0.1, d1.1, d2.1, d3.1, d4.1, d5.1⟩, d5.2)

def adds (a b : W6) : W6 × Bool :=
  let d0 := add64 a.w0 b.w0 false
  let d1 := add64 a.w1 b.w1 d0.2
  let d2 := add64 a.w2 b.w2 d1.2
  let d3 := add64 a.w3 b.w3 d2.2
  let d4 := add64 a.w4 b.w4 d3.2
  let d5 := add64 a.w5 b.w5 d4.2
  (⟨d0.1, d1.1, d2.1, d3.1, d4.1, d5.1⟩, d5.2)

def mul64 (x y : BitVec 64) : BitVec 64 × BitVec 64 := (BitVec.ofNat 64 (x.toNat * y.toNat / 2 ^ 64), x * y)

/-- The product as the library reckons it, by halves. -/
def mulGo (x y : BitVec 64) : BitVec 64 × BitVec 64 :=
  let x0 := x &&& 4294967295#64
  let x1 := x >>> 32
  let y0 := y &&& 4294967295#64
  let y1 := y >>> 32
  let w0 := x0 * y0
  let t := x1 * y0 + w0 >>> 32
  let w1 := (t &&& 4294967295#64) + x0 * y1
  let w2 := t >>> 32
  (x1 * y1 + w2 + w1 >>> 32, x * y)

theorem mask32 (x : BitVec 64) : (x &&& 4294967295#64).toNat = x.toNat % 4294967296 := by
  rw [BitVec.toNat_and]
  exact Nat.and_two_pow_sub_one_eq_mod x.toNat 32

theorem high32 (x : BitVec 64) : (x >>> 32).toNat = x.toNat / 4294967296 := by
  rw [BitVec.toNat_ushiftRight, Nat.shiftRight_eq_div_pow]

theorem halves_hi (x0 x1 y0 y1 : Nat) (hx0 : x0 < 4294967296) (hx1 : x1 < 4294967296) (hy0 : y0 < 4294967296) (hy1 : y1 < 4294967296) :
    (x1 * y1 + (x1 * y0 + x0 * y0 / 4294967296) / 4294967296 + ((x1 * y0 + x0 * y0 / 4294967296) % 4294967296 + x0 * y1) / 4294967296) = (x1 * 4294967296 + x0) * (y1 * 4294967296 + y0) / 18446744073709551616 ∧
    x1 * y0 + x0 * y0 / 4294967296 < 18446744073709551616 ∧ (x1 * y0 + x0 * y0 / 4294967296) % 4294967296 + x0 * y1 < 18446744073709551616 ∧ x0 * y0 < 18446744073709551616 ∧ x1 * y1 < 18446744073709551616 ∧ x1 * y0 < 18446744073709551616 ∧ x0 * y1 < 18446744073709551616 ∧
    (x1 * 4294967296 + x0) * (y1 * 4294967296 + y0) / 18446744073709551616 < 18446744073709551616 := by
  have b : ∀ a b : Nat, a < 4294967296 → b < 4294967296 → a * b ≤ 4294967295 * 4294967295 := fun a b h1 h2 => Nat.mul_le_mul (by omega) (by omega)
  have e : (x1 * 4294967296 + x0) * (y1 * 4294967296 + y0) = (x1 * y1) * 18446744073709551616 + (x1 * y0 + x0 * y1) * 4294967296 + x0 * y0 := by
    simp only [Nat.add_mul, Nat.mul_add]
    rw [show x1 * 4294967296 * (y1 * 4294967296) = x1 * y1 * 18446744073709551616 by
      rw [show (18446744073709551616 : Nat) = 4294967296 * 4294967296 from rfl, Nat.mul_mul_mul_comm]]
    rw [Nat.mul_right_comm x1 4294967296 y0, show x0 * (y1 * 4294967296) = x0 * y1 * 4294967296 from (Nat.mul_assoc _ _ _).symm]
    omega
  rw [e]
  have b00 := b x0 y0 hx0 hy0
  have b10 := b x1 y0 hx1 hy0
  have b01 := b x0 y1 hx0 hy1
  have b11 := b x1 y1 hx1 hy1
  generalize x0 * y0 = p00 at *
  generalize x1 * y0 = p10 at *
  generalize x0 * y1 = p01 at *
  generalize x1 * y1 = p11 at *
  refine ⟨?_, ?_, ?_, ?_, ?_, ?_, ?_, ?_⟩ <;> omega

theorem mulGo_eq (x y : BitVec 64) : mulGo x y = mul64 x y := by
  have hx : x.toNat < 18446744073709551616 := x.isLt
  have hy : y.toNat < 18446744073709551616 := y.isLt
  have m0 : ∀ n : Nat, n % 4294967296 < 4294967296 := fun n => Nat.mod_lt n (Nat.zero_lt_succ _)
  have d0 : ∀ n : Nat, n < 18446744073709551616 → n / 4294967296 < 4294967296 := fun n h => Nat.div_lt_of_lt_mul h
  obtain ⟨h1, h2, h3, h4, h5, h6, h7, h8⟩ := halves_hi (x.toNat % 4294967296) (x.toNat / 4294967296) (y.toNat % 4294967296) (y.toNat / 4294967296) (m0 _) (d0 _ hx) (m0 _) (d0 _ hy)
  have ex : x.toNat / 4294967296 * 4294967296 + x.toNat % 4294967296 = x.toNat := Nat.div_add_mod' _ _
  have ey : y.toNat / 4294967296 * 4294967296 + y.toNat % 4294967296 = y.toNat := Nat.div_add_mod' _ _
  rw [ex, ey] at h1 h8
  unfold mulGo mul64
  refine Prod.ext ?_ rfl
  apply BitVec.eq_of_toNat_eq
  have e64 : (2 : Nat) ^ 64 = 18446744073709551616 := rfl
  simp only [BitVec.toNat_add, BitVec.toNat_mul, mask32, high32, BitVec.toNat_ofNat, e64]
  rw [← h1]
  rw [← h1] at h8
  revert h2 h3 h4 h5 h6 h7 h8
  generalize x.toNat / 4294967296 * (y.toNat / 4294967296) = p11
  generalize x.toNat / 4294967296 * (y.toNat % 4294967296) = p10
  generalize x.toNat % 4294967296 * (y.toNat / 4294967296) = p01
  generalize x.toNat % 4294967296 * (y.toNat % 4294967296) = p00
  intro h2 h3 h4 h5 h6 h7 h8
  rw [Nat.mod_eq_of_lt h5, Nat.mod_eq_of_lt h4, Nat.mod_eq_of_lt h6, Nat.mod_eq_of_lt h7, Nat.mod_eq_of_lt h2, Nat.mod_eq_of_lt h3]
  omega

def primeW : W6 := ⟨0xb9feffffffffaaab#64, 0x1eabfffeb153ffff#64, 0x6730d2a0f6b0f624#64, 0x64774b84f38512bf#64, 0x4b1ba7b6434bacd7#64, 0x1a0111ea397fe69a#64⟩
def oneW : W6 := ⟨0x760900000002fffd#64, 0xebf4000bc40c0002#64, 0x5f48985753c758ba#64, 0x77ce585370525745#64, 0x5c071a97a256ec6d#64, 0x15f65ec3fa80e493#64⟩
def wideW : W6 := ⟨0xf4df1f341c341746#64, 0x0a76e6a609d104f1#64, 0x8de5476c4c95b6d5#64, 0x67eb88a9939d83c0#64, 0x9a793e85b519952d#64, 0x11988fe592cae3aa#64⟩
def orderW : W6 := ⟨0xffffffff00000001#64, 0x53bda402fffe5bfe#64, 0x3339d80809a1d805#64, 0x73eda753299d7d48#64, 0#64, 0#64⟩
def zeroW : W6 := ⟨0#64, 0#64, 0#64, 0#64, 0#64, 0#64⟩

/-- p taken away, if it goes. -/
def lessW (a : W6) : W6 := bif (subs a primeW).2 then a else (subs a primeW).1

def mac (x a t c : BitVec 64) : BitVec 64 × BitVec 64 :=
  let p := mul64 x a
  let s := add64 p.2 t false
  let h := p.1 + bitW s.2
  let r := add64 s.1 c false
  (r.1, h + bitW r.2)

structure W7 where
  l : W6
  w6 : BitVec 64

def mulRound (a : W6) (x : BitVec 64) (t : W7) : W7 :=
  let r0 := mac x a.w0 t.l.w0 (bitW false)
  let r1 := mac x a.w1 t.l.w1 r0.2
  let r2 := mac x a.w2 t.l.w2 r1.2
  let r3 := mac x a.w3 t.l.w3 r2.2
  let r4 := mac x a.w4 t.l.w4 r3.2
  let r5 := mac x a.w5 t.l.w5 r4.2
  let t6 := t.w6 + r5.2
  let q := r0.1 * 9940570264628428797#64
  let m := mul64 q primeW.w0
  let s0 := add64 m.2 r0.1 false
  let c := m.1 + bitW s0.2
  let s1 := mac q primeW.w1 r1.1 c
  let s2 := mac q primeW.w2 r2.1 s1.2
  let s3 := mac q primeW.w3 r3.1 s2.2
  let s4 := mac q primeW.w4 r4.1 s3.2
  let s5 := mac q primeW.w5 r5.1 s4.2
  let s6 := add64 t6 s5.2 false
  ⟨⟨s1.1, s2.1, s3.1, s4.1, s5.1, s6.1⟩, bitW s6.2⟩

def zero7 : W7 := ⟨⟨0, 0, 0, 0, 0, 0⟩, 0⟩

def mulRaw (a b : W6) : W7 := mulRound a b.w5 (mulRound a b.w4 (mulRound a b.w3 (mulRound a b.w2 (mulRound a b.w1 (mulRound a b.w0 zero7)))))

def mulW (a b : W6) : W6 := lessW (mulRaw a b).l
def addW (a b : W6) : W6 := lessW (adds a b).1
def subW (a b : W6) : W6 := bif (subs a b).2 then (adds (subs a b).1 primeW).1 else (subs a b).1
def negW (a : W6) : W6 := subW zeroW a
def toW (a : W6) : W6 := mulW wideW a
def fromW (a : W6) : W6 := mulW a ⟨1#64, 0#64, 0#64, 0#64, 0#64, 0#64⟩

/-- One word of six, by its place. -/
def W6.get (x : W6) (i : Nat) : BitVec 64 := [x.w0, x.w1, x.w2, x.w3, x.w4, x.w5].getD i 0#64

def W6.bit (x : W6) (i : Nat) : Bool := ((x.get (i / 64) >>> (i % 64)) &&& 1#64) == 1#64

/-- A power, from bit k - 1 down. -/
def powG (M : W6 → W6 → W6) (a e : W6) : Nat → W6 → W6
  | 0, out => out
  | k + 1, out => powG M a e k (bif e.bit k then M (M out out) a else M out out)

def pow384 (a e : W6) : W6 := powG mulW a e 384 oneW
def expInv : W6 := ⟨0xb9feffffffffaaa9#64, 0x1eabfffeb153ffff#64, 0x6730d2a0f6b0f624#64, 0x64774b84f38512bf#64, 0x4b1ba7b6434bacd7#64, 0x1a0111ea397fe69a#64⟩
def invW (a : W6) : W6 := pow384 a expInv

structure D6 where
  a : W6
  b : W6
  deriving DecidableEq

/-- Twelve cells: two elements. -/
def c12 : CC D6 where
  n := 12
  enc x := c6.enc x.a ++ c6.enc x.b
  dec l := match c6.dec (l.take 6), c6.dec (l.drop 6) with
    | some x, some y => some ⟨x, y⟩
    | _, _ => none
  val x := c6.val x.a ++ c6.val x.b
  len _ := rfl
  h1 x := (CC.prod c6 c6).h1 (x.a, x.b)
  h2 ρ as vs x h r := by
    refine (CC.prod c6 c6).h2 ρ as vs (x.a, x.b) ?_ r
    simp only [CC.prod]
    split at h
    · rename_i p q hp hq
      simp at h; subst h
      rw [show c6.n = 6 from rfl, hp, hq]
    · cases h

/-- What a field's operations come to, left open. -/
structure FO (K : Type) where
  add : K → K → K
  sub : K → K → K
  mul : K → K → K
  neg : K → K
  inv : K → K
  to : K → K
  back : K → K
  one : K
  zero : K

def fW : FO W6 := ⟨addW, subW, mulW, negW, invW, toW, fromW, oneW, zeroW⟩

section
variable (o : FO W6)
def add2 (x y : D6) : D6 := ⟨o.add x.a y.a, o.add x.b y.b⟩
def sub2 (x y : D6) : D6 := ⟨o.sub x.a y.a, o.sub x.b y.b⟩
def neg2 (x : D6) : D6 := ⟨o.neg x.a, o.neg x.b⟩
def conj2 (x : D6) : D6 := ⟨x.a, o.neg x.b⟩
def mul2 (a b : D6) : D6 :=
  let x := o.mul a.a b.a
  let y := o.mul a.b b.b
  let both := o.mul (o.add a.a a.b) (o.add b.a b.b)
  ⟨o.sub x y, o.sub (o.sub both x) y⟩
def scale2 (a : D6) (n : W6) : D6 := ⟨o.mul a.a n, o.mul a.b n⟩
def norm2 (a : D6) : W6 := o.add (o.mul a.a a.a) (o.mul a.b a.b)
def to2 (a : D6) : D6 := ⟨o.to a.a, o.to a.b⟩
def back2 (a : D6) : D6 := ⟨o.back a.a, o.back a.b⟩
end

def one2 : D6 := ⟨oneW, zeroW⟩
def zero2 : D6 := ⟨zeroW, zeroW⟩
def inv2 (o : FO W6) (a : D6) : D6 := scale2 o (conj2 o a) (o.inv (norm2 o a))
def fD : FO D6 := ⟨add2 fW, sub2 fW, mul2 fW, neg2 fW, inv2 fW, to2 fW, back2 fW, one2, zero2⟩

end Go.Rq

/- Loops whose rounds are told by data; functions behind a pointer; functions gone through where they are called. -/
namespace Go.Rq
open Go

instance : Inhabited XS := ⟨⟨⟨[], [], true⟩, 0⟩⟩

def XS.setT (x : XS) (i : Nat) (a : AV) : XS := ⟨⟨x.s.tm.set i a, x.s.h, x.s.ok⟩, x.n⟩

def setH : AH → Nat → List AV → AH
  | [], _, _ => []
  | (i, b) :: t, id, cs => bif Nat.beq i id then (match b with
    | some B => (i, some ⟨B.wr, B.ty, cs⟩) :: t
    | none => (i, b) :: t) else (i, b) :: setH t id cs

def XS.setB (x : XS) (id : Nat) (cs : List AV) : XS := ⟨⟨x.s.tm, setH x.s.h id cs, x.s.ok⟩, x.n⟩

/-- What is kept at a round's head: slots, blocks, the next block's name; and behind a return. -/
structure Keep where
  tm : List Tmp
  ids : List Nat
  n : Nat

def trimK (k : Keep) (e : AExit) (y : XS) : Tree (AExit × XS) :=
  match trim k.tm k.ids k.n y with
  | some z => .need (allBlt k.n k.ids) (.leaf (e, z))
  | none => .fail

/-- One round: what is not kept is forgotten. -/
def roundT (P : Program) (E : Env) (sym : List Tmp) (tab : BTab) (lf : Nat) (k kx kr : Keep) (c : Code) (x : XS) : Tree (AExit × XS) :=
  (exec P E sym tab lf c x).bind fun (e, y) => match e with
    | .normal => trimK k e y
    | .exit _ => trimK kx e y
    | .ret => trimK kr e y

theorem trimK_sim {F : Fr} {ds : List Deferred} {ρ : Ren} {k : Keep} {e : AExit} {x : XS} {a : Act} {w : World} {m : Nat} {K : AExit × XS → Prop} (hs : Sim F ds ρ x.s a w) (hm : m ≤ k.n) (h : (trimK k e x).holds K) :
    ∃ z ρ', K (e, z) ∧ Sim F ds ρ' z.s a w ∧ m ≤ z.n ∧ (∀ id, z.n ≤ id → ρ' id = none) ∧ (∀ id, id < m → Ren.eqAt ρ' ρ id) := by
  unfold trimK at h
  split at h
  · rename_i z hz
    obtain ⟨ρ', h1, h2, h3, h4⟩ := trim_sim (m := m) hs hz (allBlt_spec h.1) hm
    exact ⟨z, ρ', h.2, h1, h2, h3, h4⟩
  · exact h.elim

theorem round_sound {P : Program} {E : Env} (hE : EnvOk P E) (hm : P.follows .mixedOrders = true) {F : Fr} {ds : List Deferred} {m : Nat} {sym : List Tmp} {tab : BTab} {lf : Nat} {k kx kr : Keep} (h1 : m ≤ k.n) (h2 : m ≤ kx.n) (h3 : m ≤ kr.n)
    {c : Code} {x : XS} {K : AExit → XS → Prop} (hok : codeOk E c = true) (htab : TabOk P m tab c) (h : (roundT P E sym tab lf k kx kr c x).holds (fun r => K r.1 r.2)) : Tri P F ds m c x K := by
  intro ρ a w hs hmx hf
  have main := exec_sound hE hm (F := F) (ds := ds) (m := m) c x
    (fun e y => Tree.holds (fun r : AExit × XS => K r.1 r.2) (match e with
      | .normal => trimK k e y
      | .exit _ => trimK kx e y
      | .ret => trimK kr e y)) hok htab (Tree.holds_mono (fun _ q => q) (Tree.holds_bind h)) ρ a w hs hmx hf
  refine wp_mono main ?_
  rintro e a' w' ⟨e', y, ρ', hk, he, hs', hm', hf', hp'⟩
  have fin : ∀ kk : Keep, m ≤ kk.n → (trimK kk e' y).holds (fun r => K r.1 r.2) → ∃ e2 z ρ2, K e2 z ∧ e2.is e ∧ Sim F ds ρ2 z.s a' w' ∧ m ≤ z.n ∧ (∀ id, z.n ≤ id → ρ2 id = none) ∧ (∀ id, id < m → Ren.eqAt ρ2 ρ id) := by
    intro kk hkk hh
    obtain ⟨z, ρ2, g1, g2, g3, g4, g5⟩ := trimK_sim (m := m) hs' hkk hh
    exact ⟨e', z, ρ2, g1, he, g2, g3, g4, fun id hlt => (g5 id hlt).trans (hp' id hlt)⟩
  cases e' with
  | normal => exact fin k h1 hk
  | exit i => exact fin kx h2 hk
  | ret => exact fin kr h3 hk

/-- A loop in a block: what holds ahead of each round is told by data. -/
theorem blockLoop {P : Program} {E : Env} (hE : EnvOk P E) (hm : P.follows .mixedOrders = true) {F : Fr} {ds : List Deferred} {m id : Nat} {sym : List Tmp} {tab : BTab} {lf : Nat} {k kx kr : Keep} (h1 : m ≤ k.n) (h2 : m ≤ kx.n) (h3 : m ≤ kr.n)
    {c : Code} {K : AExit → XS → Prop} (hok : codeOk E c = true) (htab : TabOk P m tab c) {α : Type} (I : α → XS) (R : α → Prop) (μ : α → Nat) (i0 : α) (hR : R i0)
    (h : ∀ i, R i → (roundT P E sym tab lf k kx kr c (I i)).holds (fun r => match r.1 with
      | .normal => ∃ j, R j ∧ μ j < μ i ∧ r.2 = I j
      | .exit q => if q = id then K .normal r.2 else K (.exit q) r.2
      | .ret => K .ret r.2)) : Tri P F ds m (.block id (.loop c)) (I i0) K := by
  refine Tri.block (Tri.loop (F := F) I R μ i0 rfl hR fun i hi => ?_)
  refine (round_sound hE hm h1 h2 h3 hok htab (K := fun e y => match e with
      | .normal => ∃ j, R j ∧ μ j < μ i ∧ y = I j
      | .exit q => if q = id then K .normal y else K (.exit q) y
      | .ret => K .ret y) (h i hi)).mono ?_
  intro e y hy
  cases e <;> exact hy

/-- The state at a block's head. -/
def reach (P : Program) (E : Env) (sym : List Tmp) (tab : BTab) (lf : Nat) (target : Nat) : Code → XS → Tree (Bool × AExit × XS)
  | .seq a b, x => (reach P E sym tab lf target a x).bind fun r => match r with
    | (true, e, y) => .leaf (true, e, y)
    | (false, .normal, y) => reach P E sym tab lf target b y
    | (false, e, y) => .leaf (false, e, y)
  | .cond c a b, x => match boolOf (look x.s.tm c) with
    | some true => reach P E sym tab lf target a x
    | some false => reach P E sym tab lf target b x
    | none => .fail
  | .block id c, x => bif Nat.beq id target then .leaf (true, .normal, x) else match tab id with
    | some b => b.post.bind fun (e, y) => .leaf (false, e, y)
    | none => (reach P E sym tab lf target c x).bind fun r => match r with
      | (false, .exit i, y) => bif Nat.beq i id then .leaf (false, .normal, y) else .leaf (false, .exit i, y)
      | r => .leaf r
  | .loop c, x => reach P E sym tab lf target c x
  | c, x => (exec P E sym tab lf c x).bind fun (e, y) => .leaf (false, e, y)

def firstT : Tree (Bool × AExit × XS) → Option XS
  | .leaf (true, _, x) => some x
  | .leaf (false, _, _) => none
  | .br _ t f => match firstT t with
    | some x => some x
    | none => firstT f
  | .need _ t => firstT t
  | .same _ _ t => firstT t
  | .fail => none

def bodyOf (P : Program) (f : Nat) : Code := match P.funcs.toList[f]? with
  | some fn => match fn.body with
    | some c => c
    | none => .skip
  | none => .skip

def ntmpsOf (P : Program) (f : Nat) : Nat := match P.funcs.toList[f]? with
  | some fn => fn.ntmps
  | none => 0

/-- The state at the head of a block of a function's body, as far as it is kept. -/
def entryOf (P : Program) (E : Env) (sym : List Tmp) (tab : BTab) (lf : Nat) (f : Nat) (args : List AV) (h : AH) (n : Nat) (target : Nat) (k : Keep) : XS :=
  match firstT (reach P E sym tab lf target (bodyOf P f) ⟨⟨args ++ undefs (ntmpsOf P f - args.length), h, true⟩, n⟩) with
  | some x => match trim k.tm k.ids k.n x with
    | some y => y
    | none => default
  | none => default

/-- The piece of code that a block holds. -/
def blockIn (id : Nat) : Code → Option Code
  | .seq a b => match blockIn id a with
    | some c => some c
    | none => blockIn id b
  | .cond _ a b => match blockIn id a with
    | some c => some c
    | none => blockIn id b
  | .block i c => bif Nat.beq i id then some c else blockIn id c
  | .loop c => blockIn id c
  | _ => none

/-- The round of the loop in a block of a function's body. -/
def roundOf (P : Program) (f id : Nat) : Code := match blockIn id (bodyOf P f) with
  | some (.loop c) => c
  | _ => .skip

def tabOf : List (Nat × BEnt) → BTab
  | [], _ => none
  | (i, b) :: t, id => bif Nat.beq i id then some b else tabOf t id

theorem ctx_of {P : Program} {E : Env} {sym : List Tmp} {tab : BTab} {lf f : Nat} (hE : EnvOk P E) (hm : P.follows .mixedOrders = true) {fn : Func} (hf : P.funcs.toList[f]? = some fn) (hb : fn.body = some (bodyOf P f)) (hok : codeOk E (bodyOf P f) = true)
    (htab : TabOk P 0 tab (bodyOf P f)) : Ctx P E sym tab lf f := ⟨hE, hm, fn, _, hf, hb, hok, htab⟩

theorem tabOk_none {P : Program} {m : Nat} : ∀ c : Code, TabOk P m (fun _ => none) c := by
  intro c
  induction c with
  | seq a b ha hb => exact ⟨ha, hb⟩
  | cond c a b ha hb => exact ⟨ha, hb⟩
  | block id c ih => exact ih
  | loop c ih => exact ih
  | _ => trivial

/-! Called functions, gone through where they are called: at exact values. -/

def strip : Tree AV → Option AV
  | .leaf a => some a
  | .need true t => strip t
  | _ => none

def allFlat (as : List AV) : Bool := match flatL as with
  | some _ => true
  | none => false

def isFlat (a : AV) : Bool := match flat a with
  | some _ => true
  | none => false

/-- A function gone through where it is called: it must come to one exact answer. -/
def inlineG (P : Program) (E : Env) (sym : List Tmp) (lf f : Nat) (as : List AV) : Option (Bool × AV) :=
  match allFlat as with
  | true => match strip (afunR P E sym (fun _ => none) lf f as).strict with
    | some r => match isFlat r with
      | true => some (true, r)
      | false => none
    | none => none
  | false => none

theorem strip_holds : ∀ {t : Tree AV} {r : AV}, strip t = some r → t.holds (fun q => q = r)
  | .leaf a, r, h => by simp [strip] at h; exact h
  | .need true t, r, h => by simp only [strip] at h; exact ⟨rfl, strip_holds h⟩
  | .need false t, r, h => by simp [strip] at h
  | .br _ _ _, r, h => by simp [strip] at h
  | .same _ _ _, r, h => by simp [strip] at h
  | .fail, r, h => by simp [strip] at h

theorem inline_ok {P : Program} {E : Env} {sym : List Tmp} {lf f : Nat} (X : Ctx P E sym (fun _ => none) lf f) : PureOk P f (inlineG P E sym lf f) := by
  refine pure_core X fun as r hg => ?_
  unfold inlineG at hg
  split at hg
  · rename_i hfl
    split at hg
    · rename_i q hq
      split at hg
      · rename_i hfr
        simp at hg; subst hg
        unfold allFlat at hfl
        split at hfl
        · rename_i l hl
          unfold isFlat at hfr
          split at hfr
          · rename_i y hy
            exact ⟨as, l, fun ρ xs hx => hx.flatL_eq hl, hl, y, hy, Tree.holds_strict (Tree.holds_mono (fun a h => by rw [h]; exact hy) (strip_holds hq))⟩
          · cases hfr
        · cases hfl
      · cases hg
    · cases hg
  · cases hg

end Go.Rq

/- Loops whose heads depend on the arguments; tables of blocks. -/
namespace Go.Rq
open Go

/-- All pieces of code that blocks of one name hold. -/
def blkAll (id : Nat) : Code → List Code
  | .seq a b => blkAll id a ++ blkAll id b
  | .cond _ a b => blkAll id a ++ blkAll id b
  | .block i c => bif Nat.beq i id then c :: blkAll id c else blkAll id c
  | .loop c => blkAll id c
  | _ => []

theorem tabOk_of {P : Program} {m : Nat} {tab : BTab} : ∀ {c : Code}, (∀ id b, tab id = some b → m ≤ b.n ∧ ∀ q ∈ blkAll id c, ∀ F ds K, b.post.holds (fun r => K r.1 r.2) → Tri P F ds m (.block id q) b.pre K) → TabOk P m tab c := by
  intro c
  induction c with
  | seq a b ha hb =>
    intro h
    exact ⟨ha fun id e he => ⟨(h id e he).1, fun q hq => (h id e he).2 q (List.mem_append_left _ hq)⟩, hb fun id e he => ⟨(h id e he).1, fun q hq => (h id e he).2 q (List.mem_append_right _ hq)⟩⟩
  | cond c a b ha hb =>
    intro h
    exact ⟨ha fun id e he => ⟨(h id e he).1, fun q hq => (h id e he).2 q (List.mem_append_left _ hq)⟩, hb fun id e he => ⟨(h id e he).1, fun q hq => (h id e he).2 q (List.mem_append_right _ hq)⟩⟩
  | block i c ih =>
    intro h
    simp only [TabOk]
    split
    · rename_i b hb
      refine ⟨(h i b hb).1, fun F ds K hk => (h i b hb).2 c ?_ F ds K hk⟩
      simp [blkAll, Nat.beq_refl]
    · refine ih fun id e he => ⟨(h id e he).1, fun q hq => (h id e he).2 q ?_⟩
      simp only [blkAll]
      cases Nat.beq i id with
      | true => exact List.mem_cons_of_mem _ hq
      | false => exact hq
  | loop c ih => intro h; exact ih h
  | _ => intro _; trivial

/-- A table of one block. -/
theorem tabOk_one {P : Program} {m id : Nat} {b : BEnt} {c q : Code} (hn : m ≤ b.n) (hc : blkAll id c = [q]) (h : ∀ F ds K, b.post.holds (fun r => K r.1 r.2) → Tri P F ds m (.block id q) b.pre K) : TabOk P m (tabOf [(id, b)]) c := by
  refine tabOk_of fun i e he => ?_
  simp only [tabOf] at he
  cases hb : Nat.beq id i with
  | true =>
    rw [hb] at he
    simp at he; subst he
    obtain rfl := Nat.eq_of_beq_eq_true hb
    refine ⟨hn, fun q' hq => ?_⟩
    rw [hc] at hq
    simp at hq; subst hq
    exact h
  | false => rw [hb] at he; simp at he

/-- A context made for one list of arguments. -/
structure GivesX (P : Program) (f : Nat) (as : List AV) (v : Value) : Prop where
  out : ∃ E sym tab lf, Ctx P E sym tab lf f ∧ (afunR P E sym tab lf f as).holds (fun q => flat q = some v)

theorem GivesX.of {P : Program} {E : Env} {sym : List Tmp} {tab : BTab} {lf f : Nat} {as : List AV} {v : Value} (X : Ctx P E sym tab lf f) (h : Gives (afunR P E sym tab lf f as) v) : GivesX P f as v := ⟨E, sym, tab, lf, X, h.out⟩

theorem pure_coreX {P : Program} {f : Nat} {g : List AV → Option (Bool × AV)}
    (h : ∀ as r, g as = some (true, r) → ∃ as' l, (∀ (ρ : Ren) (xs : List Value), Rvs ρ as xs → xs = l) ∧ flatL as' = some l ∧ ∃ y, flat r = some y ∧ GivesX P f as' y) : PureOk P f g := by
  intro ρ as xs r hg hx w hgw
  obtain ⟨as', l, h1, h2, y, h3, E, sym, tab, lf, X, h4⟩ := h as r hg
  obtain ⟨fn, c, hf, hb, hok, htab⟩ := X.body
  have hxl := h1 ρ xs hx
  subst hxl
  have := afun_calls X.env X.mixed hf hb hok htab (K := fun q _ => flat q = some y) (Tree.holds_bind h4) (F := frameOf w) (ρ := Ren.empty) (xs := xs) (w := w) (Rvs.of_flatL h2) (RW.init w _ hgw) (fun _ _ => rfl)
  refine Calls.mono this ?_
  rintro e w' ⟨v, q, h', ρ', rfl, hk, hrv, hrw, _⟩
  have := hrv.flat_eq hk
  subst this
  exact ⟨v, rfl, .of_flat h3, hrw.to_below⟩

theorem sameVal {β : Type} {B : Cod β} {y : β} {x : XS} {t : Tree AV} (h : t.strict = .same x x (.leaf (B.enc y))) : Gives t (B.val y) :=
  ⟨Tree.holds_strict (by rw [h]; exact ⟨rfl, B.h1 y⟩)⟩

section
variable {P : Program} {f : Nat} {α β γ δ : Type} {A : Cod α} {B : Cod β} {C : Cod γ} {D : Cod δ}

theorem pure1X {F : α → β} (h : ∀ x, GivesX P f [A.enc x] (B.val (F x))) : PureOk P f (fn1 A B F) := by
  refine pure_coreX fun as r hg => ?_
  unfold fn1 at hg
  split at hg
  · rename_i a
    split at hg
    · rename_i x hx
      simp at hg; subst hg
      refine ⟨[A.enc x], [A.val x], fun ρ xs hxs => ?_, by simp [flatL, A.h1], _, B.h1 _, h x⟩
      obtain ⟨v, ys, rfl, h1, h2⟩ := hxs.uncons
      rw [h2.unnil, A.h2 ρ _ _ _ hx h1]
    · cases hg
  · cases hg

theorem pure2X {F : α → γ → β} (h : ∀ x y, GivesX P f [A.enc x, C.enc y] (B.val (F x y))) : PureOk P f (fn2 A C B F) := by
  refine pure_coreX fun as r hg => ?_
  unfold fn2 at hg
  split at hg
  · rename_i a c
    split at hg
    · rename_i x y hx hy
      simp at hg; subst hg
      refine ⟨[A.enc x, C.enc y], [A.val x, C.val y], fun ρ xs hxs => ?_, by simp [flatL, A.h1, C.h1], _, B.h1 _, h x y⟩
      obtain ⟨v, ys, rfl, h1, h2⟩ := hxs.uncons
      obtain ⟨u, zs, rfl, h3, h4⟩ := h2.uncons
      rw [h4.unnil, A.h2 ρ _ _ _ hx h1, C.h2 ρ _ _ _ hy h3]
    · cases hg
  · cases hg

end
end Go.Rq

/- Rows of the library with two arguments; strings and bytes. -/
namespace Go.Rq
open Go

theorem ext2 {P : Program} {f : FuncId} {fn : Func} (hf : P.funcs.toList[f]? = some fn) (h1 : (fn.name == "runtime.NumGoroutine") = false) (h2 : fn.body.isNone = true) (h3 : (Extern.findNext fn).isNone = true)
    {r : Array Value → Sem Value} (h4 : Extern.find fn = some r) {α β γ : Type} {A : Cod α} {B : Cod β} {C : Cod γ} {F : α → γ → β}
    (h : ∀ x y w, (r #[A.val x, C.val y]).run P w = .ok (B.val (F x y)) w) : ExtOk P f (fn2 A C B F) := by
  intro ρ as xs q hg hx w
  unfold fn2 at hg
  split at hg
  · rename_i a c
    split at hg
    · rename_i x y hx' hy
      simp at hg; subst hg
      obtain ⟨v, ys, rfl, h1', h2'⟩ := hx.uncons
      obtain ⟨u, zs, rfl, h3', h4'⟩ := h2'.uncons
      rw [h4'.unnil, A.h2 ρ _ _ _ hx' h1', C.h2 ρ _ _ _ hy h3']
      refine ⟨B.val (F x y), ?_, .of_flat (B.h1 _)⟩
      have hf' : P.funcs[f]? = some fn := by simpa using hf
      have hnext : Extern.findNext fn = none := by simpa using h3
      have hr := h x y w
      simp only [callFunc, Sem.run_bind, run_program, Result.andThen_ok, hf', h1, h2, hnext, h4, Sem.run_ite]
      simp only [hr, Bool.false_eq_true, if_false, if_true, run_mark, Result.andThen_ok, Sem.run_pure]
    · cases hg
  · cases hg

def strOf : AV → Option ByteArray
  | .v (.string s) => some s
  | _ => none

def kStr : Cod ByteArray where
  enc s := .v (.string s)
  dec a := strOf a
  val s := .string s
  h1 _ := rfl
  h2 ρ a v x h r := by
    unfold strOf at h
    split at h
    · simp at h; subst h; cases r; rfl
    · cases h

/-- Where a byte stands first. -/
def idxByte (s : ByteArray) (b : Int) : Int := match (List.range s.size).find? (fun i => s[i]! == b.toNat.toUInt8) with
  | some i => (i : Int)
  | none => -1

theorem idxByte_run {P : Program} (s : ByteArray) (b : Int) (w : World) : (Extern.BytealgIndexByte.indexByte #[kStr.val s, (kInt .u8).val b]).run P w = .ok ((kInt .i64).val (idxByte s b)) w := by
  have e : Extern.BytealgIndexByte.indexByte #[kStr.val s, (kInt .u8).val b] = (do
    let x ← Extern.Bytes.bytesOf (.string s)
    let c ← Extern.Bytes.asByte (.int .u8 b)
    match (List.range x.size).find? fun i => x[i]! == c with
    | some i => pure (goInt i)
    | none => pure (goInt (-1)) : Sem Value) := rfl
  rw [e]
  simp only [kInt, Extern.Bytes.bytesOf, Extern.Bytes.asByte, Sem.run_bind, Sem.run_pure, Result.andThen_ok, idxByte]
  cases (List.range s.size).find? (fun i => s[i]! == b.toNat.toUInt8) with
  | none => simp [Sem.run_pure, goInt]
  | some i => simp [Sem.run_pure, goInt]

/-- A tree of answers, all of them exact. -/
theorem treeVal {β : Type} {B : Cod β} {y : β} {t u : Tree AV} (h : t.strict = u) (hu : u.holds (fun q => q = B.enc y)) : Gives t (B.val y) :=
  ⟨Tree.holds_strict (by rw [h]; exact Tree.holds_mono (fun a ha => by rw [ha]; exact B.h1 y) hu)⟩

/-- Which of two numbers is the less, from the top. -/
def cmpW (a b : W6) : Int :=
  bif BitVec.ult a.w5 b.w5 then -1 else bif BitVec.ult b.w5 a.w5 then 1 else
  bif BitVec.ult a.w4 b.w4 then -1 else bif BitVec.ult b.w4 a.w4 then 1 else
  bif BitVec.ult a.w3 b.w3 then -1 else bif BitVec.ult b.w3 a.w3 then 1 else
  bif BitVec.ult a.w2 b.w2 then -1 else bif BitVec.ult b.w2 a.w2 then 1 else
  bif BitVec.ult a.w1 b.w1 then -1 else bif BitVec.ult b.w1 a.w1 then 1 else
  bif BitVec.ult a.w0 b.w0 then -1 else bif BitVec.ult b.w0 a.w0 then 1 else 0

/-- A chain of questions, each with its answer. -/
def chain {β : Type} (B : Cod β) : List (Bool × β) → β → Tree AV
  | [], y => .leaf (B.enc y)
  | (c, x) :: t, y => .br c (.leaf (B.enc x)) (chain B t y)

def chainV {β : Type} : List (Bool × β) → β → β
  | [], y => y
  | (c, x) :: t, y => bif c then x else chainV t y

theorem chain_holds {β : Type} (B : Cod β) : ∀ (l : List (Bool × β)) (y : β), (chain B l y).holds (fun q => q = B.enc (chainV l y))
  | [], _ => rfl
  | (c, x) :: t, y => ⟨fun h => by simp only [chainV, h, cond_true]; rfl, fun h => by simp only [chainV, h, cond_false]; exact chain_holds B t y⟩

theorem chainVal {β : Type} {B : Cod β} {l : List (Bool × β)} {y : β} {t : Tree AV} (h : t.strict = chain B l y) : Gives t (B.val (chainV l y)) := treeVal h (chain_holds B l y)

end Go.Rq

/- Codecs for records: functions' values, points. -/
namespace Go.Rq
open Go

/-- The same cells, another name for the datum. -/
def CC.iso {α β : Type} (c : CC α) (f : α → β) (g : β → α) (h : ∀ a, g (f a) = a) : CC β where
  n := c.n
  enc b := c.enc (g b)
  dec l := match c.dec l with
    | some a => some (f a)
    | none => none
  val b := c.val (g b)
  len b := c.len _
  h1 b := c.h1 _
  h2 ρ as vs x e r := by
    split at e
    · rename_i a ha
      simp at e; subst e
      rw [h]
      exact c.h2 ρ as vs a ha r
    · cases e

def fnIs (f : FuncId) : AV → Bool
  | .fn (.func g) [] [] => Nat.beq g f
  | _ => false

/-- One cell: a function of the program. -/
def cFn (f : FuncId) : CC Unit where
  n := 1
  enc _ := [.fn (.func f) [] []]
  dec l := match l with
    | [a] => bif fnIs f a then some () else none
    | _ => none
  val _ := [.func (.func f) #[] #[]]
  len _ := rfl
  h1 _ := rfl
  h2 ρ as vs x e r := by
    split at e
    · rename_i a
      unfold fnIs at e
      split at e
      · rename_i g
        cases hb : Nat.beq g f with
        | false => rw [hb] at e; simp at e
        | true =>
          obtain rfl := Nat.eq_of_beq_eq_true hb
          obtain ⟨v, ys, rfl, h1, h2⟩ := r.uncons
          rw [h2.unnil, h1.scal_eq (y := .func (.func g) #[] #[]) rfl]
      · simp at e
    · cases e

/-- A curve's field, as its functions take it: what it adds, takes away, multiplies and inverts with; and 1, and b. -/
structure Fl (K : Type) where
  one : K
  b : K

structure Jp (K : Type) where
  x : K
  y : K
  z : K

structure Ap (K : Type) where
  x : K
  y : K
  zero : Bool

def cFl {K : Type} (f1 f2 f3 f4 : FuncId) (c : CC K) : CC (Fl K) :=
  (CC.prod (cFn f1) (CC.prod (cFn f2) (CC.prod (cFn f3) (CC.prod (cFn f4) (CC.prod c c))))).iso (fun x => ⟨x.2.2.2.2.1, x.2.2.2.2.2⟩) (fun y => ((), (), (), (), y.one, y.b)) (fun _ => rfl)

def cJp {K : Type} (c : CC K) : CC (Jp K) := (CC.prod c (CC.prod c c)).iso (fun x => ⟨x.1, x.2.1, x.2.2⟩) (fun y => (y.x, y.y, y.z)) (fun _ => rfl)

def cAp {K : Type} (c : CC K) : CC (Ap K) := (CC.prod c (CC.prod c cBool)).iso (fun x => ⟨x.1, x.2.1, x.2.2⟩) (fun y => (y.x, y.y, y.zero)) (fun _ => rfl)

/-! What the curve's functions reckon, the field left open. -/
section
variable {K : Type} (o : FO K)

def raiseJ (f : Fl K) (p : Ap K) : Jp K := bif p.zero then ⟨f.one, f.one, o.zero⟩ else ⟨p.x, p.y, f.one⟩

def twiceJ (p : Jp K) : Jp K :=
  let yy := o.mul p.y p.y
  let s1 := o.mul p.x yy
  let s2 := o.add s1 s1
  let s := o.add s2 s2
  let m1 := o.mul p.x p.x
  let m := o.add (o.add m1 m1) m1
  let x := o.sub (o.mul m m) (o.add s s)
  let e0 := o.mul yy yy
  let e1 := o.add e0 e0
  let e2 := o.add e1 e1
  let e := o.add e2 e2
  let z := o.mul p.y p.z
  ⟨x, o.sub (o.mul m (o.sub s x)) e, o.add z z⟩

def lowerJ (p : Jp K) : Ap K :=
  let i := o.inv p.z
  let s := o.mul i i
  ⟨o.mul p.x s, o.mul p.y (o.mul s i), false⟩

def sumJ (p q : Jp K) : Jp K :=
  let pp := o.mul p.z p.z
  let qq := o.mul q.z q.z
  let u := o.mul p.x qq
  let v := o.mul q.x pp
  let s := o.mul p.y (o.mul qq q.z)
  let t := o.mul q.y (o.mul pp p.z)
  let h := o.sub v u
  let r := o.sub t s
  let hh := o.mul h h
  let hhh := o.mul hh h
  let w := o.mul u hh
  let x := o.sub (o.sub (o.mul r r) hhh) (o.add w w)
  ⟨x, o.sub (o.mul r (o.sub w x)) (o.mul s hhh), o.mul h (o.mul p.z q.z)⟩

def hJ (p q : Jp K) : K := o.sub (o.mul q.x (o.mul p.z p.z)) (o.mul p.x (o.mul q.z q.z))
def rJ (p q : Jp K) : K := o.sub (o.mul q.y (o.mul (o.mul p.z p.z) p.z)) (o.mul p.y (o.mul (o.mul q.z q.z) q.z))
end

def eqW (a b : W6) : Bool := (a.w0 == b.w0) && ((a.w1 == b.w1) && ((a.w2 == b.w2) && ((a.w3 == b.w3) && ((a.w4 == b.w4) && ((a.w5 == b.w5) && true)))))
def eqD (a b : D6) : Bool := (a.a.w0 == b.a.w0) && ((a.a.w1 == b.a.w1) && ((a.a.w2 == b.a.w2) && ((a.a.w3 == b.a.w3) && ((a.a.w4 == b.a.w4) && ((a.a.w5 == b.a.w5) &&
  ((a.b.w0 == b.b.w0) && ((a.b.w1 == b.b.w1) && ((a.b.w2 == b.b.w2) && ((a.b.w3 == b.b.w3) && ((a.b.w4 == b.b.w4) && ((a.b.w5 == b.b.w5) && true)))))))))))


theorem givesOf {t u : Tree AV} {v : Value} (h : t.strict = u) (hu : u.holds (fun q => flat q = some v)) : Gives t v := ⟨Tree.holds_strict (by rw [h]; exact hu)⟩

theorem holds_leaf {a : AV} {v : Value} (h : flat a = some v) : (Tree.leaf a).holds (fun q => flat q = some v) := h

theorem holds_br {β : Type} {B : Cod β} {x y : β} {c : Bool} {t f : Tree AV} (h1 : t.holds (fun q => flat q = some (B.val x))) (h2 : f.holds (fun q => flat q = some (B.val y))) :
    (Tree.br c t f).holds (fun q => flat q = some (B.val (bif c then x else y))) :=
  ⟨fun h => by rw [h]; exact h1, fun h => by rw [h]; exact h2⟩

section
variable {K : Type} (o : FO K) (eq : K → K → Bool)

def lowerE (p : Jp K) : Ap K := bif eq p.z o.zero then ⟨o.zero, o.zero, true⟩ else lowerJ o p
def onE (f : Fl K) (p : Ap K) : Bool := bif p.zero then (bif eq p.x o.zero then eq p.y o.zero else false) else eq (o.mul p.y p.y) (o.add (o.mul (o.mul p.x p.x) p.x) f.b)
def negE (p : Ap K) : Ap K := ⟨p.x, o.sub o.zero p.y, p.zero⟩
def sumE (f : Fl K) (p q : Jp K) : Jp K := bif eq p.z o.zero then q else bif eq q.z o.zero then p else
  bif eq (hJ o p q) o.zero then (bif eq (rJ o p q) o.zero then twiceJ o p else ⟨f.one, f.one, o.zero⟩) else sumJ o p q

theorem lowerJ_eta (p : Jp K) : lowerJ o p = ⟨(lowerJ o p).x, (lowerJ o p).y, false⟩ := rfl
end

theorem apFlatW (x y : W6) (b : Bool) : flat (.agg (c6.enc x ++ (c6.enc y ++ [.lit b]))) = some ((cAp c6).agg.val ⟨x, y, b⟩) := by kernel_rfl
theorem apFlatD (x y : D6) (b : Bool) : flat (.agg (c12.enc x ++ (c12.enc y ++ [.lit b]))) = some ((cAp c12).agg.val ⟨x, y, b⟩) := by kernel_rfl


theorem pure3X {P : Program} {f : Nat} {α β γ δ : Type} {A : Cod α} {B : Cod β} {C : Cod γ} {D : Cod δ} {F : α → γ → δ → β} (h : ∀ x y z, GivesX P f [A.enc x, C.enc y, D.enc z] (B.val (F x y z))) : PureOk P f (fn3 A C D B F) := by
  refine pure_coreX fun as r hg => ?_
  unfold fn3 at hg
  split at hg
  · rename_i a c d
    split at hg
    · rename_i x y z hx hy hz
      simp at hg; subst hg
      refine ⟨[A.enc x, C.enc y, D.enc z], [A.val x, C.val y, D.val z], fun ρ xs hxs => ?_, by simp [flatL, A.h1, C.h1, D.h1], _, B.h1 _, h x y z⟩
      obtain ⟨v, ys, rfl, h1, h2⟩ := hxs.uncons
      obtain ⟨u, zs, rfl, h3, h4⟩ := h2.uncons
      obtain ⟨w, us, rfl, h5, h6⟩ := h4.uncons
      rw [h6.unnil, A.h2 ρ _ _ _ hx h1, C.h2 ρ _ _ _ hy h3, D.h2 ρ _ _ _ hz h5]
    · cases hg
  · cases hg

end Go.Rq
