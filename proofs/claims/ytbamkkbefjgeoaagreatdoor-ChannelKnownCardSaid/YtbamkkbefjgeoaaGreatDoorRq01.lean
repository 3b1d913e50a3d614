/- The operations that ask nothing of the heap, and that the model does the same. -/
import Derived.Test.YtbamkkbefjgeoaaGreatDoorRq00
namespace Go.Rq
open Go

structure Env where
  pure : FuncId → Option (List AV → Option (Bool × AV))
  heap : FuncId → Option (List AV → AH → Option (Bool × AV × AH))
  cellEq : TypeId → Option (List Nat)
  wide : Bool
  late : Bool := false
  strT : List TypeId := []
  mrg : List Tmp := []
  lay : FuncId → Option (List AV → Nat → Option (Bool × AV × Blk)) := fun _ => none
  tau : Option (List (Option Nat)) := none
  act : FuncId → Option (List AV → AH → Nat → Option (Bool × AV × AH)) := fun _ => none
  fresh : Bool := false
  ro : List FuncId := []
  kk : Nat := 1

/-- Are functions called that a value names? -/
def Env.dyn (E : Env) : Bool := Nat.blt 1 E.kk
/-- Are words written at places that may be variables? -/
def Env.wst (E : Env) : Bool := E.wide && Nat.beq E.kk 2

/-- What is told of types that are equal cell by cell is so. -/
def Env.eqOk (P : Program) (E : Env) : Prop := ∀ t k, E.cellEq t = some k →
  plan P 100 t = some k ∧ (match P.underlying t with | some u => isRow u | none => false) = true ∧ P.eqGuardType P.depth t = false

def aggOf : AV → Option (List AV)
  | .agg cs => some cs
  | .v (.agg xs) => some (xs.toList.map .v)
  | _ => none

theorem Rv.aggOf {ρ : Ren} {a : AV} {x : Value} {cs : List AV} (h : Rv ρ a x) (e : aggOf a = some cs) : ∃ xs : Array Value, x = .agg xs ∧ Rvs ρ cs xs.toList := by
  unfold Rq.aggOf at e
  split at e
  · simp at e; subst e; exact h.agg_iff
  · cases h; simp at e; subst e; exact ⟨_, rfl, Rvs.map_v _⟩
  · cases e

def toU : AV → Option (BitVec 64)
  | .u x => some x
  | .bit b => some (bitW b)
  | _ => none

theorem Rv.toU {ρ : Ren} {a : AV} {x : Value} {u : BitVec 64} (h : Rv ρ a x) (e : toU a = some u) : x = uval u := by
  unfold Rq.toU at e
  split at e
  · cases h; simp at e; subst e; rfl
  · cases h; simp at e; subst e; rfl
  · cases e

/-- Two exact values, one chosen by a bool that may be a variable. -/
def choose2 (c : Bool) (a b : AV) : Option AV :=
  match toU a, toU b with
  | some x, some y => some (.u (bif c then x else y))
  | _, _ => match flat a, flat b with
    | some (.bool x), some (.bool y) => some (.v (.bool (bif c then x else y)))
    | some (.int k x), some (.int k' y) => match decide (k = k') with
      | true => some (.v (.int k (bif c then x else y)))
      | false => none
    | _, _ => none

theorem choose2_spec {ρ : Ren} {c : Bool} {a b r : AV} {x y : Value} (hx : Rv ρ a x) (hy : Rv ρ b y) (h : choose2 c a b = some r) : Rv ρ r (if c then x else y) := by
  unfold choose2 at h
  split at h
  · rename_i u v hu hv
    simp at h; subst h
    rw [hx.toU hu, hy.toU hv]
    cases c <;> exact .u _
  · split at h
    · rename_i p q hp hq
      simp at h; subst h
      rw [hx.flat_eq hp, hy.flat_eq hq]
      cases c <;> exact .v _
    · rename_i k p k' q hp hq
      split at h
      · rename_i hk
        have hk := of_decide_eq_true hk
        subst hk
        simp at h; subst h
        rw [hx.flat_eq hp, hy.flat_eq hq]
        cases c <;> exact .v _
      · cases h
    · cases h

theorem choose2_t {ρ : Ren} {a b r : AV} {x : Value} (hx : Rv ρ a x) (h : choose2 true a b = some r) : Rv ρ r x := by
  unfold choose2 at h
  split at h
  · rename_i u v hu hv
    simp at h; subst h
    rw [hx.toU hu]; exact .u _
  · split at h
    · rename_i p q hp hq
      simp at h; subst h
      rw [hx.flat_eq hp]; exact .v _
    · rename_i k p k' q hp hq
      split at h
      · simp at h; subst h
        rw [hx.flat_eq hp]; exact .v _
      · cases h
    · cases h

theorem choose2_f {ρ : Ren} {a b r : AV} {y : Value} (hy : Rv ρ b y) (h : choose2 false a b = some r) : Rv ρ r y := by
  unfold choose2 at h
  split at h
  · rename_i u v hu hv
    simp at h; subst h
    rw [hy.toU hv]; exact .u _
  · split at h
    · rename_i p q hp hq
      simp at h; subst h
      rw [hy.flat_eq hq]; exact .v _
    · rename_i k p k' q hp hq
      split at h
      · rename_i hk
        have hk := of_decide_eq_true hk
        subst hk
        simp at h; subst h
        rw [hy.flat_eq hq]; exact .v _
      · cases h
    · cases h

/-- Equality of cells. -/
def cmpA (k : Nat) (a b : AV) : Option Bool :=
  match k, toU a, toU b with
  | 1, some x, some y => some (x == y)
  | k, _, _ => match scal a, scal b with
    | some x, some y => cmpK k x y
    | _, _ => none

def cmpCellsA : List Nat → List AV → List AV → Option Bool
  | [], [], [] => some true
  | k :: ks, x :: xs, y :: ys => match cmpA k x y with
    | none => none
    | some b => match cmpCellsA ks xs ys with
      | none => none
      | some c => some (b && c)
  | _, _, _ => none

theorem uval_eq (x y : BitVec 64) : (Int.ofNat x.toNat == Int.ofNat y.toNat) = (x == y) := by
  rw [Bool.eq_iff_iff, beq_iff_eq, beq_iff_eq]
  constructor
  · intro h
    exact BitVec.eq_of_toNat_eq (Int.ofNat.inj h)
  · intro h; rw [h]

theorem cmpA_spec {ρ : Ren} {k : Nat} {a b : AV} {x y : Value} {r : Bool} (hx : Rv ρ a x) (hy : Rv ρ b y) (h : cmpA k a b = some r) : cmpK k x y = some r := by
  unfold cmpA at h
  split at h
  · rename_i u v hu hv
    simp at h; subst h
    rw [hx.toU hu, hy.toU hv]
    simp [uval, cmpK, ← uval_eq]
  · split at h
    · rename_i p q hp hq
      rw [hx.scal_eq hp, hy.scal_eq hq]; exact h
    · cases h

theorem cmpCellsA_spec {ρ : Ren} : ∀ {ks : List Nat} {as bs : List AV} {xs ys : List Value} {r : Bool}, Rvs ρ as xs → Rvs ρ bs ys → cmpCellsA ks as bs = some r → cmpCells ks xs ys = some r
  | [], [], [], xs, ys, r, hx, hy, h => by rw [hx.unnil, hy.unnil]; exact h
  | k :: ks, a :: as, b :: bs, xs, ys, r, hx, hy, h => by
    obtain ⟨x, xs, rfl, h1, h2⟩ := hx.uncons
    obtain ⟨y, ys, rfl, h3, h4⟩ := hy.uncons
    simp only [cmpCellsA] at h
    split at h
    · cases h
    · rename_i p hp
      split at h
      · cases h
      · rename_i q hq
        simp at h; subst h
        simp [cmpCells, cmpA_spec h1 h3 hp, cmpCellsA_spec h2 h4 hq]
  | [], [], _ :: _, _, _, _, _, _, h => by simp [cmpCellsA] at h
  | [], _ :: _, _, _, _, _, _, _, h => by simp [cmpCellsA] at h
  | _ :: _, [], _, _, _, _, _, _, h => by simp [cmpCellsA] at h
  | _ :: _, _ :: _, [], _, _, _, _, _, h => by simp [cmpCellsA] at h

/-- The words' operations. -/
def ubin (op : BinOp) (x y : BitVec 64) : Option AV :=
  match op with
  | .add => some (.u (x + y))
  | .sub => some (.u (x - y))
  | .mul => some (.u (x * y))
  | .and => some (.u (x &&& y))
  | .or => some (.u (x ||| y))
  | .xor => some (.u (x ^^^ y))
  | .andNot => some (.u (x &&& ~~~y))
  | .eql => some (.v (.bool (x == y)))
  | .neq => some (.v (.bool (x != y)))
  | .lss => some (.v (.bool (BitVec.ult x y)))
  | .leq => some (.v (.bool (BitVec.ule x y)))
  | .gtr => some (.v (.bool (BitVec.ult y x)))
  | .geq => some (.v (.bool (BitVec.ule y x)))
  | _ => none

theorem wrap_u64 (n : Int) : IntKind.u64.wrap n = n % 18446744073709551616 := by
  simp [IntKind.wrap, IntKind.bits, IntKind.signed]

theorem back_u64 (r : BitVec 64) : IntKind.u64.wrap r.toNat = (r.toNat : Int) := by
  rw [wrap_u64]
  have := r.isLt
  omega

theorem ofInt_u64 (x : BitVec 64) : BitVec.ofInt 64 (x.toNat : Int) = x := by
  apply BitVec.eq_of_toNat_eq
  simp

theorem intBits_u64 (op : BinOp) (x y r : BitVec 64) (h : (op = .and ∧ r = x &&& y) ∨ (op = .or ∧ r = x ||| y) ∨ (op = .xor ∧ r = x ^^^ y) ∨ (op = .andNot ∧ r = x &&& ~~~y)) :
    Op.intBits op .u64 (x.toNat : Int) (y.toNat : Int) = pure (.int .u64 (r.toNat : Int)) := by
  have hx : BitVec.ofInt IntKind.u64.bits (x.toNat : Int) = x := ofInt_u64 x
  have hy : BitVec.ofInt IntKind.u64.bits (y.toNat : Int) = y := ofInt_u64 y
  rcases h with ⟨rfl, rfl⟩ | ⟨rfl, rfl⟩ | ⟨rfl, rfl⟩ | ⟨rfl, rfl⟩ <;>
    (simp only [Op.intBits, hx, hy]
     refine congrArg (fun z => (pure (Value.int .u64 z) : Sem Value)) ?_
     exact back_u64 _)

theorem ubin_run {ρ : Ren} {t : TypeId} {op : BinOp} {x y : BitVec 64} {r : AV} (h : ubin op x y = some r) : ∃ v, binOp op t (uval x) (uval y) = pure v ∧ Rv ρ r v := by
  have hx := x.isLt
  have hy := y.isLt
  cases op <;> simp only [ubin, Option.some.injEq, reduceCtorEq] at h <;> subst h
  · refine ⟨uval (x + y), ?_, .u _⟩
    simp only [binOp, uval, Op.intArith]
    simp only [ne_eq, not_true, if_false]
    refine congrArg (fun z => (pure (Value.int .u64 z) : Sem Value)) ?_
    rw [wrap_u64, BitVec.toNat_add]; simp
  · refine ⟨uval (x - y), ?_, .u _⟩
    simp only [binOp, uval, Op.intArith]
    simp only [ne_eq, not_true, if_false]
    refine congrArg (fun z => (pure (Value.int .u64 z) : Sem Value)) ?_
    rw [wrap_u64, BitVec.toNat_sub]; simp; omega
  · refine ⟨uval (x * y), ?_, .u _⟩
    simp only [binOp, uval, Op.intArith]
    simp only [ne_eq, not_true, if_false]
    refine congrArg (fun z => (pure (Value.int .u64 z) : Sem Value)) ?_
    rw [wrap_u64, BitVec.toNat_mul]; simp
  · refine ⟨uval (x &&& y), ?_, .u _⟩
    simp only [binOp, uval, ne_eq, not_true, if_false]
    exact intBits_u64 .and x y _ (.inl ⟨rfl, rfl⟩)
  · refine ⟨uval (x ||| y), ?_, .u _⟩
    simp only [binOp, uval, ne_eq, not_true, if_false]
    exact intBits_u64 .or x y _ (.inr (.inl ⟨rfl, rfl⟩))
  · refine ⟨uval (x ^^^ y), ?_, .u _⟩
    simp only [binOp, uval, ne_eq, not_true, if_false]
    exact intBits_u64 .xor x y _ (.inr (.inr (.inl ⟨rfl, rfl⟩)))
  · refine ⟨uval (x &&& ~~~y), ?_, .u _⟩
    simp only [binOp, uval, ne_eq, not_true, if_false]
    exact intBits_u64 .andNot x y _ (.inr (.inr (.inr ⟨rfl, rfl⟩)))
  all_goals
    refine ⟨_, ?_, .v _⟩
    simp only [binOp, uval, ne_eq, not_true, if_false, Op.intCmp]
    refine congrArg (fun z => (pure (Value.bool z) : Sem Value)) ?_
    first
      | exact uval_eq x y
      | (show (!(Int.ofNat x.toNat == Int.ofNat y.toNat)) = !(x == y); rw [uval_eq])
      | (simp [BitVec.ult, BitVec.ule])

def toShift : AV → Option Int
  | .u x => some (Int.ofNat x.toNat)
  | .bit b => some (bif b then 1 else 0)
  | .v (.int _ n) => some n
  | _ => none

theorem Rv.toShift {ρ : Ren} {a : AV} {x : Value} {n : Int} (h : Rv ρ a x) (e : toShift a = some n) : ∃ k, x = .int k n := by
  unfold Rq.toShift at e
  split at e
  · cases h; simp at e; subst e; exact ⟨_, rfl⟩
  · rename_i b; cases h; simp at e; subst e; exact ⟨.u64, by cases b <;> rfl⟩
  · cases h; simp at e; subst e; exact ⟨_, rfl⟩
  · cases e

def ushift (op : BinOp) (x : BitVec 64) (n : Nat) : Option AV :=
  match op with
  | .shl => some (.u (x <<< Nat.min n 64))
  | .shr => some (.u (x >>> Nat.min n 64))
  | _ => none

theorem ushift_run {ρ : Ren} {t : TypeId} {op : BinOp} {x : BitVec 64} {n : Int} {r : AV} {k : IntKind} (hn : 0 ≤ n) (h : ushift op x n.toNat = some r) : ∃ v, binOp op t (uval x) (.int k n) = pure v ∧ Rv ρ r v := by
  obtain ⟨n, rfl⟩ := Int.eq_ofNat_of_zero_le hn
  simp only [Int.toNat_natCast] at h
  have hx := x.isLt
  cases op <;> simp only [ushift, Option.some.injEq, reduceCtorEq] at h <;> subst h
  · refine ⟨uval (x <<< Nat.min n 64), ?_, .u _⟩
    simp only [binOp, uval, Op.shift]
    rw [if_neg (by omega)]
    refine congrArg (fun z => (pure (Value.int .u64 z) : Sem Value)) ?_
    rw [wrap_u64]
    simp [Nat.shiftLeft_eq, IntKind.bits]
  · refine ⟨uval (x >>> Nat.min n 64), ?_, .u _⟩
    simp only [binOp, uval, Op.shift]
    rw [if_neg (by omega)]
    refine congrArg (fun z => (pure (Value.int .u64 z) : Sem Value)) ?_
    have e : ∀ (a k : Nat), Int.fdiv (a : Int) (2 ^ k) = ((a / 2 ^ k : Nat) : Int) := by
      intro a k
      have h2 : (2 : Int) ^ k = ((2 ^ k : Nat) : Int) := by simp
      rw [h2, Int.fdiv_eq_ediv_of_nonneg _ (Int.natCast_nonneg _)]
      simp
    show Int.fdiv (x.toNat : Int) (2 ^ Nat.min (n : Int).toNat 64) = _
    rw [e]
    simp [Nat.shiftRight_eq_div_pow]

/-- What is left, and how often. -/
def udivA (op : BinOp) (u v : BitVec 64) : Option AV :=
  match op with
  | .quo => some (.u (u / v))
  | .rem => some (.u (u % v))
  | _ => none

theorem udivA_run {ρ : Ren} {t : TypeId} {op : BinOp} {x y : BitVec 64} {r : AV} (hy : y ≠ 0#64) (h : udivA op x y = some r) : ∃ v, binOp op t (uval x) (uval y) = pure v ∧ Rv ρ r v := by
  have hx := x.isLt
  have hy0 : y.toNat ≠ 0 := fun e => hy (BitVec.eq_of_toNat_eq e)
  have hi : ¬ (Int.ofNat y.toNat = 0) := by simpa using hy0
  cases op <;> simp only [udivA, Option.some.injEq, reduceCtorEq] at h <;> subst h
  · refine ⟨uval (x / y), ?_, .u _⟩
    simp only [binOp, uval, Op.intDiv]
    simp only [ne_eq, not_true, if_false]
    rw [if_neg hi]
    refine congrArg (fun z => (pure (Value.int .u64 z) : Sem Value)) ?_
    rw [wrap_u64, BitVec.toNat_udiv]
    have hd : x.toNat / y.toNat ≤ x.toNat := Nat.div_le_self _ _
    rw [show (Int.ofNat x.toNat).tdiv (Int.ofNat y.toNat) = ((x.toNat / y.toNat : Nat) : Int) from rfl]
    exact Int.emod_eq_of_lt (Int.natCast_nonneg _) (by
      have : x.toNat / y.toNat < 18446744073709551616 := Nat.lt_of_le_of_lt hd hx
      exact Int.ofNat_lt.2 this)
  · refine ⟨uval (x % y), ?_, .u _⟩
    simp only [binOp, uval, Op.intDiv]
    simp only [ne_eq, not_true, if_false]
    rw [if_neg hi]
    refine congrArg (fun z => (pure (Value.int .u64 z) : Sem Value)) ?_
    rw [BitVec.toNat_umod]
    rfl

def isShift : BinOp → Bool
  | .shl => true
  | .shr => true
  | _ => false

/-- A word's operation, of two bits first. -/
def ubinB (op : BinOp) (a b : AV) (u v : BitVec 64) : Option AV :=
  match a, b, op with
  | .bit p, .bit q, .eql => some (.v (.bool (p == q)))
  | .bit p, .bit q, .neq => some (.v (.bool (p != q)))
  | _, _, _ => ubin op u v

def binPlain (P : Program) (E : Env) (op : BinOp) (t : TypeId) (x y : Operand) (a b : AV) : Option AV :=
  match isShift op with
  | true => match flat a, flat b with
      | some p, some q => match pureRun P (do eqGuard op t x y p q; binOp op t p q) with
        | some r => some (.v r)
        | none => none
      | _, _ => none
  | false => match toU a, toU b with
    | some u, some v => ubinB op a b u v
    | _, _ => match aggOf a, aggOf b with
      | some xs, some ys => match E.cellEq t with
        | some k => match cmpCellsA k xs ys with
          | some r => match op with
            | .eql => some (.v (.bool r))
            | .neq => some (.v (.bool !r))
            | _ => none
          | none => none
        | none => none
      | _, _ => match flat a, flat b with
        | some p, some q => match pureRun P (do eqGuard op t x y p q; binOp op t p q) with
          | some r => some (.v r)
          | none => none
        | _, _ => none

theorem eqGuard_int (P : Program) (op : BinOp) (t : TypeId) (x y : Operand) (k k' : IntKind) (m n : Int) (w : World) : (eqGuard op t x y (.int k m) (.int k' n)).run P w = .ok () w := by
  cases op <;> simp [eqGuard]

theorem ubin_bits (p q : Bool) : ubin .eql (bitW p) (bitW q) = some (.v (.bool (p == q))) ∧ ubin .neq (bitW p) (bitW q) = some (.v (.bool (p != q))) := by
  cases p <;> cases q <;> exact ⟨rfl, rfl⟩

theorem binPlain_run {P : Program} {E : Env} (hE : E.eqOk P) {ρ : Ren} {op : BinOp} {t : TypeId} {x y : Operand} {a b r : AV} {p q : Value} (hp : Rv ρ a p) (hq : Rv ρ b q) (h : binPlain P E op t x y a b = some r) (w : World) :
    ∃ v, (do eqGuard op t x y p q; binOp op t p q : Sem Value).run P w = .ok v w ∧ Rv ρ r v := by
  have plain : (match flat a, flat b with
        | some p, some q => match pureRun P (do eqGuard op t x y p q; binOp op t p q) with
          | some r => some (AV.v r)
          | none => none
        | _, _ => none) = some r → ∃ v, (do eqGuard op t x y p q; binOp op t p q : Sem Value).run P w = .ok v w ∧ Rv ρ r v := by
    intro h
    split at h
    · rename_i p' q' h1 h2
      split at h
      · rename_i r' hr
        simp at h; subst h
        rw [hp.flat_eq h1, hq.flat_eq h2]
        exact ⟨r', pureRun_run hr w, .v _⟩
      · cases h
    · cases h
  unfold binPlain at h
  split at h
  · exact plain h
  · split at h
    · rename_i u v hu hv
      have gen : ubin op u v = some r → ∃ v, (do eqGuard op t x y p q; binOp op t p q : Sem Value).run P w = .ok v w ∧ Rv ρ r v := by
        intro h
        rw [hp.toU hu, hq.toU hv]
        obtain ⟨z, h1, h2⟩ := ubin_run (t := t) (ρ := ρ) h
        exact ⟨z, by simp only [Sem.run_bind, uval, eqGuard_int, Result.andThen_ok]; rw [show binOp op t (.int .u64 (Int.ofNat u.toNat)) (.int .u64 (Int.ofNat v.toNat)) = pure z from h1]; rfl, h2⟩
      unfold ubinB at h
      split at h
      · simp [Rq.toU] at hu hv; subst hu; subst hv
        simp at h; subst h
        exact gen (ubin_bits _ _).1
      · simp [Rq.toU] at hu hv; subst hu; subst hv
        simp at h; subst h
        exact gen (ubin_bits _ _).2
      · exact gen h
    · split at h
      · rename_i xs ys hx hy
        obtain ⟨xs', rfl, hxs⟩ := hp.aggOf hx
        obtain ⟨ys', rfl, hys⟩ := hq.aggOf hy
        split at h
        · rename_i k hk
          split at h
          · rename_i rr hr
            obtain ⟨h1, h2, h3⟩ := hE t k hk
            have := eql_run (by omega) h1 h2 h3 (cmpCellsA_spec hxs hys hr) x y w
            split at h
            · simp at h; subst h; exact ⟨_, this.1, .v _⟩
            · simp at h; subst h; exact ⟨_, this.2, .v _⟩
            · cases h
          · cases h
        · cases h
      · exact plain h

def binF (P : Program) (E : Env) (op : BinOp) (t : TypeId) (x y : Operand) (a b : AV) : Option (Bool × AV) :=
  match isShift op, toU a, toShift b with
  | true, some u, some n => match ushift op u n.toNat with
    | some r => some (decide (0 ≤ n), r)
    | none => none
  | _, _, _ => match binPlain P E op t x y a b with
    | some r => some (true, r)
    | none => match toU a, toU b with
      | some u, some v => match udivA op u v with
        | some r => some (!(v == 0#64), r)
        | none => none
      | _, _ => none

/-- A bound of a slice expression: an integer, or none. -/
def bound (ev : Operand → AV) : Option Operand → Option (Option Int)
  | none => some none
  | some o => match flat (ev o) with
    | some (.int _ n) => some (some n)
    | _ => none

/-- Parts laid into cells. -/
def fillA (place : Nat → Option (Nat × Nat)) : List (Nat × AV) → List AV → Option (List AV)
  | [], cs => some cs
  | (i, x) :: t, cs => match place i with
    | none => none
    | some (off, n) => match cellsOf x with
      | none => none
      | some l => bif Nat.beq l.length n && Nat.ble (off + n) cs.length then fillA place t (setAt cs off l) else none

/-- An exact value, the machine's own way; a word as a word. -/
def canon : Value → AV
  | .bool b => .lit b
  | .int .u64 n => match decide (0 ≤ n ∧ n < 18446744073709551616) with
    | true => .u (BitVec.ofInt 64 n)
    | false => .v (.int .u64 n)
  | x => .v x

theorem Rv.canon {ρ : Ren} (x : Value) : Rv ρ (Rq.canon x) x := by
  unfold Rq.canon
  split
  · exact .lit _
  · rename_i n
    split
    · rename_i h
      have h := of_decide_eq_true h
      have : uval (BitVec.ofInt 64 n) = .int .u64 n := by
        simp [uval, BitVec.toNat_ofInt]; omega
      rw [← this]; exact .u _
    · exact .v _
  · exact .v _

def canons : List Value → List AV
  | [] => []
  | x :: t => Rq.canon x :: canons t

theorem Rvs.canons {ρ : Ren} : ∀ (l : List Value), Rvs ρ (Rq.canons l) l
  | [] => .nil
  | x :: t => .cons (.canon x) (Rvs.canons t)

def zeroOf (P : Program) (t : TypeId) : Option (List AV) :=
  match P.info? t with
  | some i => match i.zero with
    | some z => some (canons z.cells.toList)
    | none => none
  | none => none

def placesOf (P : Program) : List Field → Option (List (Nat × Nat))
  | [] => some []
  | f :: t => match sz P f.type with
    | none => none
    | some n => match placesOf P t with
      | none => none
      | some l => some ((f.offset, n) :: l)

def evs (ev : Operand → AV) : List (Nat × Operand) → List (Nat × AV)
  | [] => []
  | (i, x) :: t => (i, ev x) :: evs ev t

def buildA (P : Program) (ev : Operand → AV) (t : TypeId) (parts : List (Nat × Operand)) : Option AV :=
  match zeroOf P t with
  | none => none
  | some z => match P.underlying t with
    | some (.struct fs) => match placesOf P fs.toList with
      | none => none
      | some ps => match fillA (fun i => ps[i]?) (evs ev parts) z with
        | some l => some (.agg l)
        | none => none
    | some (.array _ el) => match sz P el with
      | none => none
      | some n => match fillA (fun i => some (i * n, n)) (evs ev parts) z with
        | some l => some (.agg l)
        | none => none
    | _ => none

def maps (ev : Operand → AV) : List Operand → List AV
  | [] => []
  | x :: t => ev x :: maps ev t

theorem evs_eq (ev : Operand → AV) (l : List (Nat × Operand)) : evs ev l = l.map fun p => (p.1, ev p.2) := by
  induction l with
  | nil => rfl
  | cons x t ih => obtain ⟨i, x⟩ := x; simp [evs, ih]

/-- A byte of a string, by its place. -/
def strAt (s : ByteArray) (i : Nat) : Nat := (s.data.toList.getD i 0).toNat

theorem strAt_run {s : ByteArray} {i : Nat} (h : i < s.data.toList.length) : ∃ b, s[i]? = some b ∧ b.toNat = strAt s i := by
  have h' : i < s.size := by rw [Array.length_toList] at h; exact h
  refine ⟨s[i], by rw [getElem?_pos], ?_⟩
  unfold strAt
  rw [List.getD_eq_getElem?_getD, List.getElem?_eq_getElem h]
  rfl

/-- The operations that ask nothing of the heap and call nothing: what must hold, and what comes out. -/
def opPure (P : Program) (E : Env) (ev : Operand → AV) (o : Op) : Option (Bool × AV) :=
  match o with
  | .move x => some (true, ev x)
  | .assign x => some (true, ev x)
  | .pick c a b => match ev c with
    | .lit true => some (true, ev a)
    | .lit false => some (true, ev b)
    | .v (.bool c') => match choose2 c' (ev a) (ev b) with
      | some z => some (true, z)
      | none => match c' with
        | true => some (true, ev a)
        | false => some (true, ev b)
    | _ => none
  | .nilCheck x => match ev x with
    | .ptr id off => some (true, .ptr id off)
    | .v (.pointer (some a)) => some (true, .v (.pointer (some a)))
    | .fn (.func f) as bs => some (true, .fn (.func f) as bs)
    | _ => none
  | .binOp op t x y _ => match ev x, ev y with
    | .ptr _ _, .v (.pointer none) => match P.underlying t, op with
      | some (.pointer _), .eql => some (true, .lit false)
      | some (.pointer _), .neq => some (true, .lit true)
      | _, _ => none
    | .slc _ _ _ _, .v (.slice none _ _) => match P.underlying t, op with
      | some (.slice _), .eql => some (true, .lit false)
      | some (.slice _), .neq => some (true, .lit true)
      | _, _ => none
    | .own _ _ _ _, .v (.slice none _ _) => match P.underlying t, op with
      | some (.slice _), .eql => some (true, .lit false)
      | some (.slice _), .neq => some (true, .lit true)
      | _, _ => none
    | a, b => binF P E op t x y a b
  | .unOp op _ x => match toU (ev x) with
    | some u => match op with
      | .xor => some (true, .u (~~~u))
      | .neg => some (true, .u (0#64 - u))
      | _ => none
    | none => match flat (ev x) with
      | some a => match pureRun P (Op.unary op a) with
        | some r => some (true, .v r)
        | none => none
      | none => none
  | .convert s d x => match toU (ev x) with
    | some u => match P.underlying s, P.underlying d with
      | some (.int _), some (.int .u64) => some (true, .u u)
      | some (.int _), some (.int k) => some (true, .v (.int k (k.wrap (Int.ofNat u.toNat))))
      | _, _ => none
    | none => match flat (ev x) with
      | some a => match P.underlying s, P.underlying d, a with
        | some (.int _), some (.int .u64), .int _ n => some (true, .u (BitVec.ofInt 64 n))
        | _, _, _ => match pureRun P (convert s d a) with
          | some r => some (true, .v r)
          | none => none
      | none => none
  | .makeInterface t x => match P.underlying t with
    | some (.interface _) => none
    | some _ => some (true, .ifc t (ev x))
    | none => none
  | .makeFunc f as bs => some (true, .fn f (maps ev as.toList) (maps ev bs.toList))
  | .sliceToArrayPointer t x => match P.underlying t, ev x with
    | some (.array n _), .slc id off len _ => some (decide (n ≤ len), .ptr id off)
    | _, _ => none
  | .fieldAddr s x f => match P.underlying s, ev x with
    | some (.struct fs), .ptr id off => match fs.toList[f]? with
      | some fl => match sz P fl.type with
        | some (_ + 1) => some (true, .ptr id (off + fl.offset))
        | _ => none
      | none => none
    | _, _ => none
  | .indexAddr t x ix => match flat (ev ix) with
    | some (.int _ i) => match P.underlying t, ev x with
      | some (.array len el), .ptr id off => match sz P el with
        | some n => some (decide (0 ≤ i ∧ i < (len : Int)), .ptr id (off + i.toNat * n))
        | none => none
      | some (.array len el), .v (.pointer (some ⟨g, off, none⟩)) => match sz P el with
        | some n => some (decide (0 ≤ i ∧ i < (len : Int)), .v (.pointer (some ⟨g, off + i.toNat * n, none⟩)))
        | none => none
      | some (.slice el), .slc id off len _ => match sz P el with
        | some n => some (decide (0 ≤ i ∧ i < (len : Int)), .ptr id (off + i.toNat * n))
        | none => none
      | some (.slice el), .own id es k len => match sz P el with
        | some n => some (decide (0 ≤ i ∧ i < (len : Int)), .ptr id (k * es + i.toNat * n))
        | none => none
      | _, _ => none
    | _ => none
  | .field t x f => match P.underlying t, aggOf (ev x) with
    | some (.struct fs), some cs => match fs.toList[f]? with
      | some fl => match partA P fl.type cs fl.offset with
        | some r => some (true, r)
        | none => none
      | none => none
    | _, _ => none
  | .index t x ix => match flat (ev ix) with
    | some (.int _ i) => match P.underlying t with
      | some (.array len el) => match aggOf (ev x) with
        | some cs => match sz P el with
          | some n => match partA P el cs (i.toNat * n) with
            | some r => some (decide (0 ≤ i ∧ i < (len : Int)), r)
            | none => none
          | none => none
        | none => none
      | some .string => match ev x with
        | .v (.string s) => some (decide (0 ≤ i ∧ i < (s.data.toList.length : Int)), .v (.int .u8 ((strAt s i.toNat : Nat) : Int)))
        | _ => none
      | _ => none
    | _ => none
  | .extract x i => match ev x with
    | .tup cs => match cs[i]? with
      | some r => some (true, r)
      | none => none
    | .v (.tuple vs) => match vs.toList[i]? with
      | some r => some (true, .v r)
      | none => none
    | _ => none
  | .build t parts => match buildA P ev t parts.toList with
    | some r => some (true, r)
    | none => none
  | .slice t x lo hi none => match P.underlying t, ev x, bound ev lo, bound ev hi with
    | some (.array len el), .ptr id off, some lo, some hi => match sz P el with
      | some n =>
        let h := hi.getD len
        let l := lo.getD 0
        some (decide (0 ≤ h ∧ h ≤ (len : Int)) && decide (0 ≤ l ∧ l ≤ h),
          .slc id (bif Nat.beq len l.toNat then off else off + l.toNat * n) (h.toNat - l.toNat) (len - l.toNat))
      | none => none
    | some (.slice el), .slc id off len cap, some lo, some hi => match sz P el with
      | some n =>
        let h := hi.getD len
        let l := lo.getD 0
        some (decide (0 ≤ h ∧ h ≤ (cap : Int)) && decide (0 ≤ l ∧ l ≤ h),
          .slc id (bif Nat.beq cap l.toNat then off else off + l.toNat * n) (h.toNat - l.toNat) (cap - l.toNat))
      | none => none
    | some (.slice el), .own id es k len, some lo, some hi => match sz P el with
      | some n =>
        let h := hi.getD len
        let l := lo.getD 0
        some ((decide (0 ≤ h ∧ h ≤ (len : Int)) && decide (0 ≤ l ∧ l ≤ h)) && (Nat.beq n es), .own id es (k + l.toNat) (h.toNat - l.toNat))
      | none => none
    | some (.slice el), .v (.slice none len cap), some lo, some hi => match sz P el with
      | some _ =>
        let h := hi.getD len
        let l := lo.getD 0
        some (decide (0 ≤ h ∧ h ≤ (cap : Int)) && decide (0 ≤ l ∧ l ≤ h), .v (.slice none (h.toNat - l.toNat) (cap - l.toNat)))
      | none => none
    | _, _, _, _ => none
  | .slice t x lo (some hi) (some mx) => match P.underlying t, ev x, bound ev lo, flat (ev hi), flat (ev mx) with
    | some (.slice el), .slc id off _ cap, some lo, some (.int _ h), some (.int _ m) => match sz P el with
      | some n =>
        let l := lo.getD 0
        some (decide (0 ≤ m ∧ m ≤ (cap : Int)) && (decide (0 ≤ h ∧ h ≤ m) && decide (0 ≤ l ∧ l ≤ h)),
          .slc id (bif Nat.beq m.toNat l.toNat then off else off + l.toNat * n) (h.toNat - l.toNat) (m.toNat - l.toNat))
      | none => none
    | some (.slice el), .own id es k len, some lo, some (.int _ h), some (.int _ m) => match sz P el with
      | some n =>
        let l := lo.getD 0
        some ((decide (0 ≤ m ∧ m ≤ (len : Int)) && (decide (0 ≤ h ∧ h ≤ m) && decide (0 ≤ l ∧ l ≤ h))) && decide (0 < len ∨ k = 0),
          .slc id (bif Nat.beq m.toNat l.toNat then k * es else k * es + l.toNat * n) (h.toNat - l.toNat) (m.toNat - l.toNat))
      | none => none
    | some (.slice el), .v (.slice none _ cap), some lo, some (.int _ h), some (.int _ m) => match sz P el with
      | some _ =>
        let l := lo.getD 0
        some (decide (0 ≤ m ∧ m ≤ (cap : Int)) && (decide (0 ≤ h ∧ h ≤ m) && decide (0 ≤ l ∧ l ≤ h)), .v (.slice none (h.toNat - l.toNat) (m.toNat - l.toNat)))
      | none => none
    | _, _, _, _, _ => none
  | _ => none

/-- How operands stand to values. -/
def EvOk (ρ : Ren) (ev : Operand → AV) (va : Operand → Value) : Prop := ∀ x, Rv ρ (ev x) (va x)

theorem Rvs.maps {ρ : Ren} {ev : Operand → AV} {va : Operand → Value} (h : EvOk ρ ev va) (l : List Operand) : Rvs ρ (Rq.maps ev l) (l.map va) := by
  induction l with
  | nil => exact .nil
  | cons x t ih => exact .cons (h x) ih

theorem zeroOf_run {P : Program} {t : TypeId} {z : List AV} (h : zeroOf P t = some z) :
    ∃ v, (∀ w, (zeroValue t).run P w = .ok v w) ∧ z = canons v.cells.toList := by
  unfold zeroOf at h
  split at h
  · rename_i i hi
    split at h
    · rename_i v hv
      simp at h
      exact ⟨v, fun w => by simp [zeroValue, typeInfo, hi, hv], h.symm⟩
    · cases h
  · cases h

theorem setAt_foldl (l : List Value) : ∀ (cs : Array Value) (off j : Nat),
    (setAt cs.toList (off + j) l).toArray = (l.zipIdx j).foldl (fun cs (x : Value × Nat) => cs.setIfInBounds (off + x.2) x.1) cs := by
  induction l with
  | nil => intro cs off j; simp [setAt]
  | cons x t ih =>
    intro cs off j
    simp only [setAt, List.zipIdx_cons, List.foldl_cons]
    rw [← ih (cs.setIfInBounds (off + j) x) off (j + 1)]
    simp [Nat.add_assoc]

theorem fillA_run {ρ : Ren} (place : Nat → Option (Nat × Nat)) : ∀ (parts : List (Nat × AV)) (vs : List (Nat × Value)) (cs : List AV) (xs : List Value) (r : List AV),
    parts.length = vs.length → (∀ (i : Nat) (a : Nat × AV) (x : Nat × Value), parts[i]? = some a → vs[i]? = some x → a.1 = x.1 ∧ Rv ρ a.2 x.2) → Rvs ρ cs xs → fillA place parts cs = some r →
    ∃ ys : List Value, Instr.fill place xs.toArray vs = some ys.toArray ∧ Rvs ρ r ys := by
  intro parts
  induction parts with
  | nil =>
    intro vs cs xs r hl _ hc h
    cases vs with
    | nil => simp [fillA] at h; subst h; exact ⟨xs, rfl, hc⟩
    | cons => simp at hl
  | cons p t ih =>
    intro vs cs xs r hl hv hc h
    cases vs with
    | nil => simp at hl
    | cons q u =>
      obtain ⟨i, a⟩ := p
      obtain ⟨j, x⟩ := q
      have h0 := hv 0 _ _ rfl rfl
      simp at h0
      obtain ⟨rfl, hax⟩ := h0
      simp only [fillA] at h
      split at h
      · cases h
      · rename_i off n hp
        split at h
        · cases h
        · rename_i l hl'
          have hcells := hax.cells hl'
          cases hb : (Nat.beq l.length n && Nat.ble (off + n) cs.length) <;> simp only [hb, cond_true, cond_false] at h
          · cases h
          · simp only [Bool.and_eq_true] at hb
            have e1 := Nat.eq_of_beq_eq_true hb.1
            have e2 := Nat.le_of_ble_eq_true hb.2
            have hlen : x.cells.size = n := by rw [← e1, hcells.1]; simp
            have hsz : xs.length = cs.length := hc.1.symm
            obtain ⟨ys, h1, h2⟩ := ih u (setAt cs off l) (setAt xs off x.cells.toList) r (by simpa using hl)
              (fun i a x ha hx => hv (i + 1) a x (by simpa using ha) (by simpa using hx)) (hcells.setAt off hc) h
            refine ⟨ys, ?_, h2⟩
            simp only [Instr.fill, hp]
            rw [if_neg (by simp [hlen]; omega)]
            have := setAt_foldl x.cells.toList xs.toArray off 0
            simp only [Nat.add_zero] at this
            rw [← h1, this]
            congr 1
            rw [← Array.foldl_toList]
            simp

theorem binF_run {P : Program} {E : Env} (hE : E.eqOk P) {ρ : Ren} {op : BinOp} {t : TypeId} {x y : Operand} {a b r : AV} {p q : Value} (hp : Rv ρ a p) (hq : Rv ρ b q) (h : binF P E op t x y a b = some (true, r)) (w : World) :
    ∃ v, (do eqGuard op t x y p q; binOp op t p q : Sem Value).run P w = .ok v w ∧ Rv ρ r v := by
  unfold binF at h
  split at h
  · rename_i u n _ hu hn
    split at h
    · rename_i r' hr
      simp only [Option.some.injEq, Prod.mk.injEq, decide_eq_true_eq] at h
      obtain ⟨hn0, rfl⟩ := h
      obtain ⟨k, rfl⟩ := hq.toShift hn
      rw [hp.toU hu]
      obtain ⟨v, h1, h2⟩ := ushift_run (t := t) (k := k) (ρ := ρ) hn0 hr
      exact ⟨v, by simp only [Sem.run_bind, uval, eqGuard_int, Result.andThen_ok]; rw [show binOp op t (.int .u64 (Int.ofNat u.toNat)) (.int k n) = pure v from h1]; rfl, h2⟩
    · cases h
  · split at h
    · rename_i r' hr
      simp at h; subst h
      exact binPlain_run hE hp hq hr w
    · split at h
      · rename_i u v hu hv
        split at h
        · rename_i r' hr
          simp only [Option.some.injEq, Prod.mk.injEq, Bool.not_eq_true', beq_eq_false_iff_ne] at h
          obtain ⟨hv0, rfl⟩ := h
          rw [hp.toU hu, hq.toU hv]
          obtain ⟨z, h1, h2⟩ := udivA_run (t := t) (ρ := ρ) hv0 hr
          exact ⟨z, by simp only [Sem.run_bind, uval, eqGuard_int, Result.andThen_ok]; rw [show binOp op t (.int .u64 (Int.ofNat u.toNat)) (.int .u64 (Int.ofNat v.toNat)) = pure z from h1]; rfl, h2⟩
        · cases h
      · cases h

end Go.Rq

/- The model runs a pure operation as the abstract machine does. -/
namespace Go.Rq
open Go

theorem flat_run {ρ : Ren} {ev : Operand → AV} {va : Operand → Value} (h : EvOk ρ ev va) {x : Operand} {a : Value} (e : flat (ev x) = some a) : va x = a := (h x).flat_eq e

theorem run_mapM_list {α β : Type} {P : Program} (f : α → Sem β) (g : α → β) : ∀ (l : List α) (w : World), (∀ x ∈ l, (f x).run P w = .ok (g x) w) → (l.mapM f).run P w = .ok (l.map g) w := by
  intro l
  induction l with
  | nil => intro w _; simp
  | cons x t ih =>
    intro w h
    have h1 := h x (by simp)
    have h2 := ih w (fun y hy => h y (by simp [hy]))
    simp [List.mapM_cons, h1, h2]

theorem placesOf_spec {P : Program} : ∀ {fs : List Field} {ps : List (Nat × Nat)}, placesOf P fs = some ps → ps = fs.map (fun f => (f.offset, (sz P f.type).getD 0)) ∧ ∀ f ∈ fs, ∃ n, sz P f.type = some n
  | [], ps, h => by simp [placesOf] at h; subst h; simp
  | f :: t, ps, h => by
    simp only [placesOf] at h
    split at h
    · cases h
    · rename_i n hn
      split at h
      · cases h
      · rename_i l hl
        simp at h; subst h
        obtain ⟨h1, h2⟩ := placesOf_spec hl
        refine ⟨by simp [h1, hn], fun g hg => ?_⟩
        rcases List.mem_cons.1 hg with rfl | hg
        · exact ⟨n, hn⟩
        · exact h2 g hg

theorem buildA_run {P : Program} {ρ : Ren} {ev : Operand → AV} {va : Operand → Value} (hev : EvOk ρ ev va) {t : TypeId} {parts : List (Nat × Operand)} {r : AV}
    (h : buildA P ev t parts = some r) (w : World) :
    ∃ v, (Instr.build t (parts.map fun p => (p.1, va p.2)).toArray).run P w = .ok v w ∧ Rv ρ r v := by
  unfold buildA at h
  split at h
  · cases h
  · rename_i z hz
    obtain ⟨zv, hzr, rfl⟩ := zeroOf_run hz
    have hzc := Rvs.canons (ρ := ρ) zv.cells.toList
    have hparts : ∀ (i : Nat) (a : Nat × AV) (x : Nat × Value), (evs ev parts)[i]? = some a → (parts.map fun p => (p.1, va p.2))[i]? = some x → a.1 = x.1 ∧ Rv ρ a.2 x.2 := by
      intro i a x ha hx
      rw [evs_eq] at ha
      simp only [List.getElem?_map, Option.map_eq_some_iff] at ha hx
      obtain ⟨p, hp, rfl⟩ := ha
      obtain ⟨q, hq, rfl⟩ := hx
      rw [hp] at hq; simp at hq; subst hq
      exact ⟨rfl, hev _⟩
    have hlen : (evs ev parts).length = (parts.map fun p => (p.1, va p.2)).length := by rw [evs_eq]; simp
    split at h
    · rename_i fs hu
      split at h
      · cases h
      · rename_i ps hps
        split at h
        · rename_i l hl
          simp at h; subst h
          obtain ⟨hps1, hps2⟩ := placesOf_spec hps
          obtain ⟨ys, h1, h2⟩ := fillA_run (ρ := ρ) _ _ _ _ zv.cells.toList _ hlen hparts hzc hl
          refine ⟨.agg ys.toArray, ?_, Rv.agg_mk h2⟩
          have hm : (fs.mapM fun f => do pure (f.offset, ← sizeOf f.type) : Sem (Array (Nat × Nat))).run P w = .ok ps.toArray w := by
            rw [Array.mapM_eq_mapM_toList]
            simp only [Sem.run_map]
            rw [run_mapM_list (P := P) _ (fun f => (f.offset, (sz P f.type).getD 0))]
            · simp [hps1]
            · intro f hf
              obtain ⟨n, hn⟩ := hps2 f hf
              simp [run_sizeOf hn, hn]
          have h1' : Instr.fill (fun i => ps[i]?) zv.cells (List.map (fun p => (p.fst, va p.snd)) parts) = some ys.toArray := by
            simpa using h1
          simp only [Instr.build, Sem.run_bind, hzr, Result.andThen_ok, run_underlying hu, hm]
          simp [h1']
        · cases h
    · rename_i len el hu
      split at h
      · cases h
      · rename_i n hn
        split at h
        · rename_i l hl
          simp at h; subst h
          obtain ⟨ys, h1, h2⟩ := fillA_run (ρ := ρ) _ _ _ _ zv.cells.toList _ hlen hparts hzc hl
          refine ⟨.agg ys.toArray, ?_, Rv.agg_mk h2⟩
          have h1' : Instr.fill (fun i => some (i * n, n)) zv.cells (List.map (fun p => (p.fst, va p.snd)) parts) = some ys.toArray := by
            simpa using h1
          simp only [Instr.build, Sem.run_bind, hzr, Result.andThen_ok, run_underlying hu, run_sizeOf hn]
          simp [h1']
        · cases h
    · cases h

theorem bound_run {ρ : Ren} {ev : Operand → AV} {va : Operand → Value} (hev : EvOk ρ ev va) {o : Option Operand} {r : Option Int} (h : bound ev o = some r) :
    (o = none ∧ r = none) ∨ ∃ x k n, o = some x ∧ r = some n ∧ va x = .int k n := by
  unfold bound at h
  split at h
  · simp at h; exact .inl ⟨rfl, h.symm⟩
  · rename_i x
    split at h
    · rename_i k n hf
      simp at h
      exact .inr ⟨x, k, n, rfl, h.symm, flat_run hev hf⟩
    · cases h

theorem sliceBounds3_run {P : Program} {ρ : Ren} {ev : Operand → AV} {va : Operand → Value} (hev : EvOk ρ ev va) {lo : Option Operand} {hi mx : Operand} {l : Option Int} {k k' : IntKind} {h m : Int} (hl : bound ev lo = some l) (hh : flat (ev hi) = some (.int k h)) (hm : flat (ev mx) = some (.int k' m))
    (len cap : Nat) (hc : (decide (0 ≤ m ∧ m ≤ (cap : Int)) && (decide (0 ≤ h ∧ h ≤ m) && decide (0 ≤ l.getD 0 ∧ l.getD 0 ≤ h))) = true) (w : World) :
    (Instr.sliceBounds true len cap (lo.map va) (some (va hi)) (some (va mx))).run P w = .ok ((l.getD 0).toNat, h.toNat, m.toNat) w := by
  simp only [Bool.and_eq_true, decide_eq_true_eq] at hc
  obtain ⟨⟨h1, h2⟩, ⟨h3, h4⟩, h5, h6⟩ := hc
  have e1 := flat_run hev hh
  have e2 := flat_run hev hm
  have m1 : (m.toNat : Int) = m := Int.toNat_of_nonneg h1
  have m2 : (h.toNat : Int) = h := Int.toNat_of_nonneg h3
  rcases bound_run hev hl with ⟨rfl, rfl⟩ | ⟨x, k2, n, rfl, rfl, hx⟩
  · simp [Instr.sliceBounds, Instr.sliceBound, e1, e2, asIntOf, h1, h2, h3, h4, m1]
  · simp only [Option.getD_some] at h5 h6
    simp [Instr.sliceBounds, Instr.sliceBound, e1, e2, hx, asIntOf, h1, h2, h3, h4, h5, h6, m1, m2]

theorem sliceBounds_run {P : Program} {ρ : Ren} {ev : Operand → AV} {va : Operand → Value} (hev : EvOk ρ ev va) {lo hi : Option Operand} {l h : Option Int} (hl : bound ev lo = some l) (hh : bound ev hi = some h)
    (isSlice : Bool) (len cap : Nat) (hc : (decide (0 ≤ h.getD len ∧ h.getD len ≤ (cap : Int)) && decide (0 ≤ l.getD 0 ∧ l.getD 0 ≤ h.getD len)) = true) (w : World) :
    (Instr.sliceBounds isSlice len cap (lo.map va) (hi.map va) none).run P w = .ok ((l.getD 0).toNat, (h.getD len).toNat, cap) w := by
  simp only [Bool.and_eq_true, decide_eq_true_eq] at hc
  obtain ⟨⟨h1, h2⟩, h3, h4⟩ := hc
  rcases bound_run hev hl with ⟨rfl, rfl⟩ | ⟨x, k, n, rfl, rfl, hx⟩ <;> rcases bound_run hev hh with ⟨rfl, rfl⟩ | ⟨y, k', m, rfl, rfl, hy⟩ <;>
    simp only [Option.getD_none, Option.getD_some] at h1 h2 h3 h4 ⊢
  · simp [Instr.sliceBounds]
  · simp [Instr.sliceBounds, Instr.sliceBound, hy, asIntOf, h1, h2]
  · simp [Instr.sliceBounds, Instr.sliceBound, hx, asIntOf, h3, h4]
  · have e : (m.toNat : Int) = m := Int.toNat_of_nonneg h1
    simp [Instr.sliceBounds, Instr.sliceBound, hx, hy, asIntOf, h1, h2, h3, e, h4]

theorem equalIn_ptr_nil {P : Program} {t u : TypeId} (hu : P.underlying t = some (.pointer u)) (d : Nat) (a : Addr) (w : World) :
    (Op.equalIn (d + 1) t (.pointer (some a)) (.pointer none)).run P w = .ok false w := by
  simp [Op.equalIn, run_underlying hu]

theorem equal_ptr_nil {P : Program} {t u : TypeId} (hu : P.underlying t = some (.pointer u)) (a : Addr) (w : World) :
    (Op.equal t (.pointer (some a)) (.pointer none)).run P w = .ok false w := equalIn_ptr_nil hu 9999 a w

theorem equalIn_slc_nil {P : Program} {t u : TypeId} (hu : P.underlying t = some (.slice u)) (d : Nat) (a : Addr) (n c m k : Nat) (w : World) :
    (Op.equalIn (d + 1) t (.slice (some a) n c) (.slice none m k)).run P w = .ok false w := by
  simp [Op.equalIn, run_underlying hu]

theorem equal_slc_nil {P : Program} {t u : TypeId} (hu : P.underlying t = some (.slice u)) (a : Addr) (n c m k : Nat) (w : World) :
    (Op.equal t (.slice (some a) n c) (.slice none m k)).run P w = .ok false w := equalIn_slc_nil hu 9999 a n c m k w

theorem opPure_run {P : Program} {E : Env} (hE : E.eqOk P) {ρ : Ren} {ev : Operand → AV} {va : Operand → Value} (hev : EvOk ρ ev va) {o : Oper} {c : Bool} {r : AV}
    (h : opPure P E ev o.op = some (c, r)) (hc : c = true) (w : World) : ∃ v, (execOp va o).run P w = .ok (.value v) w ∧ Rv ρ r v := by
  obtain ⟨dst, op, type, pos, after, guard⟩ := o
  simp only at h
  subst hc
  cases op with
  | move x => simp [opPure] at h; subst h; exact ⟨va x, by simp [execOp], hev x⟩
  | assign x => simp [opPure] at h; subst h; exact ⟨va x, by simp [execOp], hev x⟩
  | pick c a b =>
    simp only [opPure] at h
    split at h
    · rename_i hc; simp at h; subst h
      have := hev c; rw [hc] at this; cases hv : va c <;> rw [hv] at this <;> cases this
      exact ⟨va a, by simp [execOp, hv, asBool], hev a⟩
    · rename_i hc; simp at h; subst h
      have := hev c; rw [hc] at this; cases hv : va c <;> rw [hv] at this <;> cases this
      exact ⟨va b, by simp [execOp, hv, asBool], hev b⟩
    · rename_i c' hc
      split at h
      · rename_i z hz; simp at h; subst h
        have := hev c; rw [hc] at this; cases hv : va c <;> rw [hv] at this <;> cases this
        refine ⟨if c' then va a else va b, ?_, choose2_spec (hev a) (hev b) hz⟩
        simp [execOp, hv, asBool]
      · have := hev c; rw [hc] at this; cases hv : va c <;> rw [hv] at this <;> cases this
        split at h
        · simp at h; subst h; exact ⟨va a, by simp [execOp, hv, asBool], hev a⟩
        · simp at h; subst h; exact ⟨va b, by simp [execOp, hv, asBool], hev b⟩
    · cases h
  | nilCheck x =>
    simp only [opPure] at h
    split at h
    · rename_i id off hx; simp at h; subst h
      have := hev x; rw [hx] at this
      generalize hv : va x = v at this
      cases this with | ptr hb => exact ⟨_, by simp [execOp, hv], .ptr hb⟩
    · rename_i a hx; simp at h; subst h
      have := hev x; rw [hx] at this
      generalize hv : va x = v at this
      cases this; exact ⟨_, by simp [execOp, hv], .v _⟩
    · rename_i f as bs hx; simp at h; subst h
      have := hev x; rw [hx] at this
      obtain ⟨xs, ys, hv, h1, h2⟩ := this.fn_iff
      exact ⟨.func (.func f) xs ys, by simp [execOp, hv], by have := Rv.fn_mk (f := .func f) h1 h2; simpa using this⟩
    · cases h
  | binOp op t x y yt =>
    have gen : ∀ z, binF P E op t x y (ev x) (ev y) = some (true, z) → r = z → ∃ v, (execOp va { dst, op := .binOp op t x y yt, type, pos, after, guard }).run P w = .ok (.value v) w ∧ Rv ρ r v := by
      intro z hz hr
      subst hr
      obtain ⟨v, h1, h2⟩ := binF_run hE (hev x) (hev y) hz w
      refine ⟨v, ?_, h2⟩
      show ((do eqGuard op t x y (va x) (va y); binOp op t (va x) (va y) : Sem Value) >>= fun r => pure (Next.value r)).run P w = _
      rw [Sem.run_bind, h1]
      simp
    simp only [opPure] at h
    split at h
    · rename_i id off hx hy
      have hyv : va y = .pointer none := by have := hev y; rw [hy] at this; generalize va y = v at this; cases this; rfl
      split at h
      · rename_i u hu; simp at h; subst h
        have := hev x; rw [hx] at this
        generalize hv : va x = v at this
        cases this
        refine ⟨.bool false, ?_, .lit _⟩
        simp [execOp, hv, hyv, eqGuard, binOp, equal_ptr_nil hu]
      · rename_i u hu; simp at h; subst h
        have := hev x; rw [hx] at this
        generalize hv : va x = v at this
        cases this
        refine ⟨.bool true, ?_, .lit _⟩
        simp [execOp, hv, hyv, eqGuard, binOp, equal_ptr_nil hu]
      · cases h
    · rename_i hx hy
      split at h
      · rename_i u hu; simp at h; subst h
        have h1 := hev x; rw [hx] at h1
        have h2 := hev y; rw [hy] at h2
        generalize hv : va x = v at h1
        generalize hyv : va y = v' at h2
        cases h1
        cases h2
        refine ⟨.bool false, ?_, .lit _⟩
        simp [execOp, hv, hyv, eqGuard, binOp, equal_slc_nil hu]
      · rename_i u hu; simp at h; subst h
        have h1 := hev x; rw [hx] at h1
        have h2 := hev y; rw [hy] at h2
        generalize hv : va x = v at h1
        generalize hyv : va y = v' at h2
        cases h1
        cases h2
        refine ⟨.bool true, ?_, .lit _⟩
        simp [execOp, hv, hyv, eqGuard, binOp, equal_slc_nil hu]
      · cases h
    · rename_i hx hy
      split at h
      · rename_i u hu; simp at h; subst h
        have h1 := hev x; rw [hx] at h1
        have h2 := hev y; rw [hy] at h2
        generalize hv : va x = v at h1
        generalize hyv : va y = v' at h2
        cases h1 <;> cases h2
        all_goals
          refine ⟨.bool false, ?_, .lit _⟩
          simp [execOp, hv, hyv, eqGuard, binOp, equal_slc_nil hu]
      · rename_i u hu; simp at h; subst h
        have h1 := hev x; rw [hx] at h1
        have h2 := hev y; rw [hy] at h2
        generalize hv : va x = v at h1
        generalize hyv : va y = v' at h2
        cases h1 <;> cases h2
        all_goals
          refine ⟨.bool true, ?_, .lit _⟩
          simp [execOp, hv, hyv, eqGuard, binOp, equal_slc_nil hu]
      · cases h
    · exact gen _ h rfl
  | unOp op t x =>
    simp only [opPure] at h
    split at h
    · rename_i u hu
      have hux := (hev x).toU hu
      split at h
      · simp at h; subst h
        refine ⟨uval (~~~u), ?_, .u _⟩
        have hm : IntKind.u64.max = ((BitVec.allOnes 64).toNat : Int) := by rfl
        have : Op.unary .xor (va x) = pure (uval (~~~u)) := by
          rw [hux]
          show Op.intBits .xor .u64 IntKind.u64.max (u.toNat : Int) = _
          rw [hm]
          exact intBits_u64 .xor _ u _ (.inr (.inr (.inl ⟨rfl, by rw [BitVec.allOnes_xor]⟩)))
        simp [execOp, this]
      · simp at h; subst h
        refine ⟨uval (0#64 - u), ?_, .u _⟩
        have : Op.unary .neg (va x) = pure (uval (0#64 - u)) := by
          rw [hux]
          simp only [uval, Op.unary, Op.intArith]
          refine congrArg (fun z => (pure (Value.int .u64 z) : Sem Value)) ?_
          rw [wrap_u64, BitVec.toNat_sub]
          have := u.isLt
          simp; omega
        simp [execOp, this]
      · cases h
    · split at h
      · rename_i a hx
        split at h
        · rename_i z hz; simp at h; subst h
          refine ⟨z, ?_, .v z⟩
          rw [← flat_run hev hx] at hz
          simp [execOp, pureRun_run hz w]
        · cases h
      · cases h
  | convert s d x =>
    simp only [opPure] at h
    split at h
    · rename_i u hu
      have hux := (hev x).toU hu
      split at h
      · rename_i k hs hd; simp at h; subst h
        refine ⟨uval u, ?_, .u _⟩
        have : (convert s d (va x)).run P w = .ok (uval u) w := by
          rw [hux]
          simp only [convert, Sem.run_bind, run_underlying hs, run_underlying hd, Result.andThen_ok, uval, Conv.intToInt]
          rw [show IntKind.u64.wrap (Int.ofNat u.toNat) = Int.ofNat u.toNat from back_u64 u]; rfl
        simp [execOp, this]
      · rename_i k k' hk' hs hd; simp at h; subst h
        refine ⟨_, ?_, .v _⟩
        have : (convert s d (va x)).run P w = .ok (.int k' (k'.wrap (Int.ofNat u.toNat))) w := by
          rw [hux]
          simp only [convert, Sem.run_bind, run_underlying hs, run_underlying hd, Result.andThen_ok, uval, Conv.intToInt]; rfl
        simp [execOp, this]
      · cases h
    · split at h
      · rename_i a hx
        split at h
        · rename_i k k' n hs hd; simp at h; subst h
          refine ⟨uval (BitVec.ofInt 64 n), ?_, .u _⟩
          have : (convert s d (va x)).run P w = .ok (uval (BitVec.ofInt 64 n)) w := by
            rw [flat_run hev hx]
            simp only [convert, Sem.run_bind, run_underlying hs, run_underlying hd, Result.andThen_ok, uval, Conv.intToInt]
            have : IntKind.u64.wrap n = Int.ofNat (BitVec.ofInt 64 n).toNat := by
              rw [wrap_u64]; simp [BitVec.toNat_ofInt]; omega
            rw [this]; rfl
          simp [execOp, this]
        · split at h
          · rename_i z hz; simp at h; subst h
            refine ⟨z, ?_, .v z⟩
            rw [← flat_run hev hx] at hz
            simp [execOp, pureRun_run hz w]
          · cases h
      · cases h
  | makeInterface t x =>
    simp only [opPure] at h
    split at h
    · cases h
    · rename_i d hd hu; simp at h; subst h
      refine ⟨.iface t (va x), ?_, .ifc (hev x)⟩
      simp only [execOp, Instr.makeInterface, Sem.run_bind, run_underlying hu, Result.andThen_ok]
      simp
    · cases h
  | makeFunc f as bs =>
    simp only [opPure] at h; simp at h; subst h
    refine ⟨.func f (as.map va) (bs.map va), by simp [execOp, Instr.makeFunc], ?_⟩
    have := Rv.fn_mk (f := f) (Rvs.maps hev as.toList) (Rvs.maps hev bs.toList)
    have e : ∀ l : Array Operand, l.map va = (l.toList.map va).toArray := fun l => by apply Array.ext'; simp
    rw [e as, e bs]
    exact this
  | sliceToArrayPointer t x =>
    simp only [opPure] at h
    split at h
    · rename_i n el id off len cap hu hx
      simp only [Option.some.injEq, Prod.mk.injEq] at h
      obtain ⟨h1, rfl⟩ := h
      have h1 := of_decide_eq_true h1
      have := hev x; rw [hx] at this
      generalize hv : va x = v at this
      cases this with
      | slc hb =>
        refine ⟨.pointer (some ⟨_, ρ.base id + off, none⟩), ?_, .ptr hb⟩
        have h1' : ¬ len < n := by omega
        simp [execOp, Instr.arrayAt, hv, run_underlying hu, h1']
    · cases h
  | fieldAddr s x f =>
    simp only [opPure] at h
    split at h
    · rename_i fs id off hu hx
      split at h
      · rename_i fl hfl
        split at h
        · rename_i n hn; simp at h; subst h
          have := hev x; rw [hx] at this
          generalize hv : va x = v at this
          cases this with
          | ptr hb =>
            refine ⟨.pointer (some ⟨_, ρ.base id + (off + fl.offset), none⟩), ?_, .ptr hb⟩
            rw [← Nat.add_assoc]
            have hfl' : fs[f]? = some fl := by simpa using hfl
            simp only [execOp, Instr.fieldAt, hv, Sem.run_bind, run_underlying hu, Result.andThen_ok, hfl', Instr.sureAddr, Sem.run_pure, fieldPlace, run_sizeOf hn]
            simp [Addr.add_none]
        · cases h
      · cases h
    · cases h
  | indexAddr t x ix =>
    simp only [opPure] at h
    split at h
    · rename_i k i hi
      have hiv := flat_run hev hi
      split at h
      · rename_i len el id off hu hx
        split at h
        · rename_i n hn; simp only [Option.some.injEq, Prod.mk.injEq] at h
          obtain ⟨h1, rfl⟩ := h
          have h1 := of_decide_eq_true h1
          have := hev x; rw [hx] at this
          generalize hv : va x = v at this
          cases this with
          | ptr hb =>
            refine ⟨.pointer (some ⟨_, ρ.base id + (off + i.toNat * n), none⟩), ?_, .ptr hb⟩
            rw [← Nat.add_assoc]
            simp [execOp, Instr.indexAt, hv, hiv, asIntOf, run_underlying hu, Instr.sureAddr, run_sizeOf hn, h1, Addr.add_none]
        · cases h
      · rename_i len el g off hu hx
        split at h
        · rename_i n hn; simp only [Option.some.injEq, Prod.mk.injEq] at h
          obtain ⟨h1, rfl⟩ := h
          have h1 := of_decide_eq_true h1
          have := hev x; rw [hx] at this
          generalize hv : va x = v at this
          cases this with
          | v _ =>
            refine ⟨.pointer (some ⟨g, off + i.toNat * n, none⟩), ?_, .v _⟩
            simp [execOp, Instr.indexAt, hv, hiv, asIntOf, run_underlying hu, Instr.sureAddr, run_sizeOf hn, h1, Addr.add_none]
        · cases h
      · rename_i el id off len cap hu hx
        split at h
        · rename_i n hn; simp only [Option.some.injEq, Prod.mk.injEq] at h
          obtain ⟨h1, rfl⟩ := h
          have h1 := of_decide_eq_true h1
          have := hev x; rw [hx] at this
          generalize hv : va x = v at this
          cases this with
          | slc hb =>
            refine ⟨.pointer (some ⟨_, ρ.base id + (off + i.toNat * n), none⟩), ?_, .ptr hb⟩
            rw [← Nat.add_assoc]
            simp [execOp, Instr.indexAt, hv, hiv, asIntOf, run_underlying hu, run_sizeOf hn, h1, Addr.add_none]
        · cases h
      · rename_i el id es k' len hu hx
        split at h
        · rename_i n hn; simp only [Option.some.injEq, Prod.mk.injEq] at h
          obtain ⟨h1, rfl⟩ := h
          have h1 := of_decide_eq_true h1
          have := hev x; rw [hx] at this
          generalize hv : va x = v at this
          cases this with
          | own hb h0 _ _ _ =>
            refine ⟨.pointer (some ⟨_, ρ.base id + (k' * es + i.toNat * n), none⟩), ?_, .ptr hb⟩
            rw [h0, Nat.zero_add]
            simp [execOp, Instr.indexAt, hv, hiv, asIntOf, run_underlying hu, run_sizeOf hn, h1, Addr.add_none]
          | ownE _ _ => exact absurd h1.2 (by omega)
        · cases h
      · cases h
    · cases h
  | field t x f =>
    simp only [opPure] at h
    split at h
    · rename_i fs cs hu hx
      split at h
      · rename_i fl hfl
        split at h
        · rename_i r' hr; simp at h; subst h
          obtain ⟨xs, hv, hxs⟩ := (hev x).aggOf hx
          obtain ⟨v, h1, h2⟩ := partA_run hr hxs w
          refine ⟨v, ?_, h2⟩
          have hfl' : fs[f]? = some fl := by simpa using hfl
          simp [execOp, Instr.field, run_underlying hu, hfl', hv, asAgg, h1]
        · cases h
      · cases h
    · cases h
  | index t x ix =>
    simp only [opPure] at h
    split at h
    · rename_i k i hi
      have hiv := flat_run hev hi
      split at h
      · rename_i len el hu
        split at h
        · rename_i cs hx
          split at h
          · rename_i n hn
            split at h
            · rename_i r' hr; simp only [Option.some.injEq, Prod.mk.injEq] at h
              obtain ⟨h1, rfl⟩ := h
              have h1 := of_decide_eq_true h1
              obtain ⟨xs, hv, hxs⟩ := (hev x).aggOf hx
              obtain ⟨v, h2, h3⟩ := partA_run hr hxs w
              refine ⟨v, ?_, h3⟩
              simp [execOp, Instr.index, run_underlying hu, hv, hiv, asIntOf, run_sizeOf hn, h1, h2]
            · cases h
          · cases h
        · cases h
      · rename_i hu
        split at h
        · rename_i s hx; simp only [Option.some.injEq, Prod.mk.injEq] at h
          obtain ⟨h1, rfl⟩ := h
          have h1 := of_decide_eq_true h1
          obtain ⟨b, hb, hb2⟩ := strAt_run (s := s) (i := i.toNat) (by omega)
          have := hev x; rw [hx] at this
          generalize hv : va x = v at this
          cases this with
          | v =>
            refine ⟨.int .u8 b.toNat, ?_, by rw [hb2]; exact .v _⟩
            simp only [execOp, Instr.index, hv, hiv, asIntOf, Sem.run_bind, Sem.run_pure, Result.andThen_ok, run_underlying hu, if_pos h1.1, hb]
        · cases h
      · cases h
    · cases h
  | extract x i =>
    simp only [opPure] at h
    split at h
    · rename_i cs hx
      split at h
      · rename_i a ha; simp at h; subst h
        have := hev x; rw [hx] at this
        obtain ⟨xs, hv, hxs⟩ := this.tup_iff
        obtain ⟨v, h1, h2⟩ := hxs.getD ha
        have h1' : xs[i]? = some v := by simpa using h1
        exact ⟨v, by simp [execOp, Instr.extract, hv, h1'], h2⟩
      · cases h
    · rename_i vs hx
      split at h
      · rename_i a ha; simp at h; subst h
        have := hev x; rw [hx] at this
        generalize hv : va x = v at this
        cases this
        have ha' : vs[i]? = some a := by simpa using ha
        exact ⟨a, by simp [execOp, Instr.extract, hv, ha'], .v a⟩
      · cases h
    · cases h
  | build t parts =>
    simp only [opPure] at h
    split at h
    · rename_i r' hr; simp at h; subst h
      obtain ⟨v, h1, h2⟩ := buildA_run hev hr w
      refine ⟨v, ?_, h2⟩
      have e : parts.map (fun p : Nat × Operand => (p.1, va p.2)) = (parts.toList.map fun p => (p.1, va p.2)).toArray := by apply Array.ext'; simp
      show ((Instr.build t (parts.map fun p : Nat × Operand => (p.1, va p.2))) >>= fun r => pure (Next.value r)).run P w = _
      rw [Sem.run_bind, e, h1]
      simp
    · cases h
  | slice t x lo hi mx =>
    cases mx with
    | some m =>
      cases hi with
      | none => simp [opPure] at h
      | some hi =>
      simp only [opPure] at h
      split at h
      · rename_i el id off len cap l k1 h' k2 m' hu hx hl hh hm
        split at h
        · rename_i n hn
          simp only [Option.some.injEq, Prod.mk.injEq] at h
          obtain ⟨h1, rfl⟩ := h
          have := hev x; rw [hx] at this
          generalize hv : va x = v at this
          cases this with
          | slc hb =>
            have hs := sliceBounds3_run (P := P) hev hl hh hm len cap h1 w
            refine ⟨.slice (some ⟨_, ρ.base id + (bif Nat.beq m'.toNat (l.getD 0).toNat then off else off + (l.getD 0).toNat * n), none⟩) _ _, ?_, .slc hb⟩
            simp only [execOp, Instr.sliceAt, Instr.slice, Sem.run_bind, run_underlying hu, Result.andThen_ok, hv, Option.map_some, hs, run_sizeOf hn]
            cases hbq : Nat.beq m'.toNat (l.getD 0).toNat with
            | true => simp [Nat.eq_of_beq_eq_true hbq]
            | false =>
              have : m'.toNat ≠ (l.getD 0).toNat := Nat.ne_of_beq_eq_false hbq
              simp [this, Addr.add_none, Nat.add_assoc]
        · cases h
      · rename_i el id es k len l k1 h' k2 m' hu hx hl hh hm
        split at h
        · rename_i n hn
          simp only [Option.some.injEq, Prod.mk.injEq] at h
          obtain ⟨h1, rfl⟩ := h
          rw [Bool.and_eq_true] at h1
          obtain ⟨h1, h7⟩ := h1
          have h7 := of_decide_eq_true h7
          have := hev x; rw [hx] at this
          generalize hv : va x = v at this
          cases this with
          | ownE _ hk => omega
          | @own _ _ _ _ b cap hb h0 hc hle hmx =>
            have h1' : (decide (0 ≤ m' ∧ m' ≤ ((cap - k : Nat) : Int)) && (decide (0 ≤ h' ∧ h' ≤ m') && decide (0 ≤ l.getD 0 ∧ l.getD 0 ≤ h'))) = true := by
              simp only [Bool.and_eq_true, decide_eq_true_eq] at h1 ⊢
              exact ⟨⟨h1.1.1, by omega⟩, h1.2⟩
            have hs := sliceBounds3_run (P := P) hev hl hh hm len (cap - k) h1' w
            refine ⟨.slice (some ⟨b, ρ.base id + (bif Nat.beq m'.toNat (l.getD 0).toNat then k * es else k * es + (l.getD 0).toNat * n), none⟩) _ _, ?_, .slc hb⟩
            rw [h0, Nat.zero_add]
            simp only [execOp, Instr.sliceAt, Instr.slice, Sem.run_bind, run_underlying hu, Result.andThen_ok, hv, Option.map_some, hs, run_sizeOf hn]
            cases hbq : Nat.beq m'.toNat (l.getD 0).toNat with
            | true => simp [Nat.eq_of_beq_eq_true hbq]
            | false =>
              have : m'.toNat ≠ (l.getD 0).toNat := Nat.ne_of_beq_eq_false hbq
              simp [this, Addr.add_none]
        · cases h
      · rename_i el len cap l k1 h' k2 m' hu hx hl hh hm
        split at h
        · rename_i n hn
          simp only [Option.some.injEq, Prod.mk.injEq] at h
          obtain ⟨h1, rfl⟩ := h
          have := hev x; rw [hx] at this
          generalize hv : va x = v at this
          cases this
          have hs := sliceBounds3_run (P := P) hev hl hh hm len cap h1 w
          refine ⟨_, ?_, .v _⟩
          simp only [execOp, Instr.sliceAt, Instr.slice, Sem.run_bind, run_underlying hu, Result.andThen_ok, hv, Option.map_some, hs, run_sizeOf hn]
          simp
        · cases h
      · cases h
    | none =>
      simp only [opPure] at h
      split at h
      · rename_i len el id off l h' hu hx hl hh
        split at h
        · rename_i n hn
          simp only [Option.some.injEq, Prod.mk.injEq] at h
          obtain ⟨h1, rfl⟩ := h
          have := hev x; rw [hx] at this
          generalize hv : va x = v at this
          cases this with
          | ptr hb =>
            have hs := sliceBounds_run (P := P) hev hl hh false len len h1 w
            refine ⟨.slice (some ⟨_, ρ.base id + (bif Nat.beq len (l.getD 0).toNat then off else off + (l.getD 0).toNat * n), none⟩) _ _, ?_, .slc hb⟩
            simp only [execOp, Instr.sliceAt, Sem.run_bind, run_underlying hu, Result.andThen_ok, hv, Instr.sureAddr, Sem.run_pure, Option.map_none, hs, run_sizeOf hn]
            cases hbq : Nat.beq len (l.getD 0).toNat with
            | true => simp [Nat.eq_of_beq_eq_true hbq]
            | false =>
              have : len ≠ (l.getD 0).toNat := Nat.ne_of_beq_eq_false hbq
              simp [this, Addr.add_none, Nat.add_assoc]
        · cases h
      · rename_i el id off len cap l h' hu hx hl hh
        split at h
        · rename_i n hn
          simp only [Option.some.injEq, Prod.mk.injEq] at h
          obtain ⟨h1, rfl⟩ := h
          have := hev x; rw [hx] at this
          generalize hv : va x = v at this
          cases this with
          | slc hb =>
            have hs := sliceBounds_run (P := P) hev hl hh true len cap h1 w
            refine ⟨.slice (some ⟨_, ρ.base id + (bif Nat.beq cap (l.getD 0).toNat then off else off + (l.getD 0).toNat * n), none⟩) _ _, ?_, .slc hb⟩
            simp only [execOp, Instr.sliceAt, Instr.slice, Sem.run_bind, run_underlying hu, Result.andThen_ok, hv, Option.map_none, hs, run_sizeOf hn]
            cases hbq : Nat.beq cap (l.getD 0).toNat with
            | true => simp [Nat.eq_of_beq_eq_true hbq]
            | false =>
              have : cap ≠ (l.getD 0).toNat := Nat.ne_of_beq_eq_false hbq
              simp [this, Addr.add_none, Nat.add_assoc]
        · cases h
      · rename_i el id es k len l h' hu hx hl hh
        split at h
        · rename_i n hn
          simp only [Option.some.injEq, Prod.mk.injEq, Bool.and_eq_true, decide_eq_true_eq] at h
          obtain ⟨⟨⟨⟨p1, p2⟩, p3, p4⟩, p6⟩, rfl⟩ := h
          have p6 := Nat.eq_of_beq_eq_true p6
          subst p6
          have := hev x; rw [hx] at this
          generalize hv : va x = v at this
          cases this with
          | @own _ _ _ _ b cap hb h0 hc hle hm =>
            have h1 : (decide (0 ≤ h'.getD len ∧ h'.getD len ≤ ((cap - k : Nat) : Int)) && decide (0 ≤ l.getD 0 ∧ l.getD 0 ≤ h'.getD len)) = true := by
              simp only [Bool.and_eq_true, decide_eq_true_eq]
              exact ⟨⟨p1, by omega⟩, p3, p4⟩
            have hs := sliceBounds_run (P := P) hev hl hh true len (cap - k) h1 w
            have hk : k + (l.getD 0).toNat + ((h'.getD len).toNat - (l.getD 0).toNat) ≤ cap := by omega
            have e1 : cap - k - (l.getD 0).toNat = cap - (k + (l.getD 0).toNat) := by omega
            by_cases p5 : l.getD 0 = 0 ∨ l.getD 0 < (len : Int)
            · have hown := Rv.own (ρ := ρ) (es := n) (k := k + (l.getD 0).toNat) (len := (h'.getD len).toNat - (l.getD 0).toNat) hb h0 hc hk hm
              refine ⟨_, ?_, hown⟩
              simp only [execOp, Instr.sliceAt, Instr.slice, Sem.run_bind, run_underlying hu, Result.andThen_ok, hv, Option.map_none, hs, run_sizeOf hn]
              by_cases hz : cap - k = (l.getD 0).toNat
              · have hl0 : (l.getD 0).toNat = 0 := by omega
                rw [hl0] at hz ⊢
                simp [hz]
              · simp [hz, Addr.add_none, Nat.add_mul, e1]
            · have hz0 : (h'.getD len).toNat - (l.getD 0).toNat = 0 := by omega
              rw [hz0]
              refine ⟨.slice (some ⟨b, bif Nat.beq (cap - k) (l.getD 0).toNat then k * n else k * n + (l.getD 0).toNat * n, none⟩) 0 (cap - k - (l.getD 0).toNat), ?_, .ownE hb (by omega)⟩
              simp only [execOp, Instr.sliceAt, Instr.slice, Sem.run_bind, run_underlying hu, Result.andThen_ok, hv, Option.map_none, hs, run_sizeOf hn]
              cases hbq : Nat.beq (cap - k) (l.getD 0).toNat with
              | true => simp [Nat.eq_of_beq_eq_true hbq, hz0]
              | false =>
                have : cap - k ≠ (l.getD 0).toNat := Nat.ne_of_beq_eq_false hbq
                simp [this, Addr.add_none, hz0]
          | @ownE _ _ _ b j cap hb hk =>
            have h1 : (decide (0 ≤ h'.getD (0 : Nat) ∧ h'.getD (0 : Nat) ≤ (cap : Int)) && decide (0 ≤ l.getD 0 ∧ l.getD 0 ≤ h'.getD (0 : Nat))) = true := by
              simp only [Bool.and_eq_true, decide_eq_true_eq]
              exact ⟨⟨p1, by omega⟩, p3, p4⟩
            have hs := sliceBounds_run (P := P) hev hl hh true 0 cap h1 w
            have hz0 : (h'.getD (0 : Nat)).toNat - (l.getD 0).toNat = 0 := by omega
            have hl0 : (l.getD 0).toNat = 0 := by omega
            rw [hz0]
            refine ⟨.slice (some ⟨b, j, none⟩) 0 cap, ?_, .ownE hb (by omega)⟩
            simp only [execOp, Instr.sliceAt, Instr.slice, Sem.run_bind, run_underlying hu, Result.andThen_ok, hv, Option.map_none, hs, run_sizeOf hn]
            rw [hz0, hl0]
            by_cases hz : cap = 0 <;> simp [hz, Addr.add_none]
        · cases h
      · rename_i el len cap l h' hu hx hl hh
        split at h
        · rename_i n hn
          simp only [Option.some.injEq, Prod.mk.injEq] at h
          obtain ⟨h1, rfl⟩ := h
          have := hev x; rw [hx] at this
          generalize hv : va x = v at this
          cases this
          have hs := sliceBounds_run (P := P) hev hl hh true len cap h1 w
          refine ⟨_, ?_, .v _⟩
          simp only [execOp, Instr.sliceAt, Instr.slice, Sem.run_bind, run_underlying hu, Result.andThen_ok, hv, Option.map_none, hs, run_sizeOf hn]
          simp
        · cases h
      · cases h
  | _ => simp [opPure] at h

end Go.Rq
