/- Operations, reckoned by small steps: what they come to is what the abstract machine's come to. -/
import Derived.Test.YtbamkkbefjgeoaaGreatRq13
namespace Go.Rq
open Go

/-! Integers. -/
noncomputable def wrapF (k : IntKind) (z : Int) : Int := match k with
  | .u8 => Int.emod z (.ofNat 256)
  | .u16 => Int.emod z (.ofNat 65536)
  | .u32 => Int.emod z (.ofNat 4294967296)
  | .u64 => Int.emod z (.ofNat 18446744073709551616)
  | .i64 => match z with
    | .ofNat n => cond (Nat.blt n 9223372036854775808) (.ofNat n) (IntKind.i64.wrap (.ofNat n))
    | .negSucc n => cond (Nat.blt n 9223372036854775808) (.negSucc n) (IntKind.i64.wrap (.negSucc n))
  | k => k.wrap z
theorem blt_lt {n m : Nat} (h : Nat.blt n m = true) : n < m := Nat.le_of_ble_eq_true h
theorem wrap_idF {n : Int} (h0 : -9223372036854775808 ≤ n) (h1 : n < 9223372036854775808) : IntKind.i64.wrap n = n := by
  simp [IntKind.wrap, IntKind.bits, IntKind.signed]
  split <;> omega
theorem wrapF_eq (k : IntKind) (z : Int) : wrapF k z = k.wrap z := by
  cases k with
  | u8 => simp [wrapF, IntKind.wrap, IntKind.bits, IntKind.signed]; rfl
  | u16 => simp [wrapF, IntKind.wrap, IntKind.bits, IntKind.signed]; rfl
  | u32 => simp [wrapF, IntKind.wrap, IntKind.bits, IntKind.signed]; rfl
  | u64 => simp [wrapF, IntKind.wrap, IntKind.bits, IntKind.signed]; rfl
  | i64 =>
    simp only [wrapF]
    split
    · rename_i n
      cases hb : Nat.blt n 9223372036854775808 with
      | false => rw [cond_false]
      | true =>
        have := blt_lt hb
        rw [cond_true]
        exact (wrap_idF (n := (n : Int)) (by omega) (by omega)).symm
    · rename_i n
      cases hb : Nat.blt n 9223372036854775808 with
      | false => rw [cond_false]
      | true =>
        have := blt_lt hb
        rw [cond_true]
        exact (wrap_idF (by omega) (by omega)).symm
  | _ => rfl

def iEq : Int → Int → Bool
  | .ofNat a, .ofNat b => Nat.beq a b
  | .negSucc a, .negSucc b => Nat.beq a b
  | _, _ => false
def iLt : Int → Int → Bool
  | .ofNat a, .ofNat b => Nat.blt a b
  | .negSucc _, .ofNat _ => true
  | .ofNat _, .negSucc _ => false
  | .negSucc a, .negSucc b => Nat.blt b a
theorem iEq_eq (m n : Int) : iEq m n = (m == n) := by
  cases hb : iEq m n with
  | true =>
    unfold iEq at hb
    split at hb
    · rw [(beq_iff _ _).1 hb]; simp
    · rw [(beq_iff _ _).1 hb]; simp
    · cases hb
  | false =>
    unfold iEq at hb
    split at hb
    · have := beq_off.1 hb
      symm; simp; omega
    · have := beq_off.1 hb
      symm; simp; omega
    · symm
      cases m with
      | ofNat a => cases n with
        | ofNat b => rename_i h1 h2; exact absurd rfl (h1 a b rfl)
        | negSucc b => rfl
      | negSucc a => cases n with
        | ofNat b => rfl
        | negSucc b => rename_i h1 h2; exact absurd rfl (h2 a b rfl)
theorem blt_dec (a b : Nat) : Nat.blt a b = decide (a < b) := by
  cases hb : Nat.blt a b with
  | true => simp [blt_lt hb]
  | false =>
    symm; simp
    rcases Nat.lt_or_ge a b with h | h
    · rw [show Nat.blt a b = true from Nat.ble_eq_true_of_le h] at hb; cases hb
    · exact h
theorem iLt_eq (m n : Int) : iLt m n = decide (m < n) := by
  cases m with
  | ofNat a => cases n with
    | ofNat b => simp only [iLt, blt_dec]; congr 1; apply propext; exact Int.ofNat_lt.symm
    | negSucc b => simp only [iLt]; symm; simp; omega
  | negSucc a => cases n with
    | ofNat b => simp only [iLt]; symm; simp; omega
    | negSucc b => simp only [iLt, blt_dec]; congr 1; apply propext; constructor <;> intro h <;> omega

/-- Two to the width of a kind without a sign. -/
def uMod : IntKind → Option Nat
  | .u8 => some 256
  | .u16 => some 65536
  | .u32 => some 4294967296
  | .u64 => some 18446744073709551616
  | _ => none
theorem uMod_eq {k : IntKind} {M : Nat} (h : uMod k = some M) : M = 2 ^ k.bits ∧ k.signed = false := by
  cases k <;> simp [uMod] at h <;> subst h <;> exact ⟨rfl, rfl⟩
theorem wrap_nat {k : IntKind} {M : Nat} (h : uMod k = some M) (a : Nat) : k.wrap (a : Int) = ((a % M : Nat) : Int) := by
  obtain ⟨h1, h2⟩ := uMod_eq h
  subst h1
  simp [IntKind.wrap, h2]
def bitF (op : BinOp) (M a b : Nat) : Option Nat := match op with
  | .and => some (Nat.land (Nat.mod a M) (Nat.mod b M))
  | .or => some (Nat.lor (Nat.mod a M) (Nat.mod b M))
  | .xor => some (Nat.xor (Nat.mod a M) (Nat.mod b M))
  | _ => none

def bitsVv (op : BinOp) (k : IntKind) (m n : Int) : Option Value := match m, n, uMod k with
  | .ofNat a, .ofNat b, some M => match bitF op M a b with
    | some r => some (.int k (.ofNat r))
    | none => none
  | _, _, _ => none
noncomputable def intF (op : BinOp) (k : IntKind) (m n : Int) : Option Value := match op with
  | .add => some (.int k (wrapF k (Int.add m n)))
  | .sub => some (.int k (wrapF k (Int.sub m n)))
  | .mul => some (.int k (wrapF k (Int.mul m n)))
  | .eql => some (.bool (iEq m n))
  | .neq => some (.bool (not (iEq m n)))
  | .lss => some (.bool (iLt m n))
  | .leq => some (.bool (not (iLt n m)))
  | .gtr => some (.bool (iLt n m))
  | .geq => some (.bool (not (iLt m n)))
  | .quo => match m, n with
    | .ofNat a, .ofNat (b + 1) => some (.int k (wrapF k (.ofNat (Nat.div a (b + 1)))))
    | _, _ => none
  | .rem => match m, n with
    | .ofNat a, .ofNat (b + 1) => some (.int k (.ofNat (Nat.mod a (b + 1))))
    | _, _ => none
  | op => bitsVv op k m n

theorem ofInt_nat (w a : Nat) : (BitVec.ofInt w (Int.ofNat a)).toNat = a % 2 ^ w := by
  simp [BitVec.ofInt_natCast]

theorem intF_run {P : Program} {op : BinOp} {t : TypeId} {x y : Operand} {k : IntKind} {m n : Int} {r : Value} (h : intF op k m n = some r) :
    pureRun P (do eqGuard op t x y (.int k m) (.int k n); binOp op t (.int k m) (.int k n)) = some r := by
  have hg : (do eqGuard op t x y (.int k m) (.int k n); binOp op t (.int k m) (.int k n) : Sem Value) = binOp op t (.int k m) (.int k n) := by cases op <;> rfl
  rw [hg]
  have bits : ∀ {a b M q : Nat}, uMod k = some M → bitF op M a b = some q → pureRun P (Op.intBits op k (Int.ofNat a) (Int.ofNat b)) = some (.int k (.ofNat q)) := by
    intro a b M q hM hq
    obtain ⟨h1, h2⟩ := uMod_eq hM
    have hlt : ∀ c, c % M < M := fun c => Nat.mod_lt _ (by rw [h1]; exact Nat.two_pow_pos _)
    cases op <;> simp only [bitF, Option.some.injEq, reduceCtorEq] at hq <;> subst hq <;> simp only [Op.intBits]
    · show some (Value.int k (k.wrap ((BitVec.ofInt k.bits (Int.ofNat a) &&& BitVec.ofInt k.bits (Int.ofNat b)).toNat : Int))) = _
      rw [wrap_nat hM, Nat.mod_eq_of_lt (by rw [h1]; exact BitVec.isLt _), BitVec.toNat_and, ofInt_nat, ofInt_nat, ← h1]
      rfl
    · show some (Value.int k (k.wrap ((BitVec.ofInt k.bits (Int.ofNat a) ||| BitVec.ofInt k.bits (Int.ofNat b)).toNat : Int))) = _
      rw [wrap_nat hM, Nat.mod_eq_of_lt (by rw [h1]; exact BitVec.isLt _), BitVec.toNat_or, ofInt_nat, ofInt_nat, ← h1]
      rfl
    · show some (Value.int k (k.wrap ((BitVec.ofInt k.bits (Int.ofNat a) ^^^ BitVec.ofInt k.bits (Int.ofNat b)).toNat : Int))) = _
      rw [wrap_nat hM, Nat.mod_eq_of_lt (by rw [h1]; exact BitVec.isLt _), BitVec.toNat_xor, ofInt_nat, ofInt_nat, ← h1]
      rfl
  have rest : (∀ a b, binOp op t (.int k a) (.int k b) = Op.intBits op k a b) → bitsVv op k m n = some r → pureRun P (binOp op t (.int k m) (.int k n)) = some r := by
    intro hb h2
    clear h hg
    rw [hb]
    cases m with
    | negSucc a => cases h2
    | ofNat a => cases n with
      | negSucc b => cases h2
      | ofNat b =>
        simp only [bitsVv] at h2
        cases hM : uMod k with
        | none => rw [hM] at h2; cases h2
        | some M =>
          rw [hM] at h2
          simp only at h2
          split at h2
          · rename_i q hq
            simp only [Option.some.injEq] at h2; subst h2
            exact bits hM hq
          · cases h2
  cases op with
  | add => simp only [intF, Option.some.injEq] at h; subst h; simp only [binOp, ne_eq, not_true, if_false, Op.intArith, wrapF_eq]; rfl
  | sub => simp only [intF, Option.some.injEq] at h; subst h; simp only [binOp, ne_eq, not_true, if_false, Op.intArith, wrapF_eq]; rfl
  | mul => simp only [intF, Option.some.injEq] at h; subst h; simp only [binOp, ne_eq, not_true, if_false, Op.intArith, wrapF_eq]; rfl
  | eql => simp only [intF, Option.some.injEq] at h; subst h; simp only [binOp, ne_eq, not_true, if_false, Op.intCmp, iEq_eq]; rfl
  | neq => simp only [intF, Option.some.injEq] at h; subst h; simp only [binOp, ne_eq, not_true, if_false, Op.intCmp, iEq_eq]; rfl
  | lss => simp only [intF, Option.some.injEq] at h; subst h; simp only [binOp, ne_eq, not_true, if_false, Op.intCmp, iLt_eq]; rfl
  | gtr => simp only [intF, Option.some.injEq] at h; subst h; simp only [binOp, ne_eq, not_true, if_false, Op.intCmp, iLt_eq]; rfl
  | leq =>
    simp only [intF, Option.some.injEq] at h; subst h; simp only [binOp, ne_eq, not_true, if_false, Op.intCmp, iLt_eq]
    refine congrArg (fun b => some (Value.bool b)) ?_
    by_cases hh : n < m
    · simp [hh]
    · simp [hh]; omega
  | geq =>
    simp only [intF, Option.some.injEq] at h; subst h; simp only [binOp, ne_eq, not_true, if_false, Op.intCmp, iLt_eq]
    refine congrArg (fun b => some (Value.bool b)) ?_
    by_cases hh : m < n
    · simp [hh]
    · simp [hh]; omega
  | quo =>
    simp only [intF] at h
    split at h
    · rename_i a b
      simp only [Option.some.injEq] at h; subst h
      simp only [binOp, ne_eq, not_true, if_false, Op.intDiv, wrapF_eq]
      rw [if_neg (by simp; omega)]; rfl
    · cases h
  | rem =>
    simp only [intF] at h
    split at h
    · rename_i a b
      simp only [Option.some.injEq] at h; subst h
      simp only [binOp, ne_eq, not_true, if_false, Op.intDiv]
      rw [if_neg (by simp; omega)]; rfl
    · cases h
  | and => exact rest (fun a b => by simp only [binOp, ne_eq, not_true, if_false]) h
  | or => exact rest (fun a b => by simp only [binOp, ne_eq, not_true, if_false]) h
  | xor => exact rest (fun a b => by simp only [binOp, ne_eq, not_true, if_false]) h
  | andNot => exact rest (fun a b => by simp only [binOp, ne_eq, not_true, if_false]) h
  | shl =>
    simp only [intF, bitsVv] at h
    split at h
    · simp [bitF] at h
    · cases h
  | shr =>
    simp only [intF, bitsVv] at h
    split at h
    · simp [bitF] at h
    · cases h
end Go.Rq

/- Operations, reckoned by small steps: all kinds. -/
namespace Go.Rq
open Go

/-! Two values. -/
def amtF : AV → Option Nat
  | .u y => some y.toNat
  | .v (.int _ (.ofNat n)) => some n
  | _ => none
noncomputable def kNum (k : IntKind) : Nat := IntKind.rec 0 1 2 3 4 5 6 7 k
theorem kNum_inj {k j : IntKind} (h : Nat.beq (kNum k) (kNum j) = true) : k = j := by
  have := (beq_iff _ _).1 h
  cases k <;> cases j <;> first | rfl | (exact absurd this (by decide))
noncomputable def shV (op : BinOp) (k : IntKind) (a n : Nat) : Option (Bool × AV) := match op with
  | .shl => some (true, .v (.int k (wrapF k (.ofNat (Nat.mul a (Nat.pow 2 n))))))
  | .shr => some (true, .v (.int k (.ofNat (Nat.div a (Nat.pow 2 n)))))
  | _ => none
noncomputable def fastSh (op : BinOp) (k : IntKind) (m : Int) (b : AV) : Option (Bool × AV) := match m with
  | .ofNat a => match amtF b with
    | some n => cond (Nat.blt n k.bits) (shV op k a n) none
    | none => none
  | _ => none
noncomputable def fastI (op : BinOp) (k : IntKind) (m : Int) (b : AV) : Option (Bool × AV) := match isShift op with
  | true => fastSh op k m b
  | false => match b with
    | .v (.int j n) => cond (Nat.beq (kNum k) (kNum j)) (match intF op k m n with
      | some r => some (true, .v r)
      | none => none) none
    | _ => none
def fastU (op : BinOp) (x : BitVec 64) (b : AV) : Option (Bool × AV) := match isShift op with
  | true => match amtF b with
    | some n => match ushift op x n with
      | some r => some (true, r)
      | none => none
    | none => none
  | false => match b with
    | .u y => match ubin op x y with
      | some r => some (true, r)
      | none => match udivA op x y with
        | some r => some (!(y == 0#64), r)
        | none => none
    | .bit c => match ubin op x (bitW c) with
      | some r => some (true, r)
      | none => none
    | _ => none
noncomputable def fastBin (op : BinOp) (a b : AV) : Option (Bool × AV) := match a with
  | .v (.int k m) => fastI op k m b
  | .u x => fastU op x b
  | _ => none

theorem amtF_flat {b : AV} {n : Nat} (h : amtF b = some n) : ∃ j, flat b = some (.int j (n : Int)) ∧ toShift b = some (n : Int) := by
  unfold amtF at h
  split at h
  · simp at h; subst h; exact ⟨.u64, rfl, rfl⟩
  · simp at h; subst h; exact ⟨_, rfl, rfl⟩
  · cases h

theorem fastBin_ok {P : Program} {E : Env} {op : BinOp} {t : TypeId} {x y : Operand} {a b : AV} {q : Bool × AV} (h : fastBin op a b = some q) : binF P E op t x y a b = some q := by
  unfold fastBin at h
  split at h
  · rename_i k m
    unfold fastI at h
    split at h
    · rename_i hs
      unfold fastSh at h
      split at h
      · rename_i a
        split at h
        · rename_i n hn
          obtain ⟨hb, h⟩ := cond_some h
          have hb := blt_lt hb
          obtain ⟨j, h1, h2⟩ := amtF_flat hn
          have hmin : Nat.min n k.bits = n := Nat.min_eq_left (Nat.le_of_lt hb)
          have key : ∀ r, pureRun P (do eqGuard op t x y (.int k (Int.ofNat a)) (.int j (n : Int)); binOp op t (.int k (Int.ofNat a)) (.int j (n : Int))) = some r → binF P E op t x y (.v (.int k (Int.ofNat a))) b = some (true, .v r) := by
            intro r hr
            unfold binF
            simp only [hs, Rq.toU]
            unfold binPlain
            simp only [hs, h1, show flat (.v (.int k (Int.ofNat a))) = some (.int k (Int.ofNat a)) from rfl]
            rw [hr]
          cases op <;> simp only [shV, reduceCtorEq, Option.some.injEq] at h
          · subst h
            refine key _ ?_
            show pureRun P (Op.shift .shl k (Int.ofNat a) j (n : Int)) = _
            simp only [Op.shift]
            rw [if_neg (by omega), wrapF_eq]
            show some (Value.int k (k.wrap (Int.ofNat a * 2 ^ Nat.min n k.bits))) = _
            rw [hmin]
            congr 3
            try simp
          · subst h
            refine key _ ?_
            show pureRun P (Op.shift .shr k (Int.ofNat a) j (n : Int)) = _
            simp only [Op.shift]
            rw [if_neg (by omega)]
            show some (Value.int k ((Int.ofNat a).fdiv (2 ^ Nat.min n k.bits))) = _
            rw [hmin]
            congr 2
            have h2 : (2 : Int) ^ n = ((2 ^ n : Nat) : Int) := by simp
            rw [h2, Int.fdiv_eq_ediv_of_nonneg _ (Int.natCast_nonneg _)]
            try rfl
        · cases h
      · cases h
    · rename_i hs
      split at h
      · rename_i j n
        obtain ⟨hk, h⟩ := cond_some h
        obtain rfl : k = j := kNum_inj hk
        clear hk
        split at h
        · rename_i r hr
          simp at h; subst h
          unfold binF
          simp only [hs, Rq.toU]
          unfold binPlain
          simp only [hs, Rq.toU, Rq.aggOf, show ∀ z, flat (.v (.int k z)) = some (.int k z) from fun _ => rfl]
          rw [intF_run hr]
        · exact absurd h (by simp)
      · cases h
  · rename_i u
    unfold fastU at h
    split at h
    · rename_i hs
      split at h
      · rename_i n hn
        obtain ⟨j, h1, h2⟩ := amtF_flat hn
        split at h
        · rename_i r hr
          simp at h; subst h
          unfold binF
          simp only [hs, Rq.toU, h2, Int.toNat_natCast, hr]
          rw [show decide ((0 : Int) ≤ (n : Int)) = true by simp]
        · cases h
      · cases h
    · rename_i hs
      split at h
      · rename_i v
        have hu : ∀ r, ubin op u v = some r → binPlain P E op t x y (.u u) (.u v) = some r := by
          intro r hr
          unfold binPlain
          simp only [hs, Rq.toU, ubinB, hr]
        split at h
        · rename_i r hr
          simp at h; subst h
          unfold binF
          simp only [hs, hu r hr]
        · rename_i hn
          split at h
          · rename_i r hr
            simp at h; subst h
            have : binPlain P E op t x y (.u u) (.u v) = none := by
              unfold binPlain
              simp only [hs, Rq.toU, ubinB, hn]
            unfold binF
            simp only [hs, this, Rq.toU, hr]
          · cases h
      · rename_i v
        split at h
        · rename_i r hr
          simp at h; subst h
          have : binPlain P E op t x y (.u u) (.bit v) = some r := by
            unfold binPlain
            simp only [hs, Rq.toU, ubinB, hr]
          unfold binF
          simp only [hs, this]
        · cases h
      · cases h
  · cases h

/-! All kinds. -/
noncomputable def oOr (r : Option (Bool × AV)) (s : Option (Bool × AV × AH)) : Option (Bool × AV × AH) := match r with
  | some (c, r) => some (c, r, [])
  | none => s
noncomputable def oP (r : Option (Bool × AV)) : Option (Bool × AV × AH) := match r with
  | some (c, r) => some (c, r, [])
  | none => none
noncomputable def oLd (r : Option (Bool × AV)) : Option (Bool × AV × AH) := match r with
  | some (c, r) => some (c, r, [])
  | none => none
noncomputable def oLoad (P : Program) (E : Env) (h : AH) (t : TypeId) (a : AV) (s : Option (Bool × AV × AH)) : Option (Bool × AV × AH) := match a with
  | .ptr i off => match h.getC i with
    | some B => oLd (loadE P E.wide t B.cs off)
    | none => none
  | _ => s
noncomputable def oSt (i : Nat) (B : Blk) (cs : Option (Bool × List AV)) : Option (Bool × AV × AH) := match cs with
  | some (c, cs) => some (c, .v undef, [(i, some ⟨true, B.ty, cs⟩)])
  | none => none
noncomputable def oStore (P : Program) (E : Env) (h : AH) (t : TypeId) (a x : AV) : Option (Bool × AV × AH) := match a with
  | .ptr i off => match h.getC i with
    | some B => match B.wr with
      | true => oSt i B (storeE P E.wst t B.cs off x)
      | false => none
    | none => none
  | _ => none
def nilF : AV → Option (Bool × AV)
  | .ptr id off => some (true, .ptr id off)
  | _ => none
def oFA (P : Program) (s : TypeId) (f : Nat) (a : AV) : Option (Bool × AV) := match a with
  | .ptr id off => match P.underlying s with
    | some (.struct fs) => match fs.toList[f]? with
      | some fl => match sz P fl.type with
        | some (_ + 1) => some (true, .ptr id (off + fl.offset))
        | _ => none
      | none => none
    | _ => none
  | _ => none
def oIA (P : Program) (t : TypeId) (a ix : AV) : Option (Bool × AV) := match ix with
  | .v (.int _ (.ofNat n)) => match P.underlying t with
    | some (.array len el) => match a with
      | .ptr id off => match sz P el with
        | some m => some (Nat.blt n len, .ptr id (off + n * m))
        | none => none
      | _ => none
    | some (.slice el) => match a with
      | .slc id off len _ => match sz P el with
        | some m => some (Nat.blt n len, .ptr id (off + n * m))
        | none => none
      | .own id es k len => match sz P el with
        | some m => some (Nat.blt n len, .ptr id (k * es + n * m))
        | none => none
      | _ => none
    | _ => none
  | _ => none
def oEx (i : Nat) (a : AV) : Option (Bool × AV) := match a with
  | .tup cs => match cs[i]? with
    | some r => some (true, r)
    | none => none
  | _ => none
noncomputable def oCv (P : Program) (s d : TypeId) (a : AV) : Option (Bool × AV) := match a with
  | .v (.int _ n) => match P.underlying s, P.underlying d with
    | some (.int _), some (.int .u64) => some (true, .u (BitVec.ofInt 64 n))
    | some (.int _), some (.int k) => some (true, .v (.int k (wrapF k n)))
    | _, _ => none
  | .u x => match P.underlying s, P.underlying d with
    | some (.int _), some (.int .u64) => some (true, .u x)
    | some (.int _), some (.int k) => some (true, .v (.int k (wrapF k (.ofNat x.toNat))))
    | _, _ => none
  | _ => none
noncomputable def oUn (op : UnOp) (a : AV) : Option (Bool × AV) := match a with
  | .v (.bool b) => match op with
    | .not => some (true, .v (.bool (not b)))
    | _ => none
  | .lit b => match op with
    | .not => some (true, .v (.bool (not b)))
    | _ => none
  | .v (.int k n) => match op with
    | .neg => some (true, .v (.int k (wrapF k (Int.sub (.ofNat 0) n))))
    | .xor => match n, uMod k with
      | .ofNat a, some M => some (true, .v (.int k (.ofNat (Nat.xor (Nat.mod (Nat.pred M) M) (Nat.mod a M)))))
      | _, _ => none
    | _ => none
  | _ => none
noncomputable def oAct (ro : Bool) (id kk : Nat) (r : Option (Bool × AV × AH)) : Option (Bool × AV × AH) := match ro with
  | false => r
  | true => match r with
    | some (c, r, ups) => match allB id kk ups with
      | true => some (c, r, ups)
      | false => none
    | none => none
noncomputable def oCallT (E : Env) (h : AH) (id fid : Nat) (as : List AV) (s : Option (Bool × AV × AH)) : Option (Bool × AV × AH) := match E.pure fid with
  | some g => oP (g as)
  | none => match E.heap fid with
    | some _ => s
    | none => match E.lay fid with
      | some _ => s
      | none => match E.act fid with
        | some g => oAct (memN fid E.ro) id E.kk (g as h id)
        | none => none
noncomputable def oCallV (E : Env) (ev : Operand → AV) (h : AH) (id : Nat) (f : Operand) (args : List Operand) (s : Option (Bool × AV × AH)) : Option (Bool × AV × AH) := match f with
  | .func fid => frcL frc2 (maps ev args) fun as => oCallT E h id fid as s
  | _ => s
noncomputable def oCall (E : Env) (ev : Operand → AV) (h : AH) (id : Nat) (c : Call) (s : Option (Bool × AV × AH)) : Option (Bool × AV × AH) := match c.callee with
  | .value f => oCallV E ev h id f c.args.toList s
  | _ => s

noncomputable def fastOp (P : Program) (E : Env) (ev : Operand → AV) (h : AH) (id : Nat) (op : Op) : Option (Bool × AV × AH) := match op with
  | .move x => some (true, ev x, [])
  | .assign x => some (true, ev x, [])
  | .binOp o t x y u => oOr (fastBin o (ev x) (ev y)) (effOp P E ev h id (.binOp o t x y u))
  | .load t a => oLoad P E h t (ev a) (effOp P E ev h id (.load t a))
  | .store t a x => oStore P E h t (ev a) (ev x)
  | .nilCheck x => oOr (nilF (ev x)) (effOp P E ev h id (.nilCheck x))
  | .fieldAddr s x f => oP (oFA P s f (ev x))
  | .indexAddr t x ix => oOr (oIA P t (ev x) (ev ix)) (effOp P E ev h id (.indexAddr t x ix))
  | .extract x i => oOr (oEx i (ev x)) (effOp P E ev h id (.extract x i))
  | .convert s d x => oOr (oCv P s d (ev x)) (effOp P E ev h id (.convert s d x))
  | .unOp o t x => oOr (oUn o (ev x)) (effOp P E ev h id (.unOp o t x))
  | .call c => oCall E ev h id c (effOp P E ev h id (.call c))
  | op => effOp P E ev h id op
end Go.Rq

/- Operations reckoned by small steps come to what the abstract machine's come to. -/
namespace Go.Rq
open Go

theorem oOr_ok {r : Option (Bool × AV)} {s : Option (Bool × AV × AH)} {x : Bool × AV × AH} (h : oOr r s = some x) (hr : ∀ c v, r = some (c, v) → s = some (c, v, [])) : s = some x := by
  unfold oOr at h
  split at h
  · rw [hr _ _ rfl]; exact h
  · exact h

theorem xor_max {k : IntKind} {M : Nat} (h : uMod k = some M) : k.max = Int.ofNat (Nat.pred M) := by
  cases k <;> simp [uMod] at h <;> subst h <;> rfl

theorem intBits_xor {P : Program} {k : IntKind} {M a b : Nat} (hM : uMod k = some M) : pureRun P (Op.intBits .xor k (Int.ofNat a) (Int.ofNat b)) = some (.int k (.ofNat (Nat.xor (Nat.mod a M) (Nat.mod b M)))) := by
  obtain ⟨h1, h2⟩ := uMod_eq hM
  simp only [Op.intBits]
  show some (Value.int k (k.wrap ((BitVec.ofInt k.bits (Int.ofNat a) ^^^ BitVec.ofInt k.bits (Int.ofNat b)).toNat : Int))) = _
  rw [wrap_nat hM, Nat.mod_eq_of_lt (by rw [h1]; exact BitVec.isLt _), BitVec.toNat_xor, ofInt_nat, ofInt_nat, ← h1]
  rfl

theorem pureRun_bind {α β : Type} {P : Program} {f : α → Sem β} : ∀ {s : Sem α} {a : α}, pureRun P s = some a → pureRun P (s >>= f) = pureRun P (f a) := by
  intro s a h
  induction s with
  | pure b => simp only [pureRun, Option.some.injEq] at h; subst h; rfl
  | program k ih => simp only [pureRun] at h; exact ih _ h
  | _ => simp only [pureRun] at h; cases h
theorem pureRun_underlying {P : Program} {t : TypeId} {d : TypeDesc} (h : P.underlying t = some d) : pureRun P (underlying t) = some d := by
  show pureRun P (match P.underlying t with
    | some d => pure d
    | none => stuck "no such type") = _
  rw [h]; rfl
theorem convert_int {P : Program} {s d : TypeId} {k j : IntKind} {a : TypeDesc} {n : Int} (h1 : P.underlying s = some a) (h2 : P.underlying d = some (.int k)) : pureRun P (convert s d (.int j n)) = some (.int k (wrapF k n)) := by
  rw [wrapF_eq]
  unfold convert
  rw [pureRun_bind (pureRun_underlying h1), pureRun_bind (pureRun_underlying h2)]
  cases a <;> rfl

theorem ofInt_u (x : BitVec 64) : BitVec.ofInt 64 (Int.ofNat x.toNat) = x := ofInt_u64 x

theorem oCv_ok {P : Program} {E : Env} {ev : Operand → AV} {h : AH} {id : Nat} {s d : TypeId} {x : Operand} {c : Bool} {v : AV} (e : oCv P s d (ev x) = some (c, v)) : effOp P E ev h id (.convert s d x) = some (c, v, []) := by
  have main : isSl (ev x) = false → effBytes P id s d (ev x) = none → opPure P E ev (.convert s d x) = some (c, v) → effOp P E ev h id (.convert s d x) = some (c, v, []) := by
    intro h1 h2 h3
    simp only [effOp, isMark, h1, h2, h3, Bool.and_false]
  unfold oCv at e
  split at e
  · rename_i j n hx
    refine main (by rw [hx]; rfl) (by rw [hx]; unfold effBytes; split <;> simp_all) ?_
    simp only [opPure, hx, Rq.toU, show flat (.v (.int j n)) = some (.int j n) from rfl]
    split at e
    · rename_i a h1 h2
      simp at e; obtain ⟨rfl, rfl⟩ := e
      simp only [h1, h2]
    · rename_i a k hk h1 h2
      simp at e; obtain ⟨rfl, rfl⟩ := e
      rw [h1, h2]
      have hc := convert_int (n := n) (j := j) h1 h2
      cases k with
      | u64 => exact absurd rfl hk
      | _ => simp only [hc]
    · cases e
  · rename_i u hx
    refine main (by rw [hx]; rfl) (by rw [hx]; unfold effBytes; split <;> simp_all) ?_
    simp only [opPure, hx, Rq.toU]
    split at e
    · rename_i a h1 h2
      simp at e; obtain ⟨rfl, rfl⟩ := e
      simp only [h1, h2]
    · rename_i a k hk h1 h2
      simp at e; obtain ⟨rfl, rfl⟩ := e
      rw [h1, h2]
      cases k with
      | u64 => exact absurd rfl hk
      | _ => simp only [wrapF_eq]; rfl
    · cases e
  · cases e

theorem oUn_ok {P : Program} {E : Env} {ev : Operand → AV} {h : AH} {id : Nat} {o : UnOp} {t : TypeId} {x : Operand} {c : Bool} {v : AV} (e : oUn o (ev x) = some (c, v)) : effOp P E ev h id (.unOp o t x) = some (c, v, []) := by
  have main : opPure P E ev (.unOp o t x) = some (c, v) → effOp P E ev h id (.unOp o t x) = some (c, v, []) := by
    intro h3
    simp only [effOp, h3]
  refine main ?_
  unfold oUn at e
  split at e
  · rename_i b hx
    split at e
    · simp at e; obtain ⟨rfl, rfl⟩ := e
      simp only [opPure, hx, Rq.toU, show flat (.v (.bool b)) = some (.bool b) from rfl]
      rfl
    · cases e
  · rename_i b hx
    split at e
    · simp at e; obtain ⟨rfl, rfl⟩ := e
      simp only [opPure, hx, Rq.toU, show flat (.lit b) = some (.bool b) from rfl]
      rfl
    · cases e
  · rename_i k n hx
    split at e
    · simp at e; obtain ⟨rfl, rfl⟩ := e
      simp only [opPure, hx, Rq.toU, show flat (.v (.int k n)) = some (.int k n) from rfl]
      rw [wrapF_eq]; rfl
    · split at e
      · rename_i a M hM
        simp at e; obtain ⟨rfl, rfl⟩ := e
        simp only [opPure, hx, Rq.toU, show flat (.v (.int k (.ofNat a))) = some (.int k (.ofNat a)) from rfl]
        have : pureRun P (Op.unary .xor (.int k (.ofNat a))) = some (.int k (.ofNat (Nat.xor (Nat.mod (Nat.pred M) M) (Nat.mod a M)))) := by
          simp only [Op.unary, (uMod_eq hM).2]
          rw [if_neg (by simp), xor_max hM]
          exact intBits_xor hM
        simp only [this]
        rfl
      · cases e
    · cases e
  · cases e

theorem oIA_ok {P : Program} {E : Env} {ev : Operand → AV} {h : AH} {id : Nat} {t : TypeId} {x ix : Operand} {c : Bool} {v : AV} (e : oIA P t (ev x) (ev ix) = some (c, v)) : effOp P E ev h id (.indexAddr t x ix) = some (c, v, []) := by
  have main : opPure P E ev (.indexAddr t x ix) = some (c, v) → effOp P E ev h id (.indexAddr t x ix) = some (c, v, []) := by
    intro h3
    simp only [effOp, h3]
  have hd : ∀ (n len : Nat), decide (0 ≤ (n : Int) ∧ (n : Int) < (len : Int)) = Nat.blt n len := by
    intro n len
    rw [blt_dec]
    congr 1
    apply propext
    constructor
    · intro h; exact Int.ofNat_lt.1 h.2
    · intro h; exact ⟨Int.natCast_nonneg _, Int.ofNat_lt.2 h⟩
  refine main ?_
  unfold oIA at e
  split at e
  · rename_i k n hix
    simp only [opPure, hix, show flat (.v (.int k (.ofNat n))) = some (.int k (.ofNat n)) from rfl]
    split at e
    · rename_i len el hu
      split at e
      · rename_i hx
        split at e
        · rename_i m hm
          simp at e; obtain ⟨rfl, rfl⟩ := e
          simp only [hu, hx, hm, Int.ofNat_eq_natCast, Int.toNat_natCast, hd]
        · cases e
      · cases e
    · rename_i el hu
      split at e
      · rename_i hx
        split at e
        · rename_i m hm
          simp at e; obtain ⟨rfl, rfl⟩ := e
          simp only [hu, hx, hm, Int.ofNat_eq_natCast, Int.toNat_natCast, hd]
        · cases e
      · rename_i hx
        split at e
        · rename_i m hm
          simp at e; obtain ⟨rfl, rfl⟩ := e
          simp only [hu, hx, hm, Int.ofNat_eq_natCast, Int.toNat_natCast, hd]
        · cases e
      · cases e
    · cases e
  · cases e

theorem fastBin_eff {P : Program} {E : Env} {ev : Operand → AV} {h : AH} {id : Nat} {o : BinOp} {t u : TypeId} {x y : Operand} {c : Bool} {v : AV} (e : fastBin o (ev x) (ev y) = some (c, v)) : effOp P E ev h id (.binOp o t x y u) = some (c, v, []) := by
  have hb := fastBin_ok (P := P) (E := E) (t := t) (x := x) (y := y) e
  have main : opPure P E ev (.binOp o t x y u) = some (c, v) → effOp P E ev h id (.binOp o t x y u) = some (c, v, []) := by
    intro h3
    simp only [effOp, h3]
  refine main ?_
  unfold fastBin at e
  split at e
  · rename_i k m hx
    simp only [opPure, hx]
    rw [hx] at hb
    exact hb
  · rename_i w hx
    simp only [opPure, hx]
    rw [hx] at hb
    exact hb
  · cases e

theorem oCallV_ok {P : Program} {E : Env} {ev : Operand → AV} (hf : ∀ f, ev (.func f) = .fn (.func f) [] []) {h : AH} {id : Nat} {c : Call} {f : Operand} (hc : c.callee = .value f) {x : Bool × AV × AH}
    (e : oCallV E ev h id f c.args.toList (effOp P E ev h id (.call c)) = some x) : effOp P E ev h id (.call c) = some x := by
  unfold oCallV at e
  split at e
  · rename_i fid
    rw [frcL_eq frc2_eq] at e
    unfold oCallT at e
    have hs : effOp P E ev h id (.call c) = effCall E ev h id (.func fid) c.args.toList := by simp only [effOp, hc]
    split at e
    · rename_i g hg
      rw [hs]
      unfold effCall
      rw [hf]
      simp only [hg, List.nil_append, List.append_nil]
      exact e
    · rename_i hp
      split at e
      · exact e
      · rename_i hh
        split at e
        · exact e
        · rename_i hl
          rw [hs]
          unfold effCall
          rw [hf]
          simp only [hp, hh, hl]
          split at e
          · rename_i g hg
            unfold oAct at e
            simp only [hg]
            exact e
          · cases e
  · exact e

theorem fastOp_ok {P : Program} {E : Env} {ev : Operand → AV} (hf : ∀ f, ev (.func f) = .fn (.func f) [] []) {h : AH} {id : Nat} {op : Op} {x : Bool × AV × AH} (e : fastOp P E ev h id op = some x) : effOp P E ev h id op = some x := by
  cases op with
  | move y => exact e
  | assign y => exact e
  | binOp o t y z u => exact oOr_ok e fun c v hr => fastBin_eff hr
  | load t a =>
    simp only [fastOp, oLoad] at e
    split at e
    · rename_i i off ha
      simp only [effOp, ha]
      exact e
    · exact e
  | store t a y =>
    simp only [fastOp, oStore] at e
    split at e
    · rename_i i off ha
      simp only [effOp, ha]
      exact e
    · cases e
  | nilCheck y =>
    refine oOr_ok e fun c v hr => ?_
    unfold nilF at hr
    split at hr
    · rename_i i off hy
      simp at hr; obtain ⟨rfl, rfl⟩ := hr
      simp only [effOp, opPure, hy]
    · cases hr
  | fieldAddr s y f =>
    simp only [fastOp, oP] at e
    split at e
    · rename_i c v hr
      unfold oFA at hr
      split at hr
      · rename_i i off hy
        split at hr
        · rename_i fs hu
          simp only [effOp, opPure, hu, hy]
          split at hr
          · rename_i fl hfl
            simp only [hfl]
            split at hr
            · rename_i n hn
              simp at hr; obtain ⟨rfl, rfl⟩ := hr
              simp only [hn]; exact e
            · cases hr
          · cases hr
        · cases hr
      · cases hr
    · cases e
  | indexAddr t y z => exact oOr_ok e fun c v hr => oIA_ok hr
  | extract y i =>
    refine oOr_ok e fun c v hr => ?_
    unfold oEx at hr
    split at hr
    · rename_i cs hy
      split at hr
      · rename_i q hq
        simp at hr; obtain ⟨rfl, rfl⟩ := hr
        simp only [effOp, opPure, hy, hq]
      · cases hr
    · cases hr
  | convert s d y => exact oOr_ok e fun c v hr => oCv_ok hr
  | unOp o t y => exact oOr_ok e fun c v hr => oUn_ok hr
  | call c =>
    simp only [fastOp, oCall] at e
    split at e
    · rename_i f hc
      exact oCallV_ok hf hc e
    · exact e
  | _ => exact e
end Go.Rq
