/- The power of an element of the great field: a loop, told by data. -/
import Derived.Test.YtbamkkbefjgeoaaGreatDoorRq10
import Derived.Test.YtbamkkbefjgeoaaGreatDoorRq06
namespace Go.Rq
open Go Go.Proofs

theorem wrap_id {n : Int} (h0 : -9223372036854775808 ≤ n) (h1 : n < 9223372036854775808) : IntKind.i64.wrap n = n := by
  simp only [IntKind.wrap, IntKind.bits, IntKind.signed]
  simp
  omega

end Go.Rq

/- The great field's operations, and its square's, with the operations below left open. Written by a program of ours. -/
namespace Go.Rq
open Go Go.Proofs

end Go.Rq

/- Numbers of six words. -/
namespace Go.Rq
open Go Go.Proofs

def ofW (x : BitVec 64) : W6 := ⟨x, 0#64, 0#64, 0#64, 0#64, 0#64⟩
theorem of_ctx : Ctx PR (envOf eqsT []) [] (fun _ => none) 40 27 :=
  ctx_of (envOf_ok eqsT_ok TabPOk.nil) mixed (fn := Tryz.f27) (by kernel_rfl) (by kernel_rfl) (by kernel_rfl) (tabOk_none _)
theorem of_run (x : BitVec 64) : (afunR PR (envOf eqsT []) [] (fun _ => none) 40 27 [kU.enc x]).strict = .leaf (c6.agg.enc (ofW x)) := by kernel_rfl

/-! Which is the less. -/
def cmpL (a b : W6) : List (Bool × Int) := [(BitVec.ult a.w5 b.w5, -1), (BitVec.ult b.w5 a.w5, 1), (BitVec.ult a.w4 b.w4, -1), (BitVec.ult b.w4 a.w4, 1), (BitVec.ult a.w3 b.w3, -1), (BitVec.ult b.w3 a.w3, 1),
  (BitVec.ult a.w2 b.w2, -1), (BitVec.ult b.w2 a.w2, 1), (BitVec.ult a.w1 b.w1, -1), (BitVec.ult b.w1 a.w1, 1), (BitVec.ult a.w0 b.w0, -1), (BitVec.ult b.w0 a.w0, 1)]
theorem cmp_ctx : Ctx PR (envOf eqsT []) [10, 18] (fun _ => none) 40 45 :=
  ctx_of (envOf_ok eqsT_ok TabPOk.nil) mixed (fn := Tryz.f45) (by kernel_rfl) (by kernel_rfl) (by kernel_rfl) (tabOk_none _)
theorem cmp_run (a b : W6) : (afunR PR (envOf eqsT []) [10, 18] (fun _ => none) 40 45 [c6.agg.enc a, c6.agg.enc b]).strict = chain (kInt .i64) (cmpL a b) 0 := by kernel_rfl
theorem cmp_ok : CallOk PR 45 (fn2 c6.agg c6.agg (kInt .i64) fun a b => chainV (cmpL a b) 0) :=
  .inl ⟨enters_of (fn := Tryz.f45) (by kernel_rfl) (by kernel_rfl) (by kernel_rfl), pure2 cmp_ctx (fun a b => chainVal (cmp_run a b))⟩

/-! How many bits a word has. -/
def lenTab : ByteArray := ⟨#[0, 1, 2, 2, 3, 3, 3, 3, 4, 4, 4, 4, 4, 4, 4, 4, 5, 5, 5, 5, 5, 5, 5, 5, 5, 5, 5, 5, 5, 5, 5, 5, 6, 6, 6, 6, 6, 6, 6, 6, 6, 6, 6, 6, 6, 6, 6, 6, 6, 6, 6, 6, 6, 6, 6, 6, 6, 6, 6, 6, 6, 6, 6, 6, 7, 7, 7, 7, 7, 7, 7, 7, 7, 7, 7, 7, 7, 7, 7, 7, 7, 7, 7, 7, 7, 7, 7, 7, 7, 7, 7, 7, 7, 7, 7, 7, 7, 7, 7, 7, 7, 7, 7, 7, 7, 7, 7, 7, 7, 7, 7, 7, 7, 7, 7, 7, 7, 7, 7, 7, 7, 7, 7, 7, 7, 7, 7, 7, 8, 8, 8, 8, 8, 8, 8, 8, 8, 8, 8, 8, 8, 8, 8, 8, 8, 8, 8, 8, 8, 8, 8, 8, 8, 8, 8, 8, 8, 8, 8, 8, 8, 8, 8, 8, 8, 8, 8, 8, 8, 8, 8, 8, 8, 8, 8, 8, 8, 8, 8, 8, 8, 8, 8, 8, 8, 8, 8, 8, 8, 8, 8, 8, 8, 8, 8, 8, 8, 8, 8, 8, 8, 8, 8, 8, 8, 8, 8, 8, 8, 8, 8, 8, 8, 8, 8, 8, 8, 8, 8, 8, 8, 8, 8, 8, 8, 8, 8, 8, 8, 8, 8, 8, 8, 8, 8, 8, 8, 8, 8, 8, 8, 8, 8, 8, 8, 8, 8, 8, 8, 8, 8, 8, 8, 8, 8, 8]⟩

def lenLeaf (n : Int) (y : BitVec 64) : Tree AV :=
  .need (decide (0 ≤ IntKind.u8.wrap (Int.ofNat y.toNat) ∧ IntKind.u8.wrap (Int.ofNat y.toNat) < (lenTab.data.toList.length : Int)) && true)
    (.leaf (.v (.int .i64 (IntKind.i64.wrap (n + IntKind.i64.wrap (strAt lenTab (IntKind.u8.wrap (Int.ofNat y.toNat)).toNat : Nat))))))

def sh (x : BitVec 64) (n : Nat) : BitVec 64 := x >>> Nat.min n 64

set_option maxRecDepth 100000 in
theorem len64_run (x : BitVec 64) : Tree.but [4, 6, 8, 10] 0 (afunR PR (envOf eqsT []) [4, 8, 14] (fun _ => none) 40 117 [kU.enc x]) =
    .br (BitVec.ule 4294967296#64 x)
      (.br (BitVec.ule 65536#64 (sh x 32))
        (.need true (.need true (.br (BitVec.ule 256#64 (sh (sh x 32) 16)) (.need true (lenLeaf 56 (sh (sh (sh x 32) 16) 8))) (lenLeaf 48 (sh (sh x 32) 16)))))
        (.need true (.br (BitVec.ule 256#64 (sh x 32)) (.need true (lenLeaf 40 (sh (sh x 32) 8))) (lenLeaf 32 (sh x 32)))))
      (.br (BitVec.ule 65536#64 x)
        (.need true (.br (BitVec.ule 256#64 (sh x 16)) (.need true (lenLeaf 24 (sh (sh x 16) 8))) (lenLeaf 16 (sh x 16))))
        (.br (BitVec.ule 256#64 x) (.need true (lenLeaf 8 (sh x 8))) (lenLeaf 0 x))) := by kernel_rfl

/-- How many bits a number has. -/
def bl (n : Nat) : Nat := if n = 0 then 0 else n.log2 + 1

theorem bl_spec {n k : Nat} : bl n ≤ k ↔ n < 2 ^ k := by
  unfold bl
  split
  · rename_i h; subst h; simp; exact Nat.two_pow_pos k
  · rename_i h; rw [← Nat.log2_lt h]; omega

theorem bl_unique {n k : Nat} (h1 : n < 2 ^ k) (h2 : k = 0 ∨ 2 ^ (k - 1) ≤ n) : bl n = k := by
  have a := bl_spec.2 h1
  rcases h2 with rfl | h2
  · omega
  · cases k with
    | zero => omega
    | succ k =>
      have : ¬ bl n ≤ k := fun h => by
        have := bl_spec.1 h
        simp at h2; omega
      omega

theorem tab_ok : (List.range 256).all (fun k => Nat.blt k (2 ^ strAt lenTab k) && (Nat.beq (strAt lenTab k) 0 || Nat.ble (2 ^ (strAt lenTab k - 1)) k)) = true := by kernel_rfl

theorem tab_bl {k : Nat} (h : k < 256) : strAt lenTab k = bl k := by
  have := List.all_eq_true.1 tab_ok k (List.mem_range.2 h)
  simp only [Bool.and_eq_true, Bool.or_eq_true] at this
  refine (bl_unique ?_ ?_).symm
  · exact Nat.lt_of_lt_of_le (Nat.lt_succ_self k) (Nat.le_of_ble_eq_true this.1)
  · rcases this.2 with h | h
    · exact .inl (Nat.eq_of_beq_eq_true h)
    · exact .inr (Nat.le_of_ble_eq_true h)

theorem bl_shift {n s : Nat} (h : 2 ^ s ≤ n) : bl n = s + bl (n / 2 ^ s) := by
  have hp := Nat.two_pow_pos s
  have e : bl (n / 2 ^ s) ≠ 0 := by
    intro h0
    have : n / 2 ^ s < 2 ^ 0 := bl_spec.1 (Nat.le_of_eq h0)
    have h1 : 1 ≤ n / 2 ^ s := (Nat.le_div_iff_mul_le hp).2 (by omega)
    simp at this; omega
  apply bl_unique
  · have := bl_spec.1 (Nat.le_refl (bl (n / 2 ^ s)))
    rw [Nat.pow_add]
    rw [Nat.mul_comm]
    exact (Nat.div_lt_iff_lt_mul hp).1 this
  · right
    have h2 : ¬ n / 2 ^ s < 2 ^ (bl (n / 2 ^ s) - 1) := fun h => by
      have := bl_spec.2 h
      omega
    have h3 : 2 ^ (bl (n / 2 ^ s) - 1) * 2 ^ s ≤ n := by
      have := Nat.le_of_not_lt h2
      exact (Nat.le_div_iff_mul_le hp).1 this
    rw [show s + bl (n / 2 ^ s) - 1 = bl (n / 2 ^ s) - 1 + s by omega, Nat.pow_add]
    exact h3

theorem sh_toNat (x : BitVec 64) {n : Nat} (h : n ≤ 64) : (sh x n).toNat = x.toNat / 2 ^ n := by
  unfold sh
  have : Nat.min n 64 = n := Nat.min_eq_left h
  rw [this, BitVec.toNat_ushiftRight, Nat.shiftRight_eq_div_pow]

theorem lenLeaf_holds {n : Nat} {y : BitVec 64} (hn : n ≤ 56) (h : y.toNat < 256) : (lenLeaf n y).holds (fun q => flat q = some ((kInt .i64).val ((n + bl y.toNat : Nat) : Int))) := by
  have hb : bl y.toNat ≤ 8 := bl_spec.2 (by simpa using h)
  have hw : IntKind.u8.wrap (Int.ofNat y.toNat) = (y.toNat : Int) := by
    simp only [IntKind.wrap, IntKind.bits, IntKind.signed]
    simp
    omega
  have hl : (lenTab.data.toList.length : Int) = 256 := by kernel_rfl
  refine ⟨?_, ?_⟩
  · rw [hw, hl]; simp; omega
  · rw [hw]
    simp only [Int.toNat_natCast]
    rw [tab_bl h, wrap_id (n := (bl y.toNat : Int)) (by omega) (by omega), wrap_id (by omega) (by omega)]
    show some (Value.int .i64 ((n : Int) + (bl y.toNat : Int))) = some (Value.int .i64 ((n + bl y.toNat : Nat) : Int))
    rw [Int.natCast_add]

theorem ule_nat {a b : BitVec 64} : BitVec.ule a b = decide (a.toNat ≤ b.toNat) := by
  simp [BitVec.ule]

theorem len64_gives (x : BitVec 64) : Gives (afunR PR (envOf eqsT []) [4, 8, 14] (fun _ => none) 40 117 [kU.enc x]) ((kInt .i64).val ((bl x.toNat : Nat) : Int)) := by
  refine ⟨Tree.holds_but (l := [4, 6, 8, 10]) (i := 0) ?_⟩
  rw [len64_run]
  have hx := x.isLt
  have s32 : (sh x 32).toNat = x.toNat / 4294967296 := sh_toNat x (by decide)
  have s16 : (sh x 16).toNat = x.toNat / 65536 := sh_toNat x (by decide)
  have s8 : (sh x 8).toNat = x.toNat / 256 := sh_toNat x (by decide)
  have s3216 : (sh (sh x 32) 16).toNat = x.toNat / 4294967296 / 65536 := by rw [sh_toNat _ (by decide), s32]
  have s328 : (sh (sh x 32) 8).toNat = x.toNat / 4294967296 / 256 := by rw [sh_toNat _ (by decide), s32]
  have s168 : (sh (sh x 16) 8).toNat = x.toNat / 65536 / 256 := by rw [sh_toNat _ (by decide), s16]
  have s32168 : (sh (sh (sh x 32) 16) 8).toNat = x.toNat / 4294967296 / 65536 / 256 := by rw [sh_toNat _ (by decide), s3216]
  have e32 {m : Nat} (h : 4294967296 ≤ m) : bl m = 32 + bl (m / 4294967296) := bl_shift (s := 32) h
  have e16 {m : Nat} (h : 65536 ≤ m) : bl m = 16 + bl (m / 65536) := bl_shift (s := 16) h
  have e8 {m : Nat} (h : 256 ≤ m) : bl m = 8 + bl (m / 256) := bl_shift (s := 8) h
  have leaf {n : Nat} {y : BitVec 64} (hn : n ≤ 56) (h : y.toNat < 256) (e : bl x.toNat = n + bl y.toNat) : (lenLeaf n y).holds (fun q => flat q = some ((kInt .i64).val ((bl x.toNat : Nat) : Int))) := by
    rw [e]; exact lenLeaf_holds hn h
  simp only [ule_nat]
  refine ⟨fun h1 => ⟨fun h2 => ⟨rfl, rfl, fun h3 => ⟨rfl, ?_⟩, fun h3 => ?_⟩, fun h2 => ⟨rfl, fun h3 => ⟨rfl, ?_⟩, fun h3 => ?_⟩⟩, fun h1 => ⟨fun h2 => ⟨rfl, fun h3 => ⟨rfl, ?_⟩, fun h3 => ?_⟩, fun h2 => ⟨fun h3 => ⟨rfl, ?_⟩, fun h3 => ?_⟩⟩⟩
  · have h1 : 4294967296 ≤ x.toNat := of_decide_eq_true h1
    have h2 : 65536 ≤ (sh x 32).toNat := of_decide_eq_true h2
    have h3 : 256 ≤ (sh (sh x 32) 16).toNat := of_decide_eq_true h3
    rw [s32] at h2
    rw [s3216] at h3
    exact leaf (n := 56) (by decide) (by rw [s32168]; omega) (by rw [s32168, e32 h1, e16 h2, e8 h3]; omega)
  · have h1 : 4294967296 ≤ x.toNat := of_decide_eq_true h1
    have h2 : 65536 ≤ (sh x 32).toNat := of_decide_eq_true h2
    have h3 : ¬ 256 ≤ (sh (sh x 32) 16).toNat := of_decide_eq_false h3
    rw [s32] at h2
    rw [s3216] at h3
    exact leaf (n := 48) (by decide) (by rw [s3216]; omega) (by rw [s3216, e32 h1, e16 h2]; omega)
  · have h1 : 4294967296 ≤ x.toNat := of_decide_eq_true h1
    have h2 : ¬ 65536 ≤ (sh x 32).toNat := of_decide_eq_false h2
    have h3 : 256 ≤ (sh x 32).toNat := of_decide_eq_true h3
    rw [s32] at h2 h3
    exact leaf (n := 40) (by decide) (by rw [s328]; omega) (by rw [s328, e32 h1, e8 h3]; omega)
  · have h1 : 4294967296 ≤ x.toNat := of_decide_eq_true h1
    have h2 : ¬ 65536 ≤ (sh x 32).toNat := of_decide_eq_false h2
    have h3 : ¬ 256 ≤ (sh x 32).toNat := of_decide_eq_false h3
    rw [s32] at h2 h3
    exact leaf (n := 32) (by decide) (by rw [s32]; omega) (by rw [s32, e32 h1])
  · have h1 : ¬ 4294967296 ≤ x.toNat := of_decide_eq_false h1
    have h2 : 65536 ≤ x.toNat := of_decide_eq_true h2
    have h3 : 256 ≤ (sh x 16).toNat := of_decide_eq_true h3
    rw [s16] at h3
    exact leaf (n := 24) (by decide) (by rw [s168]; omega) (by rw [s168, e16 h2, e8 h3]; omega)
  · have h1 : ¬ 4294967296 ≤ x.toNat := of_decide_eq_false h1
    have h2 : 65536 ≤ x.toNat := of_decide_eq_true h2
    have h3 : ¬ 256 ≤ (sh x 16).toNat := of_decide_eq_false h3
    rw [s16] at h3
    exact leaf (n := 16) (by decide) (by rw [s16]; omega) (by rw [s16, e16 h2])
  · have h1 : ¬ 4294967296 ≤ x.toNat := of_decide_eq_false h1
    have h2 : ¬ 65536 ≤ x.toNat := of_decide_eq_false h2
    have h3 : 256 ≤ x.toNat := of_decide_eq_true h3
    exact leaf (n := 8) (by decide) (by rw [s8]; omega) (by rw [s8, e8 h3])
  · have h1 : ¬ 4294967296 ≤ x.toNat := of_decide_eq_false h1
    have h2 : ¬ 65536 ≤ x.toNat := of_decide_eq_false h2
    have h3 : ¬ 256 ≤ x.toNat := of_decide_eq_false h3
    exact leaf (n := 0) (by decide) (by omega) (by omega)

theorem len64_ctx : Ctx PR (envOf eqsT []) [4, 8, 14] (fun _ => none) 40 117 :=
  ctx_of (envOf_ok eqsT_ok TabPOk.nil) mixed (fn := Tryz.f117) (by kernel_rfl) (by kernel_rfl) (by kernel_rfl) (tabOk_none _)
theorem len64_ok : CallOk PR 117 (fn1 kU (kInt .i64) fun x => ((bl x.toNat : Nat) : Int)) :=
  .inl ⟨enters_of (fn := Tryz.f117) (by kernel_rfl) (by kernel_rfl) (by kernel_rfl), pure1 len64_ctx len64_gives⟩

/-! How many bits a number of six words has. -/
def lenT (L : BitVec 64 → Int) : PureTab := [(117, fn1 kU (kInt .i64) L)]
theorem lenT_ok : TabPOk PR (lenT fun x => ((bl x.toNat : Nat) : Int)) := TabPOk.cons len64_ok TabPOk.nil
/-! One bit of a number. -/
theorem of_ok : CallOk PR 27 (fn1 kU c6.agg ofW) :=
  .inl ⟨enters_of (fn := Tryz.f27) (by kernel_rfl) (by kernel_rfl) (by kernel_rfl), pure1 of_ctx (fun x => leafVal (B := c6.agg) (y := ofW x) (of_run x))⟩
end Go.Rq
