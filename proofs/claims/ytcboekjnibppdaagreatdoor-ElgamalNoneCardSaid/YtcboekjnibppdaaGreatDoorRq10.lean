/- Contracts of functions, by the abstract machine. Written by a program of ours. -/
import Derived.Test.YtcboekjnibppdaaGreatDoorProg
import Derived.Test.YtcboekjnibppdaaGreatDoorRq05
import Derived.Test.YtcboekjnibppdaaGreatDoorRq07
namespace Go.Rq
open Go Go.Proofs

noncomputable def PR : Program := Tryz.prog

theorem mixed : PR.follows .mixedOrders = true := by kernel_rfl

/-- Types whose values are equal cell by cell. -/
def eqsT : List (TypeId × List Nat) := [(31, [1, 1, 1, 1, 1, 1]), (33, [1, 1, 1, 1, 1, 1, 1, 1, 1, 1, 1, 1, 0]), (35, [1, 1, 0]), (37, [1, 1, 1, 1, 1, 1, 1, 1, 1, 1, 1, 1, 1, 0, 1, 1, 0]), (79, [1, 1, 1, 1, 1, 1, 1, 1, 1, 1, 1, 1, 1, 0, 1, 1, 0, 1, 1, 1, 1, 1, 1]), (279, [1, 1, 1, 1, 1, 1]), (52, [1, 1, 1, 1, 1, 1, 1, 1, 1, 1, 1, 1, 1, 0, 1, 1, 0, 1, 1, 1, 1, 1, 1]), (59, [1, 1, 1, 1, 1, 1, 1, 1, 1, 1, 1, 1, 1, 0, 1, 1, 0, 1, 1, 1, 1, 1, 1, 1, 1, 1, 1, 1, 1, 1, 0, 1, 1, 0, 1, 1, 1, 1, 1, 1])]
theorem eqsT_ok : EqsOk PR eqsT := (EqsOk.cons (by kernel_rfl) (by kernel_rfl) (by kernel_rfl) (EqsOk.cons (by kernel_rfl) (by kernel_rfl) (by kernel_rfl) (EqsOk.cons (by kernel_rfl) (by kernel_rfl) (by kernel_rfl) (EqsOk.cons (by kernel_rfl) (by kernel_rfl) (by kernel_rfl) (EqsOk.cons (by kernel_rfl) (by kernel_rfl) (by kernel_rfl) (EqsOk.cons (by kernel_rfl) (by kernel_rfl) (by kernel_rfl) (EqsOk.cons (by kernel_rfl) (by kernel_rfl) (by kernel_rfl) (EqsOk.cons (by kernel_rfl) (by kernel_rfl) (by kernel_rfl) EqsOk.nil))))))))

def T0 : PureTab := []
theorem T0_ok : TabPOk PR T0 := TabPOk.nil

def kUU : Cod (BitVec 64 × BitVec 64) := kTup kU kU (fun _ => rfl) (fun _ => rfl)

theorem add64_ok : CallOk PR 288 (fn3 kU kU kBit kUB add64) :=
  .inr (ext3 (fn := Tryz.f288) (by kernel_rfl) (by kernel_rfl) (by kernel_rfl) (by kernel_rfl) (r := add64Row) (by kernel_rfl) add64_run)
def T_add64 : PureTab := (288, fn3 kU kU kBit kUB add64) :: T0
theorem T_add64_ok : TabPOk PR T_add64 := TabPOk.cons add64_ok T0_ok

theorem sub64_ok : CallOk PR 301 (fn3 kU kU kBit kUB sub64) :=
  .inr (ext3 (fn := Tryz.f301) (by kernel_rfl) (by kernel_rfl) (by kernel_rfl) (by kernel_rfl) (r := sub64Row) (by kernel_rfl) sub64_run)
def T_sub64 : PureTab := (301, fn3 kU kU kBit kUB sub64) :: T_add64
theorem T_sub64_ok : TabPOk PR T_sub64 := TabPOk.cons sub64_ok T_add64_ok

theorem mul64_ctx : Ctx PR (envOf eqsT T_sub64) [] (fun _ => none) 400 287 :=
  ctx_of (envOf_ok eqsT_ok T_sub64_ok) mixed (fn := Tryz.f287) (by kernel_rfl) (by kernel_rfl) (by kernel_rfl) (tabOk_none _)
theorem mul64_run (x y : BitVec 64) : (afunR PR (envOf eqsT T_sub64) [] (fun _ => none) 400 287 [kU.enc x, kU.enc y]).strict = .leaf (kUU.enc (mulGo x y)) := by kernel_rfl
theorem mul64_ok : CallOk PR 287 (fn2 kU kU kUU mul64) :=
  .inl ⟨enters_of (fn := Tryz.f287) (by kernel_rfl) (by kernel_rfl) (by kernel_rfl), pure2 mul64_ctx (fun x y => leafVal (B := kUU) (y := mul64 x y) (by rw [mul64_run x y, mulGo_eq]))⟩
def T_mul64 : PureTab := (287, fn2 kU kU kUU mul64) :: T_sub64
theorem T_mul64_ok : TabPOk PR T_mul64 := TabPOk.cons mul64_ok T_sub64_ok

theorem wrap_id {n : Int} (h0 : -9223372036854775808 ≤ n) (h1 : n < 9223372036854775808) : IntKind.i64.wrap n = n := by
  simp only [IntKind.wrap, IntKind.bits, IntKind.signed]
  simp
  omega
end Go.Rq

/- Numbers of six words. -/
namespace Go.Rq
open Go Go.Proofs

abbrev pw : Cod W6 := c6.agg
def kWB : Cod (W6 × Bool) := kTup c6.agg kBool (fun _ => rfl) (fun _ => rfl)

theorem base_ctx : Ctx PR (envOf eqsT []) [] (fun _ => none) 40 181 :=
  ctx_of (envOf_ok eqsT_ok TabPOk.nil) mixed (fn := Tryz.f181) (by kernel_rfl) (by kernel_rfl) (by kernel_rfl) (tabOk_none _)
theorem base_run : (afunR PR (envOf eqsT []) [] (fun _ => none) 40 181 []).strict = .leaf (c6.agg.enc primeW) := by kernel_rfl
theorem base_ok : CallOk PR 181 (fn0 c6.agg primeW) :=
  .inl ⟨enters_of (fn := Tryz.f181) (by kernel_rfl) (by kernel_rfl) (by kernel_rfl), pure0 base_ctx (leafVal (B := c6.agg) (y := primeW) base_run)⟩

theorem order_ctx : Ctx PR (envOf eqsT []) [] (fun _ => none) 40 201 :=
  ctx_of (envOf_ok eqsT_ok TabPOk.nil) mixed (fn := Tryz.f201) (by kernel_rfl) (by kernel_rfl) (by kernel_rfl) (tabOk_none _)
theorem order_run : (afunR PR (envOf eqsT []) [] (fun _ => none) 40 201 []).strict = .leaf (c6.agg.enc orderW) := by kernel_rfl
theorem order_ok : CallOk PR 201 (fn0 c6.agg orderW) :=
  .inl ⟨enters_of (fn := Tryz.f201) (by kernel_rfl) (by kernel_rfl) (by kernel_rfl), pure0 order_ctx (leafVal (B := c6.agg) (y := orderW) order_run)⟩

def ofW (x : BitVec 64) : W6 := ⟨x, 0#64, 0#64, 0#64, 0#64, 0#64⟩
theorem of_ctx : Ctx PR (envOf eqsT []) [] (fun _ => none) 40 16 :=
  ctx_of (envOf_ok eqsT_ok TabPOk.nil) mixed (fn := Tryz.f16) (by kernel_rfl) (by kernel_rfl) (by kernel_rfl) (tabOk_none _)
theorem of_run (x : BitVec 64) : (afunR PR (envOf eqsT []) [] (fun _ => none) 40 16 [kU.enc x]).strict = .leaf (c6.agg.enc (ofW x)) := by kernel_rfl

/-! Which is the less. -/
def cmpL (a b : W6) : List (Bool × Int) := [(BitVec.ult a.w5 b.w5, -1), (BitVec.ult b.w5 a.w5, 1), (BitVec.ult a.w4 b.w4, -1), (BitVec.ult b.w4 a.w4, 1), (BitVec.ult a.w3 b.w3, -1), (BitVec.ult b.w3 a.w3, 1),
  (BitVec.ult a.w2 b.w2, -1), (BitVec.ult b.w2 a.w2, 1), (BitVec.ult a.w1 b.w1, -1), (BitVec.ult b.w1 a.w1, 1), (BitVec.ult a.w0 b.w0, -1), (BitVec.ult b.w0 a.w0, 1)]
theorem cmp_ctx : Ctx PR (envOf eqsT []) [10, 18] (fun _ => none) 40 98 :=
  ctx_of (envOf_ok eqsT_ok TabPOk.nil) mixed (fn := Tryz.f98) (by kernel_rfl) (by kernel_rfl) (by kernel_rfl) (tabOk_none _)
theorem cmp_run (a b : W6) : (afunR PR (envOf eqsT []) [10, 18] (fun _ => none) 40 98 [c6.agg.enc a, c6.agg.enc b]).strict = chain (kInt .i64) (cmpL a b) 0 := by kernel_rfl
theorem cmp_ok : CallOk PR 98 (fn2 c6.agg c6.agg (kInt .i64) fun a b => chainV (cmpL a b) 0) :=
  .inl ⟨enters_of (fn := Tryz.f98) (by kernel_rfl) (by kernel_rfl) (by kernel_rfl), pure2 cmp_ctx (fun a b => chainVal (cmp_run a b))⟩

/-! How many bits a word has. -/
def lenTab : ByteArray := ⟨#[0, 1, 2, 2, 3, 3, 3, 3, 4, 4, 4, 4, 4, 4, 4, 4, 5, 5, 5, 5, 5, 5, 5, 5, 5, 5, 5, 5, 5, 5, 5, 5, 6, 6, 6, 6, 6, 6, 6, 6, 6, 6, 6, 6, 6, 6, 6, 6, 6, 6, 6, 6, 6, 6, 6, 6, 6, 6, 6, 6, 6, 6, 6, 6, 7, 7, 7, 7, 7, 7, 7, 7, 7, 7, 7, 7, 7, 7, 7, 7, 7, 7, 7, 7, 7, 7, 7, 7, 7, 7, 7, 7, 7, 7, 7, 7, 7, 7, 7, 7, 7, 7, 7, 7, 7, 7, 7, 7, 7, 7, 7, 7, 7, 7, 7, 7, 7, 7, 7, 7, 7, 7, 7, 7, 7, 7, 7, 7, 8, 8, 8, 8, 8, 8, 8, 8, 8, 8, 8, 8, 8, 8, 8, 8, 8, 8, 8, 8, 8, 8, 8, 8, 8, 8, 8, 8, 8, 8, 8, 8, 8, 8, 8, 8, 8, 8, 8, 8, 8, 8, 8, 8, 8, 8, 8, 8, 8, 8, 8, 8, 8, 8, 8, 8, 8, 8, 8, 8, 8, 8, 8, 8, 8, 8, 8, 8, 8, 8, 8, 8, 8, 8, 8, 8, 8, 8, 8, 8, 8, 8, 8, 8, 8, 8, 8, 8, 8, 8, 8, 8, 8, 8, 8, 8, 8, 8, 8, 8, 8, 8, 8, 8, 8, 8, 8, 8, 8, 8, 8, 8, 8, 8, 8, 8, 8, 8, 8, 8, 8, 8, 8, 8, 8, 8, 8, 8]⟩

def lenLeaf (n : Int) (y : BitVec 64) : Tree AV :=
  .need (decide (0 ≤ IntKind.u8.wrap (Int.ofNat y.toNat) ∧ IntKind.u8.wrap (Int.ofNat y.toNat) < (lenTab.data.toList.length : Int)) && true)
    (.leaf (.v (.int .i64 (IntKind.i64.wrap (n + IntKind.i64.wrap (strAt lenTab (IntKind.u8.wrap (Int.ofNat y.toNat)).toNat : Nat))))))

def sh (x : BitVec 64) (n : Nat) : BitVec 64 := x >>> Nat.min n 64

set_option maxRecDepth 100000 in
theorem len64_run (x : BitVec 64) : Tree.but [4, 6, 8, 10] 0 (afunR PR (envOf eqsT []) [4, 8, 14] (fun _ => none) 40 250 [kU.enc x]) =
    .br (BitVec.ule 4294967296#64 x)
      (.br (BitVec.ule 65536#64 (sh x 32))
        (.need true (.need true (.br (BitVec.ule 256#64 (sh (sh x 32) 16)) (.need true (lenLeaf 56 (sh (sh (sh x 32) 16) 8))) (lenLeaf 48 (sh (sh x 32) 16)))))
        (.need true (.br (BitVec.ule 256#64 (sh x 32)) (.need true (lenLeaf 40 (sh (sh x 32) 8))) (lenLeaf 32 (sh x 32)))))
      (.br (BitVec.ule 65536#64 x)
        (.need true (.br (BitVec.ule 256#64 (sh x 16)) (.need true (lenLeaf 24 (sh (sh x 16) 8))) (lenLeaf 16 (sh x 16))))
        (.br (BitVec.ule 256#64 x) (.need true (lenLeaf 8 (sh x 8))) (lenLeaf 0 x))) := by kernel_rfl

/-- How many bits a number has. -/
def bl (n : Nat) : Nat := if n = 0 then 0 else n.log2 + 1

theorem bl_spec {n k : Nat} : bl n ≤ k ↔ n < 2 ^ k := by
  unfold bl
  split
  · rename_i h; subst h; simp; exact Nat.two_pow_pos k
  · rename_i h; rw [← Nat.log2_lt h]; omega

theorem bl_unique {n k : Nat} (h1 : n < 2 ^ k) (h2 : k = 0 ∨ 2 ^ (k - 1) ≤ n) : bl n = k := by
  have a := bl_spec.2 h1
  rcases h2 with rfl | h2
  · omega
  · cases k with
    | zero => omega
    | succ k =>
      have : ¬ bl n ≤ k := fun h => by
        have := bl_spec.1 h
        simp at h2; omega
      omega

theorem tab_ok : (List.range 256).all (fun k => Nat.blt k (2 ^ strAt lenTab k) && (Nat.beq (strAt lenTab k) 0 || Nat.ble (2 ^ (strAt lenTab k - 1)) k)) = true := by kernel_rfl

theorem tab_bl {k : Nat} (h : k < 256) : strAt lenTab k = bl k := by
  have := List.all_eq_true.1 tab_ok k (List.mem_range.2 h)
  simp only [Bool.and_eq_true, Bool.or_eq_true] at this
  refine (bl_unique ?_ ?_).symm
  · exact Nat.lt_of_lt_of_le (Nat.lt_succ_self k) (Nat.le_of_ble_eq_true this.1)
  · rcases this.2 with h | h
    · exact .inl (Nat.eq_of_beq_eq_true h)
    · exact .inr (Nat.le_of_ble_eq_true h)

theorem bl_shift {n s : Nat} (h : 2 ^ s ≤ n) : bl n = s + bl (n / 2 ^ s) := by
  have hp := Nat.two_pow_pos s
  have e : bl (n / 2 ^ s) ≠ 0 := by
    intro h0
    have : n / 2 ^ s < 2 ^ 0 := bl_spec.1 (Nat.le_of_eq h0)
    have h1 : 1 ≤ n / 2 ^ s := (Nat.le_div_iff_mul_le hp).2 (by omega)
    simp at this; omega
  apply bl_unique
  · have := bl_spec.1 (Nat.le_refl (bl (n / 2 ^ s)))
    rw [Nat.pow_add]
    rw [Nat.mul_comm]
    exact (Nat.div_lt_iff_lt_mul hp).1 this
  · right
    have h2 : ¬ n / 2 ^ s < 2 ^ (bl (n / 2 ^ s) - 1) := fun h => by
      have := bl_spec.2 h
      omega
    have h3 : 2 ^ (bl (n / 2 ^ s) - 1) * 2 ^ s ≤ n := by
      have := Nat.le_of_not_lt h2
      exact (Nat.le_div_iff_mul_le hp).1 this
    rw [show s + bl (n / 2 ^ s) - 1 = bl (n / 2 ^ s) - 1 + s by omega, Nat.pow_add]
    exact h3

theorem sh_toNat (x : BitVec 64) {n : Nat} (h : n ≤ 64) : (sh x n).toNat = x.toNat / 2 ^ n := by
  unfold sh
  have : Nat.min n 64 = n := Nat.min_eq_left h
  rw [this, BitVec.toNat_ushiftRight, Nat.shiftRight_eq_div_pow]

theorem lenLeaf_holds {n : Nat} {y : BitVec 64} (hn : n ≤ 56) (h : y.toNat < 256) : (lenLeaf n y).holds (fun q => flat q = some ((kInt .i64).val ((n + bl y.toNat : Nat) : Int))) := by
  have hb : bl y.toNat ≤ 8 := bl_spec.2 (by simpa using h)
  have hw : IntKind.u8.wrap (Int.ofNat y.toNat) = (y.toNat : Int) := by
    simp only [IntKind.wrap, IntKind.bits, IntKind.signed]
    simp
    omega
  have hl : (lenTab.data.toList.length : Int) = 256 := by kernel_rfl
  refine ⟨?_, ?_⟩
  · rw [hw, hl]; simp; omega
  · rw [hw]
    simp only [Int.toNat_natCast]
    rw [tab_bl h, wrap_id (n := (bl y.toNat : Int)) (by omega) (by omega), wrap_id (by omega) (by omega)]
    show some (Value.int .i64 ((n : Int) + (bl y.toNat : Int))) = some (Value.int .i64 ((n + bl y.toNat : Nat) : Int))
    rw [Int.natCast_add]

theorem ule_nat {a b : BitVec 64} : BitVec.ule a b = decide (a.toNat ≤ b.toNat) := by
  simp [BitVec.ule]

theorem len64_gives (x : BitVec 64) : Gives (afunR PR (envOf eqsT []) [4, 8, 14] (fun _ => none) 40 250 [kU.enc x]) ((kInt .i64).val ((bl x.toNat : Nat) : Int)) := by
  refine ⟨Tree.holds_but (l := [4, 6, 8, 10]) (i := 0) ?_⟩
  rw [len64_run]
  have hx := x.isLt
  have s32 : (sh x 32).toNat = x.toNat / 4294967296 := sh_toNat x (by decide)
  have s16 : (sh x 16).toNat = x.toNat / 65536 := sh_toNat x (by decide)
  have s8 : (sh x 8).toNat = x.toNat / 256 := sh_toNat x (by decide)
  have s3216 : (sh (sh x 32) 16).toNat = x.toNat / 4294967296 / 65536 := by rw [sh_toNat _ (by decide), s32]
  have s328 : (sh (sh x 32) 8).toNat = x.toNat / 4294967296 / 256 := by rw [sh_toNat _ (by decide), s32]
  have s168 : (sh (sh x 16) 8).toNat = x.toNat / 65536 / 256 := by rw [sh_toNat _ (by decide), s16]
  have s32168 : (sh (sh (sh x 32) 16) 8).toNat = x.toNat / 4294967296 / 65536 / 256 := by rw [sh_toNat _ (by decide), s3216]
  have e32 {m : Nat} (h : 4294967296 ≤ m) : bl m = 32 + bl (m / 4294967296) := bl_shift (s := 32) h
  have e16 {m : Nat} (h : 65536 ≤ m) : bl m = 16 + bl (m / 65536) := bl_shift (s := 16) h
  have e8 {m : Nat} (h : 256 ≤ m) : bl m = 8 + bl (m / 256) := bl_shift (s := 8) h
  have leaf {n : Nat} {y : BitVec 64} (hn : n ≤ 56) (h : y.toNat < 256) (e : bl x.toNat = n + bl y.toNat) : (lenLeaf n y).holds (fun q => flat q = some ((kInt .i64).val ((bl x.toNat : Nat) : Int))) := by
    rw [e]; exact lenLeaf_holds hn h
  simp only [ule_nat]
  refine ⟨fun h1 => ⟨fun h2 => ⟨rfl, rfl, fun h3 => ⟨rfl, ?_⟩, fun h3 => ?_⟩, fun h2 => ⟨rfl, fun h3 => ⟨rfl, ?_⟩, fun h3 => ?_⟩⟩, fun h1 => ⟨fun h2 => ⟨rfl, fun h3 => ⟨rfl, ?_⟩, fun h3 => ?_⟩, fun h2 => ⟨fun h3 => ⟨rfl, ?_⟩, fun h3 => ?_⟩⟩⟩
  · have h1 : 4294967296 ≤ x.toNat := of_decide_eq_true h1
    have h2 : 65536 ≤ (sh x 32).toNat := of_decide_eq_true h2
    have h3 : 256 ≤ (sh (sh x 32) 16).toNat := of_decide_eq_true h3
    rw [s32] at h2
    rw [s3216] at h3
    exact leaf (n := 56) (by decide) (by rw [s32168]; omega) (by rw [s32168, e32 h1, e16 h2, e8 h3]; omega)
  · have h1 : 4294967296 ≤ x.toNat := of_decide_eq_true h1
    have h2 : 65536 ≤ (sh x 32).toNat := of_decide_eq_true h2
    have h3 : ¬ 256 ≤ (sh (sh x 32) 16).toNat := of_decide_eq_false h3
    rw [s32] at h2
    rw [s3216] at h3
    exact leaf (n := 48) (by decide) (by rw [s3216]; omega) (by rw [s3216, e32 h1, e16 h2]; omega)
  · have h1 : 4294967296 ≤ x.toNat := of_decide_eq_true h1
    have h2 : ¬ 65536 ≤ (sh x 32).toNat := of_decide_eq_false h2
    have h3 : 256 ≤ (sh x 32).toNat := of_decide_eq_true h3
    rw [s32] at h2 h3
    exact leaf (n := 40) (by decide) (by rw [s328]; omega) (by rw [s328, e32 h1, e8 h3]; omega)
  · have h1 : 4294967296 ≤ x.toNat := of_decide_eq_true h1
    have h2 : ¬ 65536 ≤ (sh x 32).toNat := of_decide_eq_false h2
    have h3 : ¬ 256 ≤ (sh x 32).toNat := of_decide_eq_false h3
    rw [s32] at h2 h3
    exact leaf (n := 32) (by decide) (by rw [s32]; omega) (by rw [s32, e32 h1])
  · have h1 : ¬ 4294967296 ≤ x.toNat := of_decide_eq_false h1
    have h2 : 65536 ≤ x.toNat := of_decide_eq_true h2
    have h3 : 256 ≤ (sh x 16).toNat := of_decide_eq_true h3
    rw [s16] at h3
    exact leaf (n := 24) (by decide) (by rw [s168]; omega) (by rw [s168, e16 h2, e8 h3]; omega)
  · have h1 : ¬ 4294967296 ≤ x.toNat := of_decide_eq_false h1
    have h2 : 65536 ≤ x.toNat := of_decide_eq_true h2
    have h3 : ¬ 256 ≤ (sh x 16).toNat := of_decide_eq_false h3
    rw [s16] at h3
    exact leaf (n := 16) (by decide) (by rw [s16]; omega) (by rw [s16, e16 h2])
  · have h1 : ¬ 4294967296 ≤ x.toNat := of_decide_eq_false h1
    have h2 : ¬ 65536 ≤ x.toNat := of_decide_eq_false h2
    have h3 : 256 ≤ x.toNat := of_decide_eq_true h3
    exact leaf (n := 8) (by decide) (by rw [s8]; omega) (by rw [s8, e8 h3])
  · have h1 : ¬ 4294967296 ≤ x.toNat := of_decide_eq_false h1
    have h2 : ¬ 65536 ≤ x.toNat := of_decide_eq_false h2
    have h3 : ¬ 256 ≤ x.toNat := of_decide_eq_false h3
    exact leaf (n := 0) (by decide) (by omega) (by omega)

theorem len64_ctx : Ctx PR (envOf eqsT []) [4, 8, 14] (fun _ => none) 40 250 :=
  ctx_of (envOf_ok eqsT_ok TabPOk.nil) mixed (fn := Tryz.f250) (by kernel_rfl) (by kernel_rfl) (by kernel_rfl) (tabOk_none _)
theorem len64_ok : CallOk PR 250 (fn1 kU (kInt .i64) fun x => ((bl x.toNat : Nat) : Int)) :=
  .inl ⟨enters_of (fn := Tryz.f250) (by kernel_rfl) (by kernel_rfl) (by kernel_rfl), pure1 len64_ctx len64_gives⟩

/-! How many bits a number of six words has. -/
def lenT (L : BitVec 64 → Int) : PureTab := [(250, fn1 kU (kInt .i64) L)]
theorem lenT_ok : TabPOk PR (lenT fun x => ((bl x.toNat : Nat) : Int)) := TabPOk.cons len64_ok TabPOk.nil
def lenL (L : BitVec 64 → Int) (a : W6) : List (Bool × Int) := [(a.w5 != 0#64, IntKind.i64.wrap (320 + L a.w5)), (a.w4 != 0#64, IntKind.i64.wrap (256 + L a.w4)), (a.w3 != 0#64, IntKind.i64.wrap (192 + L a.w3)),
  (a.w2 != 0#64, IntKind.i64.wrap (128 + L a.w2)), (a.w1 != 0#64, IntKind.i64.wrap (64 + L a.w1)), (a.w0 != 0#64, IntKind.i64.wrap (0 + L a.w0))]
theorem len_run (L : BitVec 64 → Int) (a : W6) : (afunR PR (envOf eqsT (lenT L)) [11] (fun _ => none) 40 240 [c6.agg.enc a]).strict = chain (kInt .i64) (lenL L a) 0 := by kernel_rfl
theorem len_ctx : Ctx PR (envOf eqsT (lenT fun x => ((bl x.toNat : Nat) : Int))) [11] (fun _ => none) 40 240 :=
  ctx_of (envOf_ok eqsT_ok lenT_ok) mixed (fn := Tryz.f240) (by kernel_rfl) (by kernel_rfl) (by kernel_rfl) (tabOk_none _)
def lenI (a : W6) : Int := chainV (lenL (fun x => ((bl x.toNat : Nat) : Int)) a) 0
theorem len_ok : CallOk PR 240 (fn1 c6.agg (kInt .i64) lenI) :=
  .inl ⟨enters_of (fn := Tryz.f240) (by kernel_rfl) (by kernel_rfl) (by kernel_rfl), pure1 len_ctx (fun a => chainVal (len_run _ a))⟩

/-! One bit of a number. -/
def andI (i : Int) : Int := IntKind.i64.wrap ((BitVec.ofInt 64 i &&& BitVec.ofInt 64 63).toNat : Int)
def bitTree (a : W6) (i : Int) : Tree AV :=
  .br (decide (i < 0)) (.need true (.leaf (.v (.int .i64 0)))) (.br (decide (i ≥ 384)) (.need true (.leaf (.v (.int .i64 0))))
    (.need (decide (0 ≤ andI i) && (decide (0 + (i.fdiv (2 ^ 6)).toNat * 1 < 6) && (decide (0 ≤ i.fdiv (2 ^ 6) ∧ i.fdiv (2 ^ 6) < 6) && true)))
      (.leaf (.v (.int .i64 (IntKind.i64.wrap (Int.ofNat ((a.get (0 + (i.fdiv (2 ^ 6)).toNat * 1) >>> Nat.min (andI i).toNat 64) &&& bitW true).toNat)))))))
set_option maxRecDepth 100000 in
theorem bit_run (a : W6) (i : Int) : Tree.but [2] 0 (afunR PR (envW eqsT []) [7, 10] (fun _ => none) 40 265 [c6.agg.enc a, (kInt .i64).enc i]) = bitTree a i := by kernel_rfl

def bitI (a : W6) (i : Int) : Int := bif decide (i < 0) then 0 else bif decide (i ≥ 384) then 0 else bif a.bit i.toNat then 1 else 0

theorem and63 {i : Int} (h0 : 0 ≤ i) (h1 : i < 384) : andI i = i % 64 := by
  obtain ⟨n, rfl⟩ := Int.eq_ofNat_of_zero_le h0
  unfold andI
  have e : (BitVec.ofInt 64 (n : Int) &&& BitVec.ofInt 64 63).toNat = n % 64 := by
    rw [BitVec.toNat_and]
    have e1 : (BitVec.ofInt 64 (n : Int)).toNat = n := by simp; omega
    have e2 : (BitVec.ofInt 64 63).toNat = 63 := by decide
    rw [e1, e2]
    exact Nat.and_two_pow_sub_one_eq_mod n 6
  rw [e, wrap_id (by omega) (by omega)]
  omega

theorem bit_gives (a : W6) (i : Int) : Gives (afunR PR (envW eqsT []) [7, 10] (fun _ => none) 40 265 [c6.agg.enc a, (kInt .i64).enc i]) ((kInt .i64).val (bitI a i)) := by
  refine ⟨Tree.holds_but (l := [2]) (i := 0) ?_⟩
  rw [bit_run]
  unfold bitTree bitI
  refine ⟨fun h1 => by rw [h1]; exact ⟨rfl, rfl⟩, fun h1 => ⟨fun h2 => by rw [h1, h2]; exact ⟨rfl, rfl⟩, fun h2 => ?_⟩⟩
  rw [h1, h2]
  have h1 : ¬ i < 0 := of_decide_eq_false h1
  have h2 : ¬ i ≥ 384 := of_decide_eq_false h2
  have hf : i.fdiv (2 ^ 6) = i / 64 := by
    rw [Int.fdiv_eq_ediv_of_nonneg _ (by decide)]
    rfl
  have ha := and63 (i := i) (by omega) (by omega)
  rw [hf, ha]
  have e1 : 0 + (i / 64).toNat * 1 = i.toNat / 64 := by omega
  have e2 : Nat.min (i % 64).toNat 64 = i.toNat % 64 := by show min _ _ = _; omega
  refine ⟨?_, ?_⟩
  · simp; omega
  · rw [e1, e2]
    show some (Value.int .i64 _) = some (Value.int .i64 _)
    congr 2
    unfold W6.bit
    generalize a.get (i.toNat / 64) >>> (i.toNat % 64) = y
    have hb : (y &&& 1#64).toNat < 2 := by
      rw [BitVec.toNat_and, show (1#64).toNat = 1 from rfl, Nat.and_one_is_mod]
      omega
    rw [show bitW true = 1#64 from rfl]
    cases hc : (y &&& 1#64) == 1#64 with
    | true =>
      rw [eq_of_beq hc]
      rfl
    | false =>
      have : (y &&& 1#64).toNat = 0 := by
        have hne : (y &&& 1#64) ≠ 1#64 := by simpa using hc
        have : (y &&& 1#64).toNat ≠ 1 := fun h => hne (BitVec.eq_of_toNat_eq (by rw [h]; rfl))
        omega
      rw [this]
      rfl

theorem bit_ctx : Ctx PR (envW eqsT []) [7, 10] (fun _ => none) 40 265 :=
  ctx_of (envW_ok eqsT_ok TabPOk.nil) mixed (fn := Tryz.f265) (by kernel_rfl) (by kernel_rfl) (by kernel_rfl) (tabOk_none _)
theorem bit_ok : CallOk PR 265 (fn2 c6.agg (kInt .i64) (kInt .i64) bitI) :=
  .inl ⟨enters_of (fn := Tryz.f265) (by kernel_rfl) (by kernel_rfl) (by kernel_rfl), pure2 bit_ctx bit_gives⟩
theorem of_ok : CallOk PR 16 (fn1 kU c6.agg ofW) :=
  .inl ⟨enters_of (fn := Tryz.f16) (by kernel_rfl) (by kernel_rfl) (by kernel_rfl), pure1 of_ctx (fun x => leafVal (B := c6.agg) (y := ofW x) (of_run x))⟩
end Go.Rq
