import Derived.Test.YtedplhdabefnkaaGreatDoorRq05
import Derived.Test.YtedplhdabefnkaaGreatDoorRq11
namespace Go.Rq
open Go Go.Proofs
def powT (M : W6 -> W6 -> W6) : PureTab := [(200, fn2 c6.agg c6.agg c6.agg M), (202, fn0 c6.agg oneW)]
theorem powT_ok : TabPOk PR (powT mulW) := TabPOk.cons mmul_ok (TabPOk.cons one_ok TabPOk.nil)
noncomputable def powE (M : W6 -> W6 -> W6) : Env := envW eqsT (powT M)
theorem powE_ok : EnvOk PR (powE mulW) := envW_ok eqsT_ok powT_ok
def powK : Keep := ⟨[2, 3, 4, 5, 6], [0, 1, 2, 4], 7⟩
@[irreducible] noncomputable def powX (M : W6 -> W6 -> W6) (a e : W6) : XS := entryOf PR (powE M) [9, 23] (fun _ => none) 10 238 [c6.agg.enc a, c6.agg.enc e] [] 0 0 powK
@[irreducible] noncomputable def powI (M : W6 -> W6 -> W6) (a e : W6) (d : Int × W6) : XS := ((powX M a e).setT 6 (.v (.int .i64 d.1))).setB 4 (c6.enc d.2)
@[irreducible] noncomputable def powC : Code := roundOf PR 238 0
def quo64 (z : Int) : Int := IntKind.i64.wrap (Int.tdiv z 64)
def powCond (z : Int) : Bool := decide (0 <= Int.tmod z 64) && (decide (0 + (quo64 z).toNat * 1 < 6) && (decide (0 <= quo64 z /\ quo64 z < 6) && true))
set_option maxRecDepth 100000 in
theorem pow_round (M : W6 -> W6 -> W6) (a e : W6) (z : Int) (out : W6) : Tree.but [2] 0 (roundT PR (powE M) [9, 23] (fun _ => none) 10 powK powK powK powC (powI M a e (z, out))) =
 .br (decide (z >= 0))
  (.br (((e.get (0 + (quo64 z).toNat * 1) >>> Nat.min (Int.tmod z 64).toNat 64) &&& bitW true) == bitW true)
   (.need (powCond z)
    (.leaf (.normal, powI M a e (IntKind.i64.wrap (z - 1), M (M out out) a))))
   (.need (powCond z)
    (.leaf (.normal, powI M a e (IntKind.i64.wrap (z - 1), M out out)))))
  (.leaf (.exit 0, powI M a e (z, out))) := by kernel_rfl
noncomputable def powB (M : W6 -> W6 -> W6) (a e r : W6) : BEnt := ⟨powK.tm, powK.ids, powK.n, powX M a e, .leaf (.normal, powI M a e (-1, r))⟩
set_option maxRecDepth 100000 in
theorem pow_run (M : W6 -> W6 -> W6) (a e r : W6) : (afunR PR (powE M) [9, 23] (tabOf [(0, powB M a e r)]) 10 238 [c6.agg.enc a, c6.agg.enc e]).strict =
 .same (powX M a e) (powX M a e) (.leaf (c6.agg.enc r)) := by kernel_rfl
theorem pow_head (M : W6 -> W6 -> W6) (a e : W6) : powX M a e = powI M a e (383, oneW) := by kernel_rfl
theorem pow_blk : blkAll 0 (bodyOf PR 238) = [.loop powC] := by kernel_rfl
theorem pow_codeOk : codeOk (powE mulW) powC = true := by kernel_rfl
theorem wrap_id {n : Int} (h0 : -9223372036854775808 <= n) (h1 : n < 9223372036854775808) : IntKind.i64.wrap n = n := by
 simp only [IntKind.wrap, IntKind.bits, IntKind.signed]
 simp
 omega
theorem quo64_eq {z : Int} (h0 : 0 <= z) (h1 : z <= 383) : quo64 z = z / 64 := by
 unfold quo64
 rw [Int.tdiv_eq_ediv_of_nonneg h0, wrap_id]
 all_goals omega
theorem pow_law (M : W6 -> W6 -> W6) (a e : W6) (rt : XS -> Tree (AExit × XS)) (I : Int × W6 -> XS) (hr : ∀ (z : Int) (out : W6), Tree.but [2] 0 (rt (I (z, out))) =
 .br (decide (z >= 0))
  (.br (((e.get (0 + (quo64 z).toNat * 1) >>> Nat.min (Int.tmod z 64).toNat 64) &&& bitW true) == bitW true)
   (.need (powCond z)
    (.leaf (.normal, I (IntKind.i64.wrap (z - 1), M (M out out) a))))
   (.need (powCond z)
    (.leaf (.normal, I (IntKind.i64.wrap (z - 1), M out out)))))
  (.leaf (.exit 0, I (z, out)))) {K : AExit -> XS -> Prop} (hK : K .normal (I (-1, powG M a e 384 oneW))) :
 ∀ d : Int × W6, (-1 <= d.1 /\ d.1 <= 383 /\ powG M a e (d.1 + 1).toNat d.2 = powG M a e 384 oneW) -> (rt (I d)).holds (fun r => match r.1 with
  | .normal => ∃ j : Int × W6, (-1 <= j.1 /\ j.1 <= 383 /\ powG M a e (j.1 + 1).toNat j.2 = powG M a e 384 oneW) /\ (j.1 + 1).toNat < (d.1 + 1).toNat /\ r.2 = I j
  | .exit q => if q = 0 then K .normal r.2 else K (.exit q) r.2
  | .ret => K .ret r.2) := by
 generalize hR : powG M a e 384 oneW = R at *
 rintro ⟨z, out⟩ ⟨h0, h1, h2⟩
 apply Tree.holds_but (l := [2]) (i := 0)
 rw [hr]
 refine ⟨fun hz => ?_, fun hz => ?_⟩
 . have hz : 0 <= z := by simpa using hz
   have hq := quo64_eq hz h1
   have hm : Int.tmod z 64 = z % 64 := Int.tmod_eq_emod_of_nonneg hz
   have hw : IntKind.i64.wrap (z - 1) = z - 1 := wrap_id (by omega) (by omega)
   have hc : powCond z = true := by
    unfold powCond
    rw [hq, hm]
    simp
    omega
   have hk : (z + 1).toNat = z.toNat + 1 := by omega
   have hg : (((e.get (0 + (quo64 z).toNat * 1) >>> Nat.min (Int.tmod z 64).toNat 64) &&& bitW true) == bitW true) = e.bit z.toNat := by
    have e1 : 0 + (quo64 z).toNat * 1 = z.toNat / 64 := by rw [hq]; omega
    have e2 : Nat.min (Int.tmod z 64).toNat 64 = z.toNat % 64 := by rw [hm]; show min _ _ = _; omega
    rw [e1, e2]
    rfl
   rw [hg]
   simp only at h2
   rw [hk] at h2
   simp only [powG] at h2
   have hk' : (z - 1 + 1).toNat = z.toNat := by omega
   refine ⟨fun hb => ⟨hc, ⟨z - 1, M (M out out) a⟩, ⟨by simp only; omega, by simp only; omega, ?_⟩, ?_, ?_⟩, fun hb => ⟨hc, ⟨z - 1, M out out⟩, ⟨by simp only; omega, by simp only; omega, ?_⟩, ?_, ?_⟩⟩
   . rw [hb] at h2
     simp only [hk']
     exact h2
   . show (z - 1 + 1).toNat < (z + 1).toNat
     omega
   . rw [hw]
   . rw [hb] at h2
     simp only [hk']
     exact h2
   . show (z - 1 + 1).toNat < (z + 1).toNat
     omega
   . rw [hw]
 . have hz : z = -1 := by
    have : ¬ 0 <= z := by simpa using hz
    omega
   subst hz
   have h2 : out = R := h2
   show (if (0 : Nat) = 0 then K .normal (I (-1, out)) else K (.exit 0) (I (-1, out)))
   rw [if_pos rfl, h2]
   exact hK
theorem pow_start (M : W6 -> W6 -> W6) (a e : W6) : -1 <= ((383, oneW) : Int × W6).1 /\ ((383, oneW) : Int × W6).1 <= 383 /\ powG M a e (((383, oneW) : Int × W6).1 + 1).toNat ((383, oneW) : Int × W6).2 = powG M a e 384 oneW := by
 have hk : ((383 : Int) + 1).toNat = 384 := by decide
 refine ⟨?_, ?_, ?_⟩
 . show (-1 : Int) <= 383
   omega
 . show (383 : Int) <= 383
   omega
 . exact congrArg (fun k => powG M a e k oneW) hk
theorem pow_loop (a e : W6) {F : Fr} {ds : List Deferred} {K : AExit -> XS -> Prop} (hK : K .normal (powI mulW a e (-1, pow384 a e))) :
 Tri PR F ds 0 (.block 0 (.loop powC)) (powX mulW a e) K :=
 Eq.subst (motive := fun y => Tri PR F ds 0 (.block 0 (.loop powC)) y K) (pow_head mulW a e).symm <| blockLoop (m := 0) powE_ok mixed (sym := [9, 23]) (tab := fun _ => none) (lf := 10) (k := powK) (kx := powK) (kr := powK) (Nat.zero_le _) (Nat.zero_le _) (Nat.zero_le _) pow_codeOk (tabOk_none _)
  (powI mulW a e) (fun d => -1 <= d.1 /\ d.1 <= 383 /\ powG mulW a e (d.1 + 1).toNat d.2 = powG mulW a e 384 oneW) (fun d => (d.1 + 1).toNat) (383, oneW) (pow_start mulW a e)
  (pow_law mulW a e _ (powI mulW a e) (pow_round mulW a e) hK)
theorem pow_ctx (a e : W6) : Ctx PR (powE mulW) [9, 23] (tabOf [(0, powB mulW a e (pow384 a e))]) 10 238 :=
 ctx_of powE_ok mixed (fn := Tryz.f238) (by kernel_rfl) (by kernel_rfl) (by kernel_rfl)
  (tabOk_one (Nat.zero_le _) pow_blk fun F ds K h => pow_loop a e h)
theorem pow_ok : CallOk PR 238 (fn2 c6.agg c6.agg c6.agg pow384) :=
 .inl ⟨entersB (by kernel_rfl),
  pure2X fun a e => .of (pow_ctx a e) (sameVal (pow_run mulW a e (pow384 a e)))⟩
def invT (Q : W6 -> W6 -> W6) : PureTab := [(238, fn2 c6.agg c6.agg c6.agg Q)]
theorem invT_ok : TabPOk PR (invT pow384) := TabPOk.cons pow_ok TabPOk.nil
set_option maxRecDepth 100000 in
theorem minv_run (Q : W6 -> W6 -> W6) (a : W6) : (afunR PR (envOf eqsT (invT Q)) [] (fun _ => none) 40 201 [c6.agg.enc a]).strict = .leaf (c6.agg.enc (Q a expInv)) := by kernel_rfl
theorem minv_ctx : Ctx PR (envOf eqsT (invT pow384)) [] (fun _ => none) 40 201 :=
 ctxB (envOf_ok eqsT_ok invT_ok) mixed (by kernel_rfl)
theorem minv_ok : CallOk PR 201 (fn1 c6.agg c6.agg invW) :=
 .inl ⟨entersB (by kernel_rfl), pure1 minv_ctx (fun a => leafVal (B := c6.agg) (y := invW a) (minv_run pow384 a))⟩
def T1 (o : FO W6) : PureTab := [(198, fn2 c6.agg c6.agg c6.agg o.add),
 (199, fn2 c6.agg c6.agg c6.agg o.sub),
 (200, fn2 c6.agg c6.agg c6.agg o.mul),
 (201, fn1 c6.agg c6.agg o.inv),
 (203, fn1 c6.agg c6.agg o.to),
 (227, fn1 c6.agg c6.agg o.back),
 (202, fn0 c6.agg o.one)]
theorem T1_eq : [(198, fn2 c6.agg c6.agg c6.agg addW), (199, fn2 c6.agg c6.agg c6.agg subW), (200, fn2 c6.agg c6.agg c6.agg mulW), (201, fn1 c6.agg c6.agg invW), (203, fn1 c6.agg c6.agg toW), (227, fn1 c6.agg c6.agg fromW), (202, fn0 c6.agg oneW)] = T1 fW := by kernel_rfl
theorem T1_ok : TabPOk PR (T1 fW) := Eq.subst (motive := TabPOk PR) T1_eq (TabPOk.cons madd_ok (TabPOk.cons msub_ok (TabPOk.cons mmul_ok (TabPOk.cons minv_ok (TabPOk.cons mto_ok (TabPOk.cons mfrom_ok (TabPOk.cons one_ok (TabPOk.nil))))))))
def kWB : Cod (W6 × Bool) := kTup c6.agg kBool (fun _ => rfl) (fun _ => rfl)
theorem base_ctx : Ctx PR (envOf eqsT []) [] (fun _ => none) 40 117 :=
 ctxB (envOf_ok eqsT_ok TabPOk.nil) mixed (by kernel_rfl)
theorem base_run : (afunR PR (envOf eqsT []) [] (fun _ => none) 40 117 []).strict = .leaf (c6.agg.enc primeW) := by kernel_rfl
theorem base_ok : CallOk PR 117 (fn0 c6.agg primeW) :=
 .inl ⟨entersB (by kernel_rfl), pure0 base_ctx (leafVal (B := c6.agg) (y := primeW) base_run)⟩
theorem order_ctx : Ctx PR (envOf eqsT []) [] (fun _ => none) 40 136 :=
 ctxB (envOf_ok eqsT_ok TabPOk.nil) mixed (by kernel_rfl)
theorem order_run : (afunR PR (envOf eqsT []) [] (fun _ => none) 40 136 []).strict = .leaf (c6.agg.enc orderW) := by kernel_rfl
theorem order_ok : CallOk PR 136 (fn0 c6.agg orderW) :=
 .inl ⟨entersB (by kernel_rfl), pure0 order_ctx (leafVal (B := c6.agg) (y := orderW) order_run)⟩
def ofW (x : BitVec 64) : W6 := ⟨x, 0#64, 0#64, 0#64, 0#64, 0#64⟩
theorem of_ctx : Ctx PR (envOf eqsT []) [] (fun _ => none) 40 33 :=
 ctxB (envOf_ok eqsT_ok TabPOk.nil) mixed (by kernel_rfl)
theorem of_run (x : BitVec 64) : (afunR PR (envOf eqsT []) [] (fun _ => none) 40 33 [kU.enc x]).strict = .leaf (c6.agg.enc (ofW x)) := by kernel_rfl
def cmpL (a b : W6) : List (Bool × Int) := [(BitVec.ult a.w5 b.w5, -1), (BitVec.ult b.w5 a.w5, 1), (BitVec.ult a.w4 b.w4, -1), (BitVec.ult b.w4 a.w4, 1), (BitVec.ult a.w3 b.w3, -1), (BitVec.ult b.w3 a.w3, 1),
 (BitVec.ult a.w2 b.w2, -1), (BitVec.ult b.w2 a.w2, 1), (BitVec.ult a.w1 b.w1, -1), (BitVec.ult b.w1 a.w1, 1), (BitVec.ult a.w0 b.w0, -1), (BitVec.ult b.w0 a.w0, 1)]
theorem cmp_ctx : Ctx PR (envOf eqsT []) [10, 18] (fun _ => none) 40 86 :=
 ctxB (envOf_ok eqsT_ok TabPOk.nil) mixed (by kernel_rfl)
theorem cmp_run (a b : W6) : (afunR PR (envOf eqsT []) [10, 18] (fun _ => none) 40 86 [c6.agg.enc a, c6.agg.enc b]).strict = chain (kInt .i64) (cmpL a b) 0 := by kernel_rfl
theorem cmp_ok : CallOk PR 86 (fn2 c6.agg c6.agg (kInt .i64) fun a b => chainV (cmpL a b) 0) :=
 .inl ⟨entersB (by kernel_rfl), pure2 cmp_ctx (fun a b => chainVal (cmp_run a b))⟩
def lenTab : ByteArray := ⟨#[0, 1, 2, 2, 3, 3, 3, 3, 4, 4, 4, 4, 4, 4, 4, 4, 5, 5, 5, 5, 5, 5, 5, 5, 5, 5, 5, 5, 5, 5, 5, 5, 6, 6, 6, 6, 6, 6, 6, 6, 6, 6, 6, 6, 6, 6, 6, 6, 6, 6, 6, 6, 6, 6, 6, 6, 6, 6, 6, 6, 6, 6, 6, 6, 7, 7, 7, 7, 7, 7, 7, 7, 7, 7, 7, 7, 7, 7, 7, 7, 7, 7, 7, 7, 7, 7, 7, 7, 7, 7, 7, 7, 7, 7, 7, 7, 7, 7, 7, 7, 7, 7, 7, 7, 7, 7, 7, 7, 7, 7, 7, 7, 7, 7, 7, 7, 7, 7, 7, 7, 7, 7, 7, 7, 7, 7, 7, 7, 8, 8, 8, 8, 8, 8, 8, 8, 8, 8, 8, 8, 8, 8, 8, 8, 8, 8, 8, 8, 8, 8, 8, 8, 8, 8, 8, 8, 8, 8, 8, 8, 8, 8, 8, 8, 8, 8, 8, 8, 8, 8, 8, 8, 8, 8, 8, 8, 8, 8, 8, 8, 8, 8, 8, 8, 8, 8, 8, 8, 8, 8, 8, 8, 8, 8, 8, 8, 8, 8, 8, 8, 8, 8, 8, 8, 8, 8, 8, 8, 8, 8, 8, 8, 8, 8, 8, 8, 8, 8, 8, 8, 8, 8, 8, 8, 8, 8, 8, 8, 8, 8, 8, 8, 8, 8, 8, 8, 8, 8, 8, 8, 8, 8, 8, 8, 8, 8, 8, 8, 8, 8, 8, 8, 8, 8, 8, 8]⟩
def lenLeaf (n : Int) (y : BitVec 64) : Tree AV :=
 .need (decide (0 <= IntKind.u8.wrap (Int.ofNat y.toNat) /\ IntKind.u8.wrap (Int.ofNat y.toNat) < (lenTab.data.toList.length : Int)) && true)
  (.leaf (.v (.int .i64 (IntKind.i64.wrap (n + IntKind.i64.wrap (strAt lenTab (IntKind.u8.wrap (Int.ofNat y.toNat)).toNat : Nat))))))
def sh (x : BitVec 64) (n : Nat) : BitVec 64 := x >>> Nat.min n 64
set_option maxRecDepth 100000 in
theorem len64_run (x : BitVec 64) : Tree.but [4, 6, 8, 10] 0 (afunR PR (envOf eqsT []) [4, 8, 14] (fun _ => none) 40 162 [kU.enc x]) =
 .br (BitVec.ule 4294967296#64 x)
  (.br (BitVec.ule 65536#64 (sh x 32))
   (.need true (.need true (.br (BitVec.ule 256#64 (sh (sh x 32) 16)) (.need true (lenLeaf 56 (sh (sh (sh x 32) 16) 8))) (lenLeaf 48 (sh (sh x 32) 16)))))
   (.need true (.br (BitVec.ule 256#64 (sh x 32)) (.need true (lenLeaf 40 (sh (sh x 32) 8))) (lenLeaf 32 (sh x 32)))))
  (.br (BitVec.ule 65536#64 x)
   (.need true (.br (BitVec.ule 256#64 (sh x 16)) (.need true (lenLeaf 24 (sh (sh x 16) 8))) (lenLeaf 16 (sh x 16))))
   (.br (BitVec.ule 256#64 x) (.need true (lenLeaf 8 (sh x 8))) (lenLeaf 0 x))) := by kernel_rfl
def bl (n : Nat) : Nat := if n = 0 then 0 else n.log2 + 1
theorem bl_spec {n k : Nat} : bl n <= k ↔ n < 2 ^ k := by
 unfold bl
 split
 . rename_i h; subst h; simp; exact Nat.two_pow_pos k
 . rename_i h; rw [<- Nat.log2_lt h]; omega
theorem bl_unique {n k : Nat} (h1 : n < 2 ^ k) (h2 : k = 0 \/ 2 ^ (k - 1) <= n) : bl n = k := by
 have a := bl_spec.2 h1
 rcases h2 with rfl | h2
 . omega
 . cases k with
   | zero => omega
   | succ k =>
    have : ¬ bl n <= k := fun h => by
     have := bl_spec.1 h
     simp at h2; omega
    omega
theorem tab_ok : (List.range 256).all (fun k => Nat.blt k (2 ^ strAt lenTab k) && (Nat.beq (strAt lenTab k) 0 || Nat.ble (2 ^ (strAt lenTab k - 1)) k)) = true := by kernel_rfl
theorem tab_bl {k : Nat} (h : k < 256) : strAt lenTab k = bl k := by
 have := List.all_eq_true.1 tab_ok k (List.mem_range.2 h)
 simp only [Bool.and_eq_true, Bool.or_eq_true] at this
 refine (bl_unique ?_ ?_).symm
 . exact Nat.lt_of_lt_of_le (Nat.lt_succ_self k) (Nat.le_of_ble_eq_true this.1)
 . rcases this.2 with h | h
   . exact .inl (Nat.eq_of_beq_eq_true h)
   . exact .inr (Nat.le_of_ble_eq_true h)
theorem bl_shift {n s : Nat} (h : 2 ^ s <= n) : bl n = s + bl (n / 2 ^ s) := by
 have hp := Nat.two_pow_pos s
 have e : bl (n / 2 ^ s) ≠ 0 := by
  intro h0
  have : n / 2 ^ s < 2 ^ 0 := bl_spec.1 (Nat.le_of_eq h0)
  have h1 : 1 <= n / 2 ^ s := (Nat.le_div_iff_mul_le hp).2 (by omega)
  simp at this; omega
 apply bl_unique
 . have := bl_spec.1 (Nat.le_refl (bl (n / 2 ^ s)))
   rw [Nat.pow_add]
   rw [Nat.mul_comm]
   exact (Nat.div_lt_iff_lt_mul hp).1 this
 . right
   have h2 : ¬ n / 2 ^ s < 2 ^ (bl (n / 2 ^ s) - 1) := fun h => by
    have := bl_spec.2 h
    omega
   have h3 : 2 ^ (bl (n / 2 ^ s) - 1) * 2 ^ s <= n := by
    have := Nat.le_of_not_lt h2
    exact (Nat.le_div_iff_mul_le hp).1 this
   rw [show s + bl (n / 2 ^ s) - 1 = bl (n / 2 ^ s) - 1 + s by omega, Nat.pow_add]
   exact h3
theorem sh_toNat (x : BitVec 64) {n : Nat} (h : n <= 64) : (sh x n).toNat = x.toNat / 2 ^ n := by
 unfold sh
 have : Nat.min n 64 = n := Nat.min_eq_left h
 rw [this, BitVec.toNat_ushiftRight, Nat.shiftRight_eq_div_pow]
theorem lenLeaf_holds {n : Nat} {y : BitVec 64} (hn : n <= 56) (h : y.toNat < 256) : (lenLeaf n y).holds (fun q => flat q = some ((kInt .i64).val ((n + bl y.toNat : Nat) : Int))) := by
 have hb : bl y.toNat <= 8 := bl_spec.2 (by simpa using h)
 have hw : IntKind.u8.wrap (Int.ofNat y.toNat) = (y.toNat : Int) := by
  simp only [IntKind.wrap, IntKind.bits, IntKind.signed]
  simp
  omega
 have hl : (lenTab.data.toList.length : Int) = 256 := by kernel_rfl
 refine ⟨?_, ?_⟩
 . rw [hw, hl]; simp; omega
 . rw [hw]
   simp only [Int.toNat_natCast]
   rw [tab_bl h, wrap_id (n := (bl y.toNat : Int)) (by omega) (by omega), wrap_id (by omega) (by omega)]
   show some (Value.int .i64 ((n : Int) + (bl y.toNat : Int))) = some (Value.int .i64 ((n + bl y.toNat : Nat) : Int))
   rw [Int.natCast_add]
theorem ule_nat {a b : BitVec 64} : BitVec.ule a b = decide (a.toNat <= b.toNat) := by
 simp [BitVec.ule]
theorem len64_gives (x : BitVec 64) : Gives (afunR PR (envOf eqsT []) [4, 8, 14] (fun _ => none) 40 162 [kU.enc x]) ((kInt .i64).val ((bl x.toNat : Nat) : Int)) := by
 refine ⟨Tree.holds_but (l := [4, 6, 8, 10]) (i := 0) ?_⟩
 rw [len64_run]
 have hx := x.isLt
 have s32 : (sh x 32).toNat = x.toNat / 4294967296 := sh_toNat x (by decide)
 have s16 : (sh x 16).toNat = x.toNat / 65536 := sh_toNat x (by decide)
 have s8 : (sh x 8).toNat = x.toNat / 256 := sh_toNat x (by decide)
 have s3216 : (sh (sh x 32) 16).toNat = x.toNat / 4294967296 / 65536 := by rw [sh_toNat _ (by decide), s32]
 have s328 : (sh (sh x 32) 8).toNat = x.toNat / 4294967296 / 256 := by rw [sh_toNat _ (by decide), s32]
 have s168 : (sh (sh x 16) 8).toNat = x.toNat / 65536 / 256 := by rw [sh_toNat _ (by decide), s16]
 have s32168 : (sh (sh (sh x 32) 16) 8).toNat = x.toNat / 4294967296 / 65536 / 256 := by rw [sh_toNat _ (by decide), s3216]
 have e32 {m : Nat} (h : 4294967296 <= m) : bl m = 32 + bl (m / 4294967296) := bl_shift (s := 32) h
 have e16 {m : Nat} (h : 65536 <= m) : bl m = 16 + bl (m / 65536) := bl_shift (s := 16) h
 have e8 {m : Nat} (h : 256 <= m) : bl m = 8 + bl (m / 256) := bl_shift (s := 8) h
 have leaf {n : Nat} {y : BitVec 64} (hn : n <= 56) (h : y.toNat < 256) (e : bl x.toNat = n + bl y.toNat) : (lenLeaf n y).holds (fun q => flat q = some ((kInt .i64).val ((bl x.toNat : Nat) : Int))) := by
  rw [e]; exact lenLeaf_holds hn h
 simp only [ule_nat]
 refine ⟨fun h1 => ⟨fun h2 => ⟨rfl, rfl, fun h3 => ⟨rfl, ?_⟩, fun h3 => ?_⟩, fun h2 => ⟨rfl, fun h3 => ⟨rfl, ?_⟩, fun h3 => ?_⟩⟩, fun h1 => ⟨fun h2 => ⟨rfl, fun h3 => ⟨rfl, ?_⟩, fun h3 => ?_⟩, fun h2 => ⟨fun h3 => ⟨rfl, ?_⟩, fun h3 => ?_⟩⟩⟩
 . have h1 : 4294967296 <= x.toNat := of_decide_eq_true h1
   have h2 : 65536 <= (sh x 32).toNat := of_decide_eq_true h2
   have h3 : 256 <= (sh (sh x 32) 16).toNat := of_decide_eq_true h3
   rw [s32] at h2
   rw [s3216] at h3
   exact leaf (n := 56) (by decide) (by rw [s32168]; omega) (by rw [s32168, e32 h1, e16 h2, e8 h3]; omega)
 . have h1 : 4294967296 <= x.toNat := of_decide_eq_true h1
   have h2 : 65536 <= (sh x 32).toNat := of_decide_eq_true h2
   have h3 : ¬ 256 <= (sh (sh x 32) 16).toNat := of_decide_eq_false h3
   rw [s32] at h2
   rw [s3216] at h3
   exact leaf (n := 48) (by decide) (by rw [s3216]; omega) (by rw [s3216, e32 h1, e16 h2]; omega)
 . have h1 : 4294967296 <= x.toNat := of_decide_eq_true h1
   have h2 : ¬ 65536 <= (sh x 32).toNat := of_decide_eq_false h2
   have h3 : 256 <= (sh x 32).toNat := of_decide_eq_true h3
   rw [s32] at h2 h3
   exact leaf (n := 40) (by decide) (by rw [s328]; omega) (by rw [s328, e32 h1, e8 h3]; omega)
 . have h1 : 4294967296 <= x.toNat := of_decide_eq_true h1
   have h2 : ¬ 65536 <= (sh x 32).toNat := of_decide_eq_false h2
   have h3 : ¬ 256 <= (sh x 32).toNat := of_decide_eq_false h3
   rw [s32] at h2 h3
   exact leaf (n := 32) (by decide) (by rw [s32]; omega) (by rw [s32, e32 h1])
 . have h1 : ¬ 4294967296 <= x.toNat := of_decide_eq_false h1
   have h2 : 65536 <= x.toNat := of_decide_eq_true h2
   have h3 : 256 <= (sh x 16).toNat := of_decide_eq_true h3
   rw [s16] at h3
   exact leaf (n := 24) (by decide) (by rw [s168]; omega) (by rw [s168, e16 h2, e8 h3]; omega)
 . have h1 : ¬ 4294967296 <= x.toNat := of_decide_eq_false h1
   have h2 : 65536 <= x.toNat := of_decide_eq_true h2
   have h3 : ¬ 256 <= (sh x 16).toNat := of_decide_eq_false h3
   rw [s16] at h3
   exact leaf (n := 16) (by decide) (by rw [s16]; omega) (by rw [s16, e16 h2])
 . have h1 : ¬ 4294967296 <= x.toNat := of_decide_eq_false h1
   have h2 : ¬ 65536 <= x.toNat := of_decide_eq_false h2
   have h3 : 256 <= x.toNat := of_decide_eq_true h3
   exact leaf (n := 8) (by decide) (by rw [s8]; omega) (by rw [s8, e8 h3])
 . have h1 : ¬ 4294967296 <= x.toNat := of_decide_eq_false h1
   have h2 : ¬ 65536 <= x.toNat := of_decide_eq_false h2
   have h3 : ¬ 256 <= x.toNat := of_decide_eq_false h3
   exact leaf (n := 0) (by decide) (by omega) (by omega)
theorem len64_ctx : Ctx PR (envOf eqsT []) [4, 8, 14] (fun _ => none) 40 162 :=
 ctxB (envOf_ok eqsT_ok TabPOk.nil) mixed (by kernel_rfl)
theorem len64_ok : CallOk PR 162 (fn1 kU (kInt .i64) fun x => ((bl x.toNat : Nat) : Int)) :=
 .inl ⟨entersB (by kernel_rfl), pure1 len64_ctx len64_gives⟩
def lenT (L : BitVec 64 -> Int) : PureTab := [(162, fn1 kU (kInt .i64) L)]
theorem lenT_ok : TabPOk PR (lenT fun x => ((bl x.toNat : Nat) : Int)) := TabPOk.cons len64_ok TabPOk.nil
def lenL (L : BitVec 64 -> Int) (a : W6) : List (Bool × Int) := [(a.w5 != 0#64, IntKind.i64.wrap (320 + L a.w5)), (a.w4 != 0#64, IntKind.i64.wrap (256 + L a.w4)), (a.w3 != 0#64, IntKind.i64.wrap (192 + L a.w3)),
 (a.w2 != 0#64, IntKind.i64.wrap (128 + L a.w2)), (a.w1 != 0#64, IntKind.i64.wrap (64 + L a.w1)), (a.w0 != 0#64, IntKind.i64.wrap (0 + L a.w0))]
theorem len_run (L : BitVec 64 -> Int) (a : W6) : (afunR PR (envOf eqsT (lenT L)) [11] (fun _ => none) 40 103 [c6.agg.enc a]).strict = chain (kInt .i64) (lenL L a) 0 := by kernel_rfl
theorem len_ctx : Ctx PR (envOf eqsT (lenT fun x => ((bl x.toNat : Nat) : Int))) [11] (fun _ => none) 40 103 :=
 ctxB (envOf_ok eqsT_ok lenT_ok) mixed (by kernel_rfl)
def lenI (a : W6) : Int := chainV (lenL (fun x => ((bl x.toNat : Nat) : Int)) a) 0
theorem len_ok : CallOk PR 103 (fn1 c6.agg (kInt .i64) lenI) :=
 .inl ⟨entersB (by kernel_rfl), pure1 len_ctx (fun a => chainVal (len_run _ a))⟩
def andI (i : Int) : Int := IntKind.i64.wrap ((BitVec.ofInt 64 i &&& BitVec.ofInt 64 63).toNat : Int)
def bitTree (a : W6) (i : Int) : Tree AV :=
 .br (decide (i < 0)) (.need true (.leaf (.v (.int .i64 0)))) (.br (decide (i >= 384)) (.need true (.leaf (.v (.int .i64 0))))
  (.need (decide (0 <= andI i) && (decide (0 + (i.fdiv (2 ^ 6)).toNat * 1 < 6) && (decide (0 <= i.fdiv (2 ^ 6) /\ i.fdiv (2 ^ 6) < 6) && true)))
   (.leaf (.v (.int .i64 (IntKind.i64.wrap (Int.ofNat ((a.get (0 + (i.fdiv (2 ^ 6)).toNat * 1) >>> Nat.min (andI i).toNat 64) &&& bitW true).toNat)))))))
set_option maxRecDepth 100000 in
theorem bit_run (a : W6) (i : Int) : Tree.but [2] 0 (afunR PR (envW eqsT []) [7, 10] (fun _ => none) 40 105 [c6.agg.enc a, (kInt .i64).enc i]) = bitTree a i := by kernel_rfl
def bitI (a : W6) (i : Int) : Int := bif decide (i < 0) then 0 else bif decide (i >= 384) then 0 else bif a.bit i.toNat then 1 else 0
theorem and63 {i : Int} (h0 : 0 <= i) (h1 : i < 384) : andI i = i % 64 := by
 obtain ⟨n, rfl⟩ := Int.eq_ofNat_of_zero_le h0
 unfold andI
 have e : (BitVec.ofInt 64 (n : Int) &&& BitVec.ofInt 64 63).toNat = n % 64 := by
  rw [BitVec.toNat_and]
  have e1 : (BitVec.ofInt 64 (n : Int)).toNat = n := by simp; omega
  have e2 : (BitVec.ofInt 64 63).toNat = 63 := by decide
  rw [e1, e2]
  exact Nat.and_two_pow_sub_one_eq_mod n 6
 rw [e, wrap_id (by omega) (by omega)]
 omega
theorem bit_gives (a : W6) (i : Int) : Gives (afunR PR (envW eqsT []) [7, 10] (fun _ => none) 40 105 [c6.agg.enc a, (kInt .i64).enc i]) ((kInt .i64).val (bitI a i)) := by
 refine ⟨Tree.holds_but (l := [2]) (i := 0) ?_⟩
 rw [bit_run]
 unfold bitTree bitI
 refine ⟨fun h1 => by rw [h1]; exact ⟨rfl, rfl⟩, fun h1 => ⟨fun h2 => by rw [h1, h2]; exact ⟨rfl, rfl⟩, fun h2 => ?_⟩⟩
 rw [h1, h2]
 have h1 : ¬ i < 0 := of_decide_eq_false h1
 have h2 : ¬ i >= 384 := of_decide_eq_false h2
 have hf : i.fdiv (2 ^ 6) = i / 64 := by
  rw [Int.fdiv_eq_ediv_of_nonneg _ (by decide)]
  rfl
 have ha := and63 (i := i) (by omega) (by omega)
 rw [hf, ha]
 have e1 : 0 + (i / 64).toNat * 1 = i.toNat / 64 := by omega
 have e2 : Nat.min (i % 64).toNat 64 = i.toNat % 64 := by show min _ _ = _; omega
 refine ⟨?_, ?_⟩
 . simp; omega
 . rw [e1, e2]
   show some (Value.int .i64 _) = some (Value.int .i64 _)
   congr 2
   unfold W6.bit
   generalize a.get (i.toNat / 64) >>> (i.toNat % 64) = y
   have hb : (y &&& 1#64).toNat < 2 := by
    rw [BitVec.toNat_and, show (1#64).toNat = 1 from rfl, Nat.and_one_is_mod]
    omega
   rw [show bitW true = 1#64 from rfl]
   cases hc : (y &&& 1#64) == 1#64 with
   | true =>
    rw [eq_of_beq hc]
    rfl
   | false =>
    have : (y &&& 1#64).toNat = 0 := by
     have hne : (y &&& 1#64) ≠ 1#64 := by simpa using hc
     have : (y &&& 1#64).toNat ≠ 1 := fun h => hne (BitVec.eq_of_toNat_eq (by rw [h]; rfl))
     omega
    rw [this]
    rfl
theorem bit_ctx : Ctx PR (envW eqsT []) [7, 10] (fun _ => none) 40 105 :=
 ctxB (envW_ok eqsT_ok TabPOk.nil) mixed (by kernel_rfl)
theorem bit_ok : CallOk PR 105 (fn2 c6.agg (kInt .i64) (kInt .i64) bitI) :=
 .inl ⟨entersB (by kernel_rfl), pure2 bit_ctx bit_gives⟩
theorem of_ok : CallOk PR 33 (fn1 kU c6.agg ofW) :=
 .inl ⟨entersB (by kernel_rfl), pure1 of_ctx (fun x => leafVal (B := c6.agg) (y := ofW x) (of_run x))⟩
end Go.Rq
