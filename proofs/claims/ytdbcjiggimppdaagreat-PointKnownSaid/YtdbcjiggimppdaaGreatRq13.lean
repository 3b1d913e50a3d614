/- Contracts of functions, by the abstract machine. Written by a program of ours. -/
import Derived.Test.YtdbcjiggimppdaaGreatProg
import Derived.Test.YtdbcjiggimppdaaGreatRq07
namespace Go.Rq
open Go Go.Proofs

noncomputable def PR : Program := Tryz.prog

theorem mixed : PR.follows .mixedOrders = true := by kernel_rfl

/-- Types whose values are equal cell by cell. -/
def eqsT : List (TypeId × List Nat) := [(101, [1, 1, 1, 1, 1, 1]), (24, [1, 1, 1, 1, 1, 1]), (112, [1, 1, 1, 1, 1, 1, 1, 1, 1, 1, 1, 1]), (26, [1, 1, 1, 1, 1, 1, 1, 1, 1, 1, 1, 1]),
  (45, [1, 1, 1, 1, 1, 1, 1, 1, 1, 1, 1, 1, 0]), (28, [1, 1, 1, 1, 1, 1, 1, 1, 1, 1, 1, 1, 1, 1, 1, 1, 1, 1, 1, 1, 1, 1, 1, 1, 0])]
theorem eqsT_ok : EqsOk PR eqsT :=
  EqsOk.cons (by kernel_rfl) (by kernel_rfl) (by kernel_rfl) (EqsOk.cons (by kernel_rfl) (by kernel_rfl) (by kernel_rfl) (EqsOk.cons (by kernel_rfl) (by kernel_rfl) (by kernel_rfl) (EqsOk.cons (by kernel_rfl) (by kernel_rfl) (by kernel_rfl)
    (EqsOk.cons (by kernel_rfl) (by kernel_rfl) (by kernel_rfl) (EqsOk.cons (by kernel_rfl) (by kernel_rfl) (by kernel_rfl) EqsOk.nil)))))

def T0 : PureTab := []
theorem T0_ok : TabPOk PR T0 := TabPOk.nil

def kUU : Cod (BitVec 64 × BitVec 64) := kTup kU kU (fun _ => rfl) (fun _ => rfl)

theorem add64_ok : CallOk PR 171 (fn3 kU kU kBit kUB add64) :=
  .inr (ext3 (fn := Tryz.f171) (by kernel_rfl) (by kernel_rfl) (by kernel_rfl) (by kernel_rfl) (r := add64Row) (by kernel_rfl) add64_run)
def T_add64 : PureTab := (171, fn3 kU kU kBit kUB add64) :: T0
theorem T_add64_ok : TabPOk PR T_add64 := TabPOk.cons add64_ok T0_ok

theorem sub64_ok : CallOk PR 175 (fn3 kU kU kBit kUB sub64) :=
  .inr (ext3 (fn := Tryz.f175) (by kernel_rfl) (by kernel_rfl) (by kernel_rfl) (by kernel_rfl) (r := sub64Row) (by kernel_rfl) sub64_run)
def T_sub64 : PureTab := (175, fn3 kU kU kBit kUB sub64) :: T_add64
theorem T_sub64_ok : TabPOk PR T_sub64 := TabPOk.cons sub64_ok T_add64_ok

theorem mul64_ctx : Ctx PR (envOf eqsT T_sub64) [] (fun _ => none) 400 170 :=
  ctx_of (envOf_ok eqsT_ok T_sub64_ok) mixed (fn := Tryz.f170) (by kernel_rfl) (by kernel_rfl) (by kernel_rfl) (tabOk_none _)
theorem mul64_run (x y : BitVec 64) : (afunR PR (envOf eqsT T_sub64) [] (fun _ => none) 400 170 [kU.enc x, kU.enc y]).strict = .leaf (kUU.enc (mulGo x y)) := by kernel_rfl
theorem mul64_ok : CallOk PR 170 (fn2 kU kU kUU mul64) :=
  .inl ⟨enters_of (fn := Tryz.f170) (by kernel_rfl) (by kernel_rfl) (by kernel_rfl), pure2 mul64_ctx (fun x y => leafVal (B := kUU) (y := mul64 x y) (by rw [mul64_run x y, mulGo_eq]))⟩
def T_mul64 : PureTab := (170, fn2 kU kU kUU mul64) :: T_sub64
theorem T_mul64_ok : TabPOk PR T_mul64 := TabPOk.cons mul64_ok T_sub64_ok

theorem prime_ctx : Ctx PR (envOf eqsT T_mul64) [] (fun _ => none) 400 176 :=
  ctx_of (envOf_ok eqsT_ok T_mul64_ok) mixed (fn := Tryz.f176) (by kernel_rfl) (by kernel_rfl) (by kernel_rfl) (tabOk_none _)
set_option maxRecDepth 100000 in
theorem prime_run  : (afunR PR (envOf eqsT T_mul64) [] (fun _ => none) 400 176 []).strict = .leaf (c6.agg.enc primeW) := by kernel_rfl
theorem prime_ok : CallOk PR 176 (fn0  c6.agg primeW) :=
  .inl ⟨enters_of (fn := Tryz.f176) (by kernel_rfl) (by kernel_rfl) (by kernel_rfl), pure0 prime_ctx (leafVal (B := c6.agg) (y := primeW) (prime_run ))⟩
def T_prime : PureTab := (176, fn0  c6.agg primeW) :: T_mul64
theorem T_prime_ok : TabPOk PR T_prime := TabPOk.cons prime_ok T_mul64_ok

theorem one_ctx : Ctx PR (envOf eqsT T_prime) [] (fun _ => none) 400 134 :=
  ctx_of (envOf_ok eqsT_ok T_prime_ok) mixed (fn := Tryz.f134) (by kernel_rfl) (by kernel_rfl) (by kernel_rfl) (tabOk_none _)
set_option maxRecDepth 100000 in
theorem one_run  : (afunR PR (envOf eqsT T_prime) [] (fun _ => none) 400 134 []).strict = .leaf (c6.agg.enc oneW) := by kernel_rfl
theorem one_ok : CallOk PR 134 (fn0  c6.agg oneW) :=
  .inl ⟨enters_of (fn := Tryz.f134) (by kernel_rfl) (by kernel_rfl) (by kernel_rfl), pure0 one_ctx (leafVal (B := c6.agg) (y := oneW) (one_run ))⟩
def T_one : PureTab := (134, fn0  c6.agg oneW) :: T_prime
theorem T_one_ok : TabPOk PR T_one := TabPOk.cons one_ok T_prime_ok

theorem wide_ctx : Ctx PR (envOf eqsT T_one) [] (fun _ => none) 400 178 :=
  ctx_of (envOf_ok eqsT_ok T_one_ok) mixed (fn := Tryz.f178) (by kernel_rfl) (by kernel_rfl) (by kernel_rfl) (tabOk_none _)
set_option maxRecDepth 100000 in
theorem wide_run  : (afunR PR (envOf eqsT T_one) [] (fun _ => none) 400 178 []).strict = .leaf (c6.agg.enc wideW) := by kernel_rfl
theorem wide_ok : CallOk PR 178 (fn0  c6.agg wideW) :=
  .inl ⟨enters_of (fn := Tryz.f178) (by kernel_rfl) (by kernel_rfl) (by kernel_rfl), pure0 wide_ctx (leafVal (B := c6.agg) (y := wideW) (wide_run ))⟩
def T_wide : PureTab := (178, fn0  c6.agg wideW) :: T_one
theorem T_wide_ok : TabPOk PR T_wide := TabPOk.cons wide_ok T_one_ok

theorem less_ctx : Ctx PR (envOf eqsT T_wide) [26] (fun _ => none) 400 174 :=
  ctx_of (envOf_ok eqsT_ok T_wide_ok) mixed (fn := Tryz.f174) (by kernel_rfl) (by kernel_rfl) (by kernel_rfl) (tabOk_none _)
set_option maxRecDepth 100000 in
theorem less_run (a : W6) : (afunR PR (envOf eqsT T_wide) [26] (fun _ => none) 400 174 [c6.agg.enc a]).strict = .br ((subs a primeW).2 == true) (.leaf (c6.agg.enc a)) (.leaf (c6.agg.enc (subs a primeW).1)) := by kernel_rfl
theorem less_ok : CallOk PR 174 (fn1 c6.agg c6.agg lessW) :=
  .inl ⟨enters_of (fn := Tryz.f174) (by kernel_rfl) (by kernel_rfl) (by kernel_rfl), pure1 less_ctx (fun a => brVal (B := c6.agg) (y := (lessW a)) (less_run a) (fun h => by simp at h; simp [lessW, h]) (fun h => by simp at h; simp [lessW, h]))⟩
def T_less : PureTab := (174, fn1 c6.agg c6.agg lessW) :: T_wide
theorem T_less_ok : TabPOk PR T_less := TabPOk.cons less_ok T_wide_ok

theorem madd_ctx : Ctx PR (envOf eqsT T_less) [] (fun _ => none) 400 130 :=
  ctx_of (envOf_ok eqsT_ok T_less_ok) mixed (fn := Tryz.f130) (by kernel_rfl) (by kernel_rfl) (by kernel_rfl) (tabOk_none _)
set_option maxRecDepth 100000 in
theorem madd_run (a : W6) (b : W6) : (afunR PR (envOf eqsT T_less) [] (fun _ => none) 400 130 [c6.agg.enc a, c6.agg.enc b]).strict = .leaf (c6.agg.enc (addW a b)) := by kernel_rfl
theorem madd_ok : CallOk PR 130 (fn2 c6.agg c6.agg c6.agg addW) :=
  .inl ⟨enters_of (fn := Tryz.f130) (by kernel_rfl) (by kernel_rfl) (by kernel_rfl), pure2 madd_ctx (fun a b => leafVal (B := c6.agg) (y := (addW a b)) (madd_run a b))⟩
def T_madd : PureTab := (130, fn2 c6.agg c6.agg c6.agg addW) :: T_less
theorem T_madd_ok : TabPOk PR T_madd := TabPOk.cons madd_ok T_less_ok

theorem msub_ctx : Ctx PR (envOf eqsT T_madd) [29] (fun _ => none) 400 131 :=
  ctx_of (envOf_ok eqsT_ok T_madd_ok) mixed (fn := Tryz.f131) (by kernel_rfl) (by kernel_rfl) (by kernel_rfl) (tabOk_none _)
set_option maxRecDepth 100000 in
theorem msub_run (a : W6) (b : W6) : (afunR PR (envOf eqsT T_madd) [29] (fun _ => none) 400 131 [c6.agg.enc a, c6.agg.enc b]).strict = .br ((subs a b).2 == true) (.leaf (c6.agg.enc (adds (subs a b).1 primeW).1)) (.leaf (c6.agg.enc (subs a b).1)) := by kernel_rfl
theorem msub_ok : CallOk PR 131 (fn2 c6.agg c6.agg c6.agg subW) :=
  .inl ⟨enters_of (fn := Tryz.f131) (by kernel_rfl) (by kernel_rfl) (by kernel_rfl), pure2 msub_ctx (fun a b => brVal (B := c6.agg) (y := (subW a b)) (msub_run a b) (fun h => by simp at h; simp [subW, h]) (fun h => by simp at h; simp [subW, h]))⟩
def T_msub : PureTab := (131, fn2 c6.agg c6.agg c6.agg subW) :: T_madd
theorem T_msub_ok : TabPOk PR T_msub := TabPOk.cons msub_ok T_madd_ok

theorem mmul_ctx : Ctx PR (envOf eqsT T_msub) [] (fun _ => none) 400 132 :=
  ctx_of (envOf_ok eqsT_ok T_msub_ok) mixed (fn := Tryz.f132) (by kernel_rfl) (by kernel_rfl) (by kernel_rfl) (tabOk_none _)
set_option maxRecDepth 100000 in
theorem mmul_run (a : W6) (b : W6) : (afunR PR (envOf eqsT T_msub) [] (fun _ => none) 400 132 [c6.agg.enc a, c6.agg.enc b]).strict = .leaf (c6.agg.enc (mulW a b)) := by kernel_rfl
theorem mmul_ok : CallOk PR 132 (fn2 c6.agg c6.agg c6.agg mulW) :=
  .inl ⟨enters_of (fn := Tryz.f132) (by kernel_rfl) (by kernel_rfl) (by kernel_rfl), pure2 mmul_ctx (fun a b => leafVal (B := c6.agg) (y := (mulW a b)) (mmul_run a b))⟩
def T_mmul : PureTab := (132, fn2 c6.agg c6.agg c6.agg mulW) :: T_msub
theorem T_mmul_ok : TabPOk PR T_mmul := TabPOk.cons mmul_ok T_msub_ok

theorem mneg_ctx : Ctx PR (envOf eqsT T_mmul) [] (fun _ => none) 400 151 :=
  ctx_of (envOf_ok eqsT_ok T_mmul_ok) mixed (fn := Tryz.f151) (by kernel_rfl) (by kernel_rfl) (by kernel_rfl) (tabOk_none _)
set_option maxRecDepth 100000 in
theorem mneg_run (a : W6) : (afunR PR (envOf eqsT T_mmul) [] (fun _ => none) 400 151 [c6.agg.enc a]).strict = .leaf (c6.agg.enc (negW a)) := by kernel_rfl
theorem mneg_ok : CallOk PR 151 (fn1 c6.agg c6.agg negW) :=
  .inl ⟨enters_of (fn := Tryz.f151) (by kernel_rfl) (by kernel_rfl) (by kernel_rfl), pure1 mneg_ctx (fun a => leafVal (B := c6.agg) (y := (negW a)) (mneg_run a))⟩
def T_mneg : PureTab := (151, fn1 c6.agg c6.agg negW) :: T_mmul
theorem T_mneg_ok : TabPOk PR T_mneg := TabPOk.cons mneg_ok T_mmul_ok

theorem mto_ctx : Ctx PR (envOf eqsT T_mneg) [] (fun _ => none) 400 135 :=
  ctx_of (envOf_ok eqsT_ok T_mneg_ok) mixed (fn := Tryz.f135) (by kernel_rfl) (by kernel_rfl) (by kernel_rfl) (tabOk_none _)
set_option maxRecDepth 100000 in
theorem mto_run (a : W6) : (afunR PR (envOf eqsT T_mneg) [] (fun _ => none) 400 135 [c6.agg.enc a]).strict = .leaf (c6.agg.enc (toW a)) := by kernel_rfl
theorem mto_ok : CallOk PR 135 (fn1 c6.agg c6.agg toW) :=
  .inl ⟨enters_of (fn := Tryz.f135) (by kernel_rfl) (by kernel_rfl) (by kernel_rfl), pure1 mto_ctx (fun a => leafVal (B := c6.agg) (y := (toW a)) (mto_run a))⟩
def T_mto : PureTab := (135, fn1 c6.agg c6.agg toW) :: T_mneg
theorem T_mto_ok : TabPOk PR T_mto := TabPOk.cons mto_ok T_mneg_ok

theorem mfrom_ctx : Ctx PR (envOf eqsT T_mto) [] (fun _ => none) 400 157 :=
  ctx_of (envOf_ok eqsT_ok T_mto_ok) mixed (fn := Tryz.f157) (by kernel_rfl) (by kernel_rfl) (by kernel_rfl) (tabOk_none _)
set_option maxRecDepth 100000 in
theorem mfrom_run (a : W6) : (afunR PR (envOf eqsT T_mto) [] (fun _ => none) 400 157 [c6.agg.enc a]).strict = .leaf (c6.agg.enc (fromW a)) := by kernel_rfl
theorem mfrom_ok : CallOk PR 157 (fn1 c6.agg c6.agg fromW) :=
  .inl ⟨enters_of (fn := Tryz.f157) (by kernel_rfl) (by kernel_rfl) (by kernel_rfl), pure1 mfrom_ctx (fun a => leafVal (B := c6.agg) (y := (fromW a)) (mfrom_run a))⟩
def T_mfrom : PureTab := (157, fn1 c6.agg c6.agg fromW) :: T_mto
theorem T_mfrom_ok : TabPOk PR T_mfrom := TabPOk.cons mfrom_ok T_mto_ok

end Go.Rq

/- The power of an element of the great field: a loop, told by data. -/
namespace Go.Rq
open Go Go.Proofs

/-- The table with the product left open. -/
def powT (M : W6 → W6 → W6) : PureTab := [(132, fn2 c6.agg c6.agg c6.agg M), (134, fn0 c6.agg oneW)]
theorem powT_ok : TabPOk PR (powT mulW) := TabPOk.cons mmul_ok (TabPOk.cons one_ok TabPOk.nil)
noncomputable def powE (M : W6 → W6 → W6) : Env := envW eqsT (powT M)
theorem powE_ok : EnvOk PR (powE mulW) := envW_ok eqsT_ok powT_ok
def powK : Keep := ⟨[2, 3, 4, 5, 6], [0, 1, 2, 4], 7⟩
@[irreducible] noncomputable def powX (M : W6 → W6 → W6) (a e : W6) : XS := entryOf PR (powE M) [9, 23] (fun _ => none) 10 177 [c6.agg.enc a, c6.agg.enc e] [] 0 0 powK
@[irreducible] noncomputable def powI (M : W6 → W6 → W6) (a e : W6) (d : Int × W6) : XS := ((powX M a e).setT 6 (.v (.int .i64 d.1))).setB 4 (c6.enc d.2)
@[irreducible] noncomputable def powC : Code := roundOf PR 177 0

def quo64 (z : Int) : Int := IntKind.i64.wrap (Int.tdiv z 64)

def powCond (z : Int) : Bool := decide (0 ≤ Int.tmod z 64) && (decide (0 + (quo64 z).toNat * 1 < 6) && (decide (0 ≤ quo64 z ∧ quo64 z < 6) && true))

set_option maxRecDepth 100000 in
theorem pow_round (M : W6 → W6 → W6) (a e : W6) (z : Int) (out : W6) : Tree.but [2] 0 (roundT PR (powE M) [9, 23] (fun _ => none) 10 powK powK powK powC (powI M a e (z, out))) =
    .br (decide (z ≥ 0))
      (.br (((e.get (0 + (quo64 z).toNat * 1) >>> Nat.min (Int.tmod z 64).toNat 64) &&& bitW true) == bitW true)
        (.need (powCond z)
          (.leaf (.normal, powI M a e (IntKind.i64.wrap (z - 1), M (M out out) a))))
        (.need (powCond z)
          (.leaf (.normal, powI M a e (IntKind.i64.wrap (z - 1), M out out)))))
      (.leaf (.exit 0, powI M a e (z, out))) := by kernel_rfl

noncomputable def powB (M : W6 → W6 → W6) (a e r : W6) : BEnt := ⟨powK.tm, powK.ids, powK.n, powX M a e, .leaf (.normal, powI M a e (-1, r))⟩

set_option maxRecDepth 100000 in
theorem pow_run (M : W6 → W6 → W6) (a e r : W6) : (afunR PR (powE M) [9, 23] (tabOf [(0, powB M a e r)]) 10 177 [c6.agg.enc a, c6.agg.enc e]).strict =
    .same (powX M a e) (powX M a e) (.leaf (c6.agg.enc r)) := by kernel_rfl

theorem pow_head (M : W6 → W6 → W6) (a e : W6) : powX M a e = powI M a e (383, oneW) := by kernel_rfl

theorem pow_blk : blkAll 0 (bodyOf PR 177) = [.loop powC] := by kernel_rfl

theorem pow_codeOk : codeOk (powE mulW) powC = true := by kernel_rfl

theorem wrap_id {n : Int} (h0 : -9223372036854775808 ≤ n) (h1 : n < 9223372036854775808) : IntKind.i64.wrap n = n := by
  simp only [IntKind.wrap, IntKind.bits, IntKind.signed]
  simp
  omega

theorem quo64_eq {z : Int} (h0 : 0 ≤ z) (h1 : z ≤ 383) : quo64 z = z / 64 := by
  unfold quo64
  rw [Int.tdiv_eq_ediv_of_nonneg h0, wrap_id]
  all_goals omega

theorem pow_law (M : W6 → W6 → W6) (a e : W6) (rt : XS → Tree (AExit × XS)) (I : Int × W6 → XS) (hr : ∀ (z : Int) (out : W6), Tree.but [2] 0 (rt (I (z, out))) =
    .br (decide (z ≥ 0))
      (.br (((e.get (0 + (quo64 z).toNat * 1) >>> Nat.min (Int.tmod z 64).toNat 64) &&& bitW true) == bitW true)
        (.need (powCond z)
          (.leaf (.normal, I (IntKind.i64.wrap (z - 1), M (M out out) a))))
        (.need (powCond z)
          (.leaf (.normal, I (IntKind.i64.wrap (z - 1), M out out)))))
      (.leaf (.exit 0, I (z, out)))) {K : AExit → XS → Prop} (hK : K .normal (I (-1, powG M a e 384 oneW))) :
    ∀ d : Int × W6, (-1 ≤ d.1 ∧ d.1 ≤ 383 ∧ powG M a e (d.1 + 1).toNat d.2 = powG M a e 384 oneW) → (rt (I d)).holds (fun r => match r.1 with
      | .normal => ∃ j : Int × W6, (-1 ≤ j.1 ∧ j.1 ≤ 383 ∧ powG M a e (j.1 + 1).toNat j.2 = powG M a e 384 oneW) ∧ (j.1 + 1).toNat < (d.1 + 1).toNat ∧ r.2 = I j
      | .exit q => if q = 0 then K .normal r.2 else K (.exit q) r.2
      | .ret => K .ret r.2) := by
  generalize hR : powG M a e 384 oneW = R at *
  rintro ⟨z, out⟩ ⟨h0, h1, h2⟩
  apply Tree.holds_but (l := [2]) (i := 0)
  rw [hr]
  refine ⟨fun hz => ?_, fun hz => ?_⟩
  · have hz : 0 ≤ z := by simpa using hz
    have hq := quo64_eq hz h1
    have hm : Int.tmod z 64 = z % 64 := Int.tmod_eq_emod_of_nonneg hz
    have hw : IntKind.i64.wrap (z - 1) = z - 1 := wrap_id (by omega) (by omega)
    have hc : powCond z = true := by
      unfold powCond
      rw [hq, hm]
      simp
      omega
    have hk : (z + 1).toNat = z.toNat + 1 := by omega
    have hg : (((e.get (0 + (quo64 z).toNat * 1) >>> Nat.min (Int.tmod z 64).toNat 64) &&& bitW true) == bitW true) = e.bit z.toNat := by
      have e1 : 0 + (quo64 z).toNat * 1 = z.toNat / 64 := by rw [hq]; omega
      have e2 : Nat.min (Int.tmod z 64).toNat 64 = z.toNat % 64 := by rw [hm]; show min _ _ = _; omega
      rw [e1, e2]
      rfl
    rw [hg]
    simp only at h2
    rw [hk] at h2
    simp only [powG] at h2
    have hk' : (z - 1 + 1).toNat = z.toNat := by omega
    refine ⟨fun hb => ⟨hc, ⟨z - 1, M (M out out) a⟩, ⟨by simp only; omega, by simp only; omega, ?_⟩, ?_, ?_⟩, fun hb => ⟨hc, ⟨z - 1, M out out⟩, ⟨by simp only; omega, by simp only; omega, ?_⟩, ?_, ?_⟩⟩
    · rw [hb] at h2
      simp only [hk']
      exact h2
    · show (z - 1 + 1).toNat < (z + 1).toNat
      omega
    · rw [hw]
    · rw [hb] at h2
      simp only [hk']
      exact h2
    · show (z - 1 + 1).toNat < (z + 1).toNat
      omega
    · rw [hw]
  · have hz : z = -1 := by
      have : ¬ 0 ≤ z := by simpa using hz
      omega
    subst hz
    have h2 : out = R := h2
    show (if (0 : Nat) = 0 then K .normal (I (-1, out)) else K (.exit 0) (I (-1, out)))
    rw [if_pos rfl, h2]
    exact hK

theorem pow_start (M : W6 → W6 → W6) (a e : W6) : -1 ≤ ((383, oneW) : Int × W6).1 ∧ ((383, oneW) : Int × W6).1 ≤ 383 ∧ powG M a e (((383, oneW) : Int × W6).1 + 1).toNat ((383, oneW) : Int × W6).2 = powG M a e 384 oneW := by
  have hk : ((383 : Int) + 1).toNat = 384 := by decide
  refine ⟨?_, ?_, ?_⟩
  · show (-1 : Int) ≤ 383
    omega
  · show (383 : Int) ≤ 383
    omega
  · exact congrArg (fun k => powG M a e k oneW) hk

theorem pow_loop (a e : W6) {F : Fr} {ds : List Deferred} {K : AExit → XS → Prop} (hK : K .normal (powI mulW a e (-1, pow384 a e))) :
    Tri PR F ds 0 (.block 0 (.loop powC)) (powX mulW a e) K :=
  Eq.subst (motive := fun y => Tri PR F ds 0 (.block 0 (.loop powC)) y K) (pow_head mulW a e).symm <| blockLoop (m := 0) powE_ok mixed (sym := [9, 23]) (tab := fun _ => none) (lf := 10) (k := powK) (kx := powK) (kr := powK) (Nat.zero_le _) (Nat.zero_le _) (Nat.zero_le _) pow_codeOk (tabOk_none _)
    (powI mulW a e) (fun d => -1 ≤ d.1 ∧ d.1 ≤ 383 ∧ powG mulW a e (d.1 + 1).toNat d.2 = powG mulW a e 384 oneW) (fun d => (d.1 + 1).toNat) (383, oneW) (pow_start mulW a e)
    (pow_law mulW a e _ (powI mulW a e) (pow_round mulW a e) hK)

theorem pow_ctx (a e : W6) : Ctx PR (powE mulW) [9, 23] (tabOf [(0, powB mulW a e (pow384 a e))]) 10 177 :=
  ctx_of powE_ok mixed (fn := Tryz.f177) (by kernel_rfl) (by kernel_rfl) (by kernel_rfl)
    (tabOk_one (Nat.zero_le _) pow_blk fun F ds K h => pow_loop a e h)

theorem pow_ok : CallOk PR 177 (fn2 c6.agg c6.agg c6.agg pow384) :=
  .inl ⟨enters_of (fn := Tryz.f177) (by kernel_rfl) (by kernel_rfl) (by kernel_rfl),
    pure2X fun a e => .of (pow_ctx a e) (sameVal (pow_run mulW a e (pow384 a e)))⟩
end Go.Rq

/- The great field's operations, and its square's, with the operations below left open. Written by a program of ours. -/
namespace Go.Rq
open Go Go.Proofs

def invT (Q : W6 → W6 → W6) : PureTab := [(177, fn2 c6.agg c6.agg c6.agg Q)]
theorem invT_ok : TabPOk PR (invT pow384) := TabPOk.cons pow_ok TabPOk.nil

set_option maxRecDepth 100000 in
theorem minv_run (Q : W6 → W6 → W6) (a : W6) : (afunR PR (envOf eqsT (invT Q)) [] (fun _ => none) 40 133 [c6.agg.enc a]).strict = .leaf (c6.agg.enc (Q a expInv)) := by kernel_rfl
theorem minv_ctx : Ctx PR (envOf eqsT (invT pow384)) [] (fun _ => none) 40 133 :=
  ctx_of (envOf_ok eqsT_ok invT_ok) mixed (fn := Tryz.f133) (by kernel_rfl) (by kernel_rfl) (by kernel_rfl) (tabOk_none _)
theorem minv_ok : CallOk PR 133 (fn1 c6.agg c6.agg invW) :=
  .inl ⟨enters_of (fn := Tryz.f133) (by kernel_rfl) (by kernel_rfl) (by kernel_rfl), pure1 minv_ctx (fun a => leafVal (B := c6.agg) (y := invW a) (minv_run pow384 a))⟩

/-- The great field, left open. -/
def T1 (o : FO W6) : PureTab := [(130, fn2 c6.agg c6.agg c6.agg o.add),
  (131, fn2 c6.agg c6.agg c6.agg o.sub),
  (132, fn2 c6.agg c6.agg c6.agg o.mul),
  (151, fn1 c6.agg c6.agg o.neg),
  (133, fn1 c6.agg c6.agg o.inv),
  (135, fn1 c6.agg c6.agg o.to),
  (157, fn1 c6.agg c6.agg o.back),
  (134, fn0 c6.agg o.one)]
theorem T1_eq : [(130, fn2 c6.agg c6.agg c6.agg addW), (131, fn2 c6.agg c6.agg c6.agg subW), (132, fn2 c6.agg c6.agg c6.agg mulW), (151, fn1 c6.agg c6.agg negW), (133, fn1 c6.agg c6.agg invW), (135, fn1 c6.agg c6.agg toW), (157, fn1 c6.agg c6.agg fromW), (134, fn0 c6.agg oneW)] = T1 fW := by kernel_rfl
theorem T1_ok : TabPOk PR (T1 fW) := Eq.subst (motive := TabPOk PR) T1_eq (TabPOk.cons madd_ok (TabPOk.cons msub_ok (TabPOk.cons mmul_ok (TabPOk.cons mneg_ok (TabPOk.cons minv_ok (TabPOk.cons mto_ok (TabPOk.cons mfrom_ok (TabPOk.cons one_ok (TabPOk.nil)))))))))

set_option maxRecDepth 100000 in
theorem add2_run (o : FO W6) (a : D6) (b : D6) : (afunR PR (envOf eqsT (T1 o)) [] (fun _ => none) 40 108 [c12.agg.enc a, c12.agg.enc b]).strict = .leaf (c12.agg.enc (add2 o a b)) := by kernel_rfl
theorem add2_ctx : Ctx PR (envOf eqsT (T1 fW)) [] (fun _ => none) 40 108 :=
  ctx_of (envOf_ok eqsT_ok T1_ok) mixed (fn := Tryz.f108) (by kernel_rfl) (by kernel_rfl) (by kernel_rfl) (tabOk_none _)
theorem add2_ok : CallOk PR 108 (fn2 c12.agg c12.agg c12.agg (add2 fW)) :=
  .inl ⟨enters_of (fn := Tryz.f108) (by kernel_rfl) (by kernel_rfl) (by kernel_rfl), pure2 add2_ctx (fun a b => leafVal (B := c12.agg) (y := (add2 fW) a b) (add2_run fW a b))⟩

set_option maxRecDepth 100000 in
theorem sub2_run (o : FO W6) (a : D6) (b : D6) : (afunR PR (envOf eqsT (T1 o)) [] (fun _ => none) 40 140 [c12.agg.enc a, c12.agg.enc b]).strict = .leaf (c12.agg.enc (sub2 o a b)) := by kernel_rfl
theorem sub2_ctx : Ctx PR (envOf eqsT (T1 fW)) [] (fun _ => none) 40 140 :=
  ctx_of (envOf_ok eqsT_ok T1_ok) mixed (fn := Tryz.f140) (by kernel_rfl) (by kernel_rfl) (by kernel_rfl) (tabOk_none _)
theorem sub2_ok : CallOk PR 140 (fn2 c12.agg c12.agg c12.agg (sub2 fW)) :=
  .inl ⟨enters_of (fn := Tryz.f140) (by kernel_rfl) (by kernel_rfl) (by kernel_rfl), pure2 sub2_ctx (fun a b => leafVal (B := c12.agg) (y := (sub2 fW) a b) (sub2_run fW a b))⟩

set_option maxRecDepth 100000 in
theorem mul2_run (o : FO W6) (a : D6) (b : D6) : (afunR PR (envOf eqsT (T1 o)) [] (fun _ => none) 40 141 [c12.agg.enc a, c12.agg.enc b]).strict = .leaf (c12.agg.enc (mul2 o a b)) := by kernel_rfl
theorem mul2_ctx : Ctx PR (envOf eqsT (T1 fW)) [] (fun _ => none) 40 141 :=
  ctx_of (envOf_ok eqsT_ok T1_ok) mixed (fn := Tryz.f141) (by kernel_rfl) (by kernel_rfl) (by kernel_rfl) (tabOk_none _)
theorem mul2_ok : CallOk PR 141 (fn2 c12.agg c12.agg c12.agg (mul2 fW)) :=
  .inl ⟨enters_of (fn := Tryz.f141) (by kernel_rfl) (by kernel_rfl) (by kernel_rfl), pure2 mul2_ctx (fun a b => leafVal (B := c12.agg) (y := (mul2 fW) a b) (mul2_run fW a b))⟩

set_option maxRecDepth 100000 in
theorem scale2_run (o : FO W6) (a : D6) (n : W6) : (afunR PR (envOf eqsT (T1 o)) [] (fun _ => none) 40 182 [c12.agg.enc a, c6.agg.enc n]).strict = .leaf (c12.agg.enc (scale2 o a n)) := by kernel_rfl
theorem scale2_ctx : Ctx PR (envOf eqsT (T1 fW)) [] (fun _ => none) 40 182 :=
  ctx_of (envOf_ok eqsT_ok T1_ok) mixed (fn := Tryz.f182) (by kernel_rfl) (by kernel_rfl) (by kernel_rfl) (tabOk_none _)
theorem scale2_ok : CallOk PR 182 (fn2 c12.agg c6.agg c12.agg (scale2 fW)) :=
  .inl ⟨enters_of (fn := Tryz.f182) (by kernel_rfl) (by kernel_rfl) (by kernel_rfl), pure2 scale2_ctx (fun a n => leafVal (B := c12.agg) (y := (scale2 fW) a n) (scale2_run fW a n))⟩

set_option maxRecDepth 100000 in
theorem conj2_run (o : FO W6) (a : D6) : (afunR PR (envOf eqsT (T1 o)) [] (fun _ => none) 40 183 [c12.agg.enc a]).strict = .leaf (c12.agg.enc (conj2 o a)) := by kernel_rfl
theorem conj2_ctx : Ctx PR (envOf eqsT (T1 fW)) [] (fun _ => none) 40 183 :=
  ctx_of (envOf_ok eqsT_ok T1_ok) mixed (fn := Tryz.f183) (by kernel_rfl) (by kernel_rfl) (by kernel_rfl) (tabOk_none _)
theorem conj2_ok : CallOk PR 183 (fn1 c12.agg c12.agg (conj2 fW)) :=
  .inl ⟨enters_of (fn := Tryz.f183) (by kernel_rfl) (by kernel_rfl) (by kernel_rfl), pure1 conj2_ctx (fun a => leafVal (B := c12.agg) (y := (conj2 fW) a) (conj2_run fW a))⟩

set_option maxRecDepth 100000 in
theorem norm2_run (o : FO W6) (a : D6) : (afunR PR (envOf eqsT (T1 o)) [] (fun _ => none) 40 152 [c12.agg.enc a]).strict = .leaf (c6.agg.enc (norm2 o a)) := by kernel_rfl
theorem norm2_ctx : Ctx PR (envOf eqsT (T1 fW)) [] (fun _ => none) 40 152 :=
  ctx_of (envOf_ok eqsT_ok T1_ok) mixed (fn := Tryz.f152) (by kernel_rfl) (by kernel_rfl) (by kernel_rfl) (tabOk_none _)
theorem norm2_ok : CallOk PR 152 (fn1 c12.agg c6.agg (norm2 fW)) :=
  .inl ⟨enters_of (fn := Tryz.f152) (by kernel_rfl) (by kernel_rfl) (by kernel_rfl), pure1 norm2_ctx (fun a => leafVal (B := c6.agg) (y := (norm2 fW) a) (norm2_run fW a))⟩

set_option maxRecDepth 100000 in
theorem to2_run (o : FO W6) (a : D6) : (afunR PR (envOf eqsT (T1 o)) [] (fun _ => none) 40 109 [c12.agg.enc a]).strict = .leaf (c12.agg.enc (to2 o a)) := by kernel_rfl
theorem to2_ctx : Ctx PR (envOf eqsT (T1 fW)) [] (fun _ => none) 40 109 :=
  ctx_of (envOf_ok eqsT_ok T1_ok) mixed (fn := Tryz.f109) (by kernel_rfl) (by kernel_rfl) (by kernel_rfl) (tabOk_none _)
theorem to2_ok : CallOk PR 109 (fn1 c12.agg c12.agg (to2 fW)) :=
  .inl ⟨enters_of (fn := Tryz.f109) (by kernel_rfl) (by kernel_rfl) (by kernel_rfl), pure1 to2_ctx (fun a => leafVal (B := c12.agg) (y := (to2 fW) a) (to2_run fW a))⟩

set_option maxRecDepth 100000 in
theorem back2_run (o : FO W6) (a : D6) : (afunR PR (envOf eqsT (T1 o)) [] (fun _ => none) 40 107 [c12.agg.enc a]).strict = .leaf (c12.agg.enc (back2 o a)) := by kernel_rfl
theorem back2_ctx : Ctx PR (envOf eqsT (T1 fW)) [] (fun _ => none) 40 107 :=
  ctx_of (envOf_ok eqsT_ok T1_ok) mixed (fn := Tryz.f107) (by kernel_rfl) (by kernel_rfl) (by kernel_rfl) (tabOk_none _)
theorem back2_ok : CallOk PR 107 (fn1 c12.agg c12.agg (back2 fW)) :=
  .inl ⟨enters_of (fn := Tryz.f107) (by kernel_rfl) (by kernel_rfl) (by kernel_rfl), pure1 back2_ctx (fun a => leafVal (B := c12.agg) (y := (back2 fW) a) (back2_run fW a))⟩

set_option maxRecDepth 100000 in
theorem one2_run   : (afunR PR (envOf eqsT (T1 fW)) [] (fun _ => none) 40 143 []).strict = .leaf (c12.agg.enc (one2)) := by kernel_rfl
theorem one2_ctx : Ctx PR (envOf eqsT (T1 fW)) [] (fun _ => none) 40 143 :=
  ctx_of (envOf_ok eqsT_ok T1_ok) mixed (fn := Tryz.f143) (by kernel_rfl) (by kernel_rfl) (by kernel_rfl) (tabOk_none _)
theorem one2_ok : CallOk PR 143 (fn0  c12.agg one2) :=
  .inl ⟨enters_of (fn := Tryz.f143) (by kernel_rfl) (by kernel_rfl) (by kernel_rfl), pure0 one2_ctx (leafVal (B := c12.agg) (y := one2 ) one2_run)⟩

def inv2T (cj : D6 → D6) (nm : D6 → W6) (iv : W6 → W6) (sc : D6 → W6 → D6) : PureTab := [(183, fn1 c12.agg c12.agg cj), (152, fn1 c12.agg c6.agg nm), (133, fn1 c6.agg c6.agg iv), (182, fn2 c12.agg c6.agg c12.agg sc)]
theorem inv2T_ok : TabPOk PR (inv2T (conj2 fW) (norm2 fW) invW (scale2 fW)) := TabPOk.cons conj2_ok (TabPOk.cons norm2_ok (TabPOk.cons minv_ok (TabPOk.cons scale2_ok TabPOk.nil)))

set_option maxRecDepth 100000 in
theorem inv2_run (cj : D6 → D6) (nm : D6 → W6) (iv : W6 → W6) (sc : D6 → W6 → D6) (a : D6) : (afunR PR (envOf eqsT (inv2T cj nm iv sc)) [] (fun _ => none) 40 142 [c12.agg.enc a]).strict = .leaf (c12.agg.enc (sc (cj a) (iv (nm a)))) := by kernel_rfl
theorem inv2_ctx : Ctx PR (envOf eqsT (inv2T (conj2 fW) (norm2 fW) invW (scale2 fW))) [] (fun _ => none) 40 142 :=
  ctx_of (envOf_ok eqsT_ok inv2T_ok) mixed (fn := Tryz.f142) (by kernel_rfl) (by kernel_rfl) (by kernel_rfl) (tabOk_none _)
theorem inv2_ok : CallOk PR 142 (fn1 c12.agg c12.agg (inv2 fW)) :=
  .inl ⟨enters_of (fn := Tryz.f142) (by kernel_rfl) (by kernel_rfl) (by kernel_rfl), pure1 inv2_ctx (fun a => leafVal (B := c12.agg) (y := (inv2 fW) a) ((inv2_run (conj2 fW) (norm2 fW) invW (scale2 fW) a).trans (by kernel_rfl)))⟩

end Go.Rq

/- Numbers of six words. -/
namespace Go.Rq
open Go Go.Proofs

abbrev pw : Cod W6 := c6.agg
def kWB : Cod (W6 × Bool) := kTup c6.agg kBool (fun _ => rfl) (fun _ => rfl)

theorem base_ctx : Ctx PR (envOf eqsT []) [] (fun _ => none) 40 50 :=
  ctx_of (envOf_ok eqsT_ok TabPOk.nil) mixed (fn := Tryz.f50) (by kernel_rfl) (by kernel_rfl) (by kernel_rfl) (tabOk_none _)
theorem base_run : (afunR PR (envOf eqsT []) [] (fun _ => none) 40 50 []).strict = .leaf (c6.agg.enc primeW) := by kernel_rfl
theorem base_ok : CallOk PR 50 (fn0 c6.agg primeW) :=
  .inl ⟨enters_of (fn := Tryz.f50) (by kernel_rfl) (by kernel_rfl) (by kernel_rfl), pure0 base_ctx (leafVal (B := c6.agg) (y := primeW) base_run)⟩

theorem order_ctx : Ctx PR (envOf eqsT []) [] (fun _ => none) 40 139 :=
  ctx_of (envOf_ok eqsT_ok TabPOk.nil) mixed (fn := Tryz.f139) (by kernel_rfl) (by kernel_rfl) (by kernel_rfl) (tabOk_none _)
theorem order_run : (afunR PR (envOf eqsT []) [] (fun _ => none) 40 139 []).strict = .leaf (c6.agg.enc orderW) := by kernel_rfl
theorem order_ok : CallOk PR 139 (fn0 c6.agg orderW) :=
  .inl ⟨enters_of (fn := Tryz.f139) (by kernel_rfl) (by kernel_rfl) (by kernel_rfl), pure0 order_ctx (leafVal (B := c6.agg) (y := orderW) order_run)⟩

def ofW (x : BitVec 64) : W6 := ⟨x, 0#64, 0#64, 0#64, 0#64, 0#64⟩
theorem of_ctx : Ctx PR (envOf eqsT []) [] (fun _ => none) 40 31 :=
  ctx_of (envOf_ok eqsT_ok TabPOk.nil) mixed (fn := Tryz.f31) (by kernel_rfl) (by kernel_rfl) (by kernel_rfl) (tabOk_none _)
theorem of_run (x : BitVec 64) : (afunR PR (envOf eqsT []) [] (fun _ => none) 40 31 [kU.enc x]).strict = .leaf (c6.agg.enc (ofW x)) := by kernel_rfl

/-! Which is the less. -/
def cmpL (a b : W6) : List (Bool × Int) := [(BitVec.ult a.w5 b.w5, -1), (BitVec.ult b.w5 a.w5, 1), (BitVec.ult a.w4 b.w4, -1), (BitVec.ult b.w4 a.w4, 1), (BitVec.ult a.w3 b.w3, -1), (BitVec.ult b.w3 a.w3, 1),
  (BitVec.ult a.w2 b.w2, -1), (BitVec.ult b.w2 a.w2, 1), (BitVec.ult a.w1 b.w1, -1), (BitVec.ult b.w1 a.w1, 1), (BitVec.ult a.w0 b.w0, -1), (BitVec.ult b.w0 a.w0, 1)]
theorem cmp_ctx : Ctx PR (envOf eqsT []) [10, 18] (fun _ => none) 40 49 :=
  ctx_of (envOf_ok eqsT_ok TabPOk.nil) mixed (fn := Tryz.f49) (by kernel_rfl) (by kernel_rfl) (by kernel_rfl) (tabOk_none _)
theorem cmp_run (a b : W6) : (afunR PR (envOf eqsT []) [10, 18] (fun _ => none) 40 49 [c6.agg.enc a, c6.agg.enc b]).strict = chain (kInt .i64) (cmpL a b) 0 := by kernel_rfl
theorem cmp_ok : CallOk PR 49 (fn2 c6.agg c6.agg (kInt .i64) fun a b => chainV (cmpL a b) 0) :=
  .inl ⟨enters_of (fn := Tryz.f49) (by kernel_rfl) (by kernel_rfl) (by kernel_rfl), pure2 cmp_ctx (fun a b => chainVal (cmp_run a b))⟩

/-! How many bits a word has. -/
def lenTab : ByteArray := ⟨#[0, 1, 2, 2, 3, 3, 3, 3, 4, 4, 4, 4, 4, 4, 4, 4, 5, 5, 5, 5, 5, 5, 5, 5, 5, 5, 5, 5, 5, 5, 5, 5, 6, 6, 6, 6, 6, 6, 6, 6, 6, 6, 6, 6, 6, 6, 6, 6, 6, 6, 6, 6, 6, 6, 6, 6, 6, 6, 6, 6, 6, 6, 6, 6, 7, 7, 7, 7, 7, 7, 7, 7, 7, 7, 7, 7, 7, 7, 7, 7, 7, 7, 7, 7, 7, 7, 7, 7, 7, 7, 7, 7, 7, 7, 7, 7, 7, 7, 7, 7, 7, 7, 7, 7, 7, 7, 7, 7, 7, 7, 7, 7, 7, 7, 7, 7, 7, 7, 7, 7, 7, 7, 7, 7, 7, 7, 7, 7, 8, 8, 8, 8, 8, 8, 8, 8, 8, 8, 8, 8, 8, 8, 8, 8, 8, 8, 8, 8, 8, 8, 8, 8, 8, 8, 8, 8, 8, 8, 8, 8, 8, 8, 8, 8, 8, 8, 8, 8, 8, 8, 8, 8, 8, 8, 8, 8, 8, 8, 8, 8, 8, 8, 8, 8, 8, 8, 8, 8, 8, 8, 8, 8, 8, 8, 8, 8, 8, 8, 8, 8, 8, 8, 8, 8, 8, 8, 8, 8, 8, 8, 8, 8, 8, 8, 8, 8, 8, 8, 8, 8, 8, 8, 8, 8, 8, 8, 8, 8, 8, 8, 8, 8, 8, 8, 8, 8, 8, 8, 8, 8, 8, 8, 8, 8, 8, 8, 8, 8, 8, 8, 8, 8, 8, 8, 8, 8]⟩

def lenLeaf (n : Int) (y : BitVec 64) : Tree AV :=
  .need (decide (0 ≤ IntKind.u8.wrap (Int.ofNat y.toNat) ∧ IntKind.u8.wrap (Int.ofNat y.toNat) < (lenTab.data.toList.length : Int)) && true)
    (.leaf (.v (.int .i64 (IntKind.i64.wrap (n + IntKind.i64.wrap (strAt lenTab (IntKind.u8.wrap (Int.ofNat y.toNat)).toNat : Nat))))))

def sh (x : BitVec 64) (n : Nat) : BitVec 64 := x >>> Nat.min n 64

set_option maxRecDepth 100000 in
theorem len64_run (x : BitVec 64) : Tree.but [4, 6, 8, 10] 0 (afunR PR (envOf eqsT []) [4, 8, 14] (fun _ => none) 40 190 [kU.enc x]) =
    .br (BitVec.ule 4294967296#64 x)
      (.br (BitVec.ule 65536#64 (sh x 32))
        (.need true (.need true (.br (BitVec.ule 256#64 (sh (sh x 32) 16)) (.need true (lenLeaf 56 (sh (sh (sh x 32) 16) 8))) (lenLeaf 48 (sh (sh x 32) 16)))))
        (.need true (.br (BitVec.ule 256#64 (sh x 32)) (.need true (lenLeaf 40 (sh (sh x 32) 8))) (lenLeaf 32 (sh x 32)))))
      (.br (BitVec.ule 65536#64 x)
        (.need true (.br (BitVec.ule 256#64 (sh x 16)) (.need true (lenLeaf 24 (sh (sh x 16) 8))) (lenLeaf 16 (sh x 16))))
        (.br (BitVec.ule 256#64 x) (.need true (lenLeaf 8 (sh x 8))) (lenLeaf 0 x))) := by kernel_rfl

/-- How many bits a number has. -/
def bl (n : Nat) : Nat := if n = 0 then 0 else n.log2 + 1

theorem bl_spec {n k : Nat} : bl n ≤ k ↔ n < 2 ^ k := by
  unfold bl
  split
  · rename_i h; subst h; simp; exact Nat.two_pow_pos k
  · rename_i h; rw [← Nat.log2_lt h]; omega

theorem bl_unique {n k : Nat} (h1 : n < 2 ^ k) (h2 : k = 0 ∨ 2 ^ (k - 1) ≤ n) : bl n = k := by
  have a := bl_spec.2 h1
  rcases h2 with rfl | h2
  · omega
  · cases k with
    | zero => omega
    | succ k =>
      have : ¬ bl n ≤ k := fun h => by
        have := bl_spec.1 h
        simp at h2; omega
      omega

theorem tab_ok : (List.range 256).all (fun k => Nat.blt k (2 ^ strAt lenTab k) && (Nat.beq (strAt lenTab k) 0 || Nat.ble (2 ^ (strAt lenTab k - 1)) k)) = true := by kernel_rfl

theorem tab_bl {k : Nat} (h : k < 256) : strAt lenTab k = bl k := by
  have := List.all_eq_true.1 tab_ok k (List.mem_range.2 h)
  simp only [Bool.and_eq_true, Bool.or_eq_true] at this
  refine (bl_unique ?_ ?_).symm
  · exact Nat.lt_of_lt_of_le (Nat.lt_succ_self k) (Nat.le_of_ble_eq_true this.1)
  · rcases this.2 with h | h
    · exact .inl (Nat.eq_of_beq_eq_true h)
    · exact .inr (Nat.le_of_ble_eq_true h)

theorem bl_shift {n s : Nat} (h : 2 ^ s ≤ n) : bl n = s + bl (n / 2 ^ s) := by
  have hp := Nat.two_pow_pos s
  have e : bl (n / 2 ^ s) ≠ 0 := by
    intro h0
    have : n / 2 ^ s < 2 ^ 0 := bl_spec.1 (Nat.le_of_eq h0)
    have h1 : 1 ≤ n / 2 ^ s := (Nat.le_div_iff_mul_le hp).2 (by omega)
    simp at this; omega
  apply bl_unique
  · have := bl_spec.1 (Nat.le_refl (bl (n / 2 ^ s)))
    rw [Nat.pow_add]
    rw [Nat.mul_comm]
    exact (Nat.div_lt_iff_lt_mul hp).1 this
  · right
    have h2 : ¬ n / 2 ^ s < 2 ^ (bl (n / 2 ^ s) - 1) := fun h => by
      have := bl_spec.2 h
      omega
    have h3 : 2 ^ (bl (n / 2 ^ s) - 1) * 2 ^ s ≤ n := by
      have := Nat.le_of_not_lt h2
      exact (Nat.le_div_iff_mul_le hp).1 this
    rw [show s + bl (n / 2 ^ s) - 1 = bl (n / 2 ^ s) - 1 + s by omega, Nat.pow_add]
    exact h3

theorem sh_toNat (x : BitVec 64) {n : Nat} (h : n ≤ 64) : (sh x n).toNat = x.toNat / 2 ^ n := by
  unfold sh
  have : Nat.min n 64 = n := Nat.min_eq_left h
  rw [this, BitVec.toNat_ushiftRight, Nat.shiftRight_eq_div_pow]

theorem lenLeaf_holds {n : Nat} {y : BitVec 64} (hn : n ≤ 56) (h : y.toNat < 256) : (lenLeaf n y).holds (fun q => flat q = some ((kInt .i64).val ((n + bl y.toNat : Nat) : Int))) := by
  have hb : bl y.toNat ≤ 8 := bl_spec.2 (by simpa using h)
  have hw : IntKind.u8.wrap (Int.ofNat y.toNat) = (y.toNat : Int) := by
    simp only [IntKind.wrap, IntKind.bits, IntKind.signed]
    simp
    omega
  have hl : (lenTab.data.toList.length : Int) = 256 := by kernel_rfl
  refine ⟨?_, ?_⟩
  · rw [hw, hl]; simp; omega
  · rw [hw]
    simp only [Int.toNat_natCast]
    rw [tab_bl h, wrap_id (n := (bl y.toNat : Int)) (by omega) (by omega), wrap_id (by omega) (by omega)]
    show some (Value.int .i64 ((n : Int) + (bl y.toNat : Int))) = some (Value.int .i64 ((n + bl y.toNat : Nat) : Int))
    rw [Int.natCast_add]

theorem ule_nat {a b : BitVec 64} : BitVec.ule a b = decide (a.toNat ≤ b.toNat) := by
  simp [BitVec.ule]

theorem len64_gives (x : BitVec 64) : Gives (afunR PR (envOf eqsT []) [4, 8, 14] (fun _ => none) 40 190 [kU.enc x]) ((kInt .i64).val ((bl x.toNat : Nat) : Int)) := by
  refine ⟨Tree.holds_but (l := [4, 6, 8, 10]) (i := 0) ?_⟩
  rw [len64_run]
  have hx := x.isLt
  have s32 : (sh x 32).toNat = x.toNat / 4294967296 := sh_toNat x (by decide)
  have s16 : (sh x 16).toNat = x.toNat / 65536 := sh_toNat x (by decide)
  have s8 : (sh x 8).toNat = x.toNat / 256 := sh_toNat x (by decide)
  have s3216 : (sh (sh x 32) 16).toNat = x.toNat / 4294967296 / 65536 := by rw [sh_toNat _ (by decide), s32]
  have s328 : (sh (sh x 32) 8).toNat = x.toNat / 4294967296 / 256 := by rw [sh_toNat _ (by decide), s32]
  have s168 : (sh (sh x 16) 8).toNat = x.toNat / 65536 / 256 := by rw [sh_toNat _ (by decide), s16]
  have s32168 : (sh (sh (sh x 32) 16) 8).toNat = x.toNat / 4294967296 / 65536 / 256 := by rw [sh_toNat _ (by decide), s3216]
  have e32 {m : Nat} (h : 4294967296 ≤ m) : bl m = 32 + bl (m / 4294967296) := bl_shift (s := 32) h
  have e16 {m : Nat} (h : 65536 ≤ m) : bl m = 16 + bl (m / 65536) := bl_shift (s := 16) h
  have e8 {m : Nat} (h : 256 ≤ m) : bl m = 8 + bl (m / 256) := bl_shift (s := 8) h
  have leaf {n : Nat} {y : BitVec 64} (hn : n ≤ 56) (h : y.toNat < 256) (e : bl x.toNat = n + bl y.toNat) : (lenLeaf n y).holds (fun q => flat q = some ((kInt .i64).val ((bl x.toNat : Nat) : Int))) := by
    rw [e]; exact lenLeaf_holds hn h
  simp only [ule_nat]
  refine ⟨fun h1 => ⟨fun h2 => ⟨rfl, rfl, fun h3 => ⟨rfl, ?_⟩, fun h3 => ?_⟩, fun h2 => ⟨rfl, fun h3 => ⟨rfl, ?_⟩, fun h3 => ?_⟩⟩, fun h1 => ⟨fun h2 => ⟨rfl, fun h3 => ⟨rfl, ?_⟩, fun h3 => ?_⟩, fun h2 => ⟨fun h3 => ⟨rfl, ?_⟩, fun h3 => ?_⟩⟩⟩
  · have h1 : 4294967296 ≤ x.toNat := of_decide_eq_true h1
    have h2 : 65536 ≤ (sh x 32).toNat := of_decide_eq_true h2
    have h3 : 256 ≤ (sh (sh x 32) 16).toNat := of_decide_eq_true h3
    rw [s32] at h2
    rw [s3216] at h3
    exact leaf (n := 56) (by decide) (by rw [s32168]; omega) (by rw [s32168, e32 h1, e16 h2, e8 h3]; omega)
  · have h1 : 4294967296 ≤ x.toNat := of_decide_eq_true h1
    have h2 : 65536 ≤ (sh x 32).toNat := of_decide_eq_true h2
    have h3 : ¬ 256 ≤ (sh (sh x 32) 16).toNat := of_decide_eq_false h3
    rw [s32] at h2
    rw [s3216] at h3
    exact leaf (n := 48) (by decide) (by rw [s3216]; omega) (by rw [s3216, e32 h1, e16 h2]; omega)
  · have h1 : 4294967296 ≤ x.toNat := of_decide_eq_true h1
    have h2 : ¬ 65536 ≤ (sh x 32).toNat := of_decide_eq_false h2
    have h3 : 256 ≤ (sh x 32).toNat := of_decide_eq_true h3
    rw [s32] at h2 h3
    exact leaf (n := 40) (by decide) (by rw [s328]; omega) (by rw [s328, e32 h1, e8 h3]; omega)
  · have h1 : 4294967296 ≤ x.toNat := of_decide_eq_true h1
    have h2 : ¬ 65536 ≤ (sh x 32).toNat := of_decide_eq_false h2
    have h3 : ¬ 256 ≤ (sh x 32).toNat := of_decide_eq_false h3
    rw [s32] at h2 h3
    exact leaf (n := 32) (by decide) (by rw [s32]; omega) (by rw [s32, e32 h1])
  · have h1 : ¬ 4294967296 ≤ x.toNat := of_decide_eq_false h1
    have h2 : 65536 ≤ x.toNat := of_decide_eq_true h2
    have h3 : 256 ≤ (sh x 16).toNat := of_decide_eq_true h3
    rw [s16] at h3
    exact leaf (n := 24) (by decide) (by rw [s168]; omega) (by rw [s168, e16 h2, e8 h3]; omega)
  · have h1 : ¬ 4294967296 ≤ x.toNat := of_decide_eq_false h1
    have h2 : 65536 ≤ x.toNat := of_decide_eq_true h2
    have h3 : ¬ 256 ≤ (sh x 16).toNat := of_decide_eq_false h3
    rw [s16] at h3
    exact leaf (n := 16) (by decide) (by rw [s16]; omega) (by rw [s16, e16 h2])
  · have h1 : ¬ 4294967296 ≤ x.toNat := of_decide_eq_false h1
    have h2 : ¬ 65536 ≤ x.toNat := of_decide_eq_false h2
    have h3 : 256 ≤ x.toNat := of_decide_eq_true h3
    exact leaf (n := 8) (by decide) (by rw [s8]; omega) (by rw [s8, e8 h3])
  · have h1 : ¬ 4294967296 ≤ x.toNat := of_decide_eq_false h1
    have h2 : ¬ 65536 ≤ x.toNat := of_decide_eq_false h2
    have h3 : ¬ 256 ≤ x.toNat := of_decide_eq_false h3
    exact leaf (n := 0) (by decide) (by omega) (by omega)

theorem len64_ctx : Ctx PR (envOf eqsT []) [4, 8, 14] (fun _ => none) 40 190 :=
  ctx_of (envOf_ok eqsT_ok TabPOk.nil) mixed (fn := Tryz.f190) (by kernel_rfl) (by kernel_rfl) (by kernel_rfl) (tabOk_none _)
theorem len64_ok : CallOk PR 190 (fn1 kU (kInt .i64) fun x => ((bl x.toNat : Nat) : Int)) :=
  .inl ⟨enters_of (fn := Tryz.f190) (by kernel_rfl) (by kernel_rfl) (by kernel_rfl), pure1 len64_ctx len64_gives⟩

/-! How many bits a number of six words has. -/
def lenT (L : BitVec 64 → Int) : PureTab := [(190, fn1 kU (kInt .i64) L)]
theorem lenT_ok : TabPOk PR (lenT fun x => ((bl x.toNat : Nat) : Int)) := TabPOk.cons len64_ok TabPOk.nil
def lenL (L : BitVec 64 → Int) (a : W6) : List (Bool × Int) := [(a.w5 != 0#64, IntKind.i64.wrap (320 + L a.w5)), (a.w4 != 0#64, IntKind.i64.wrap (256 + L a.w4)), (a.w3 != 0#64, IntKind.i64.wrap (192 + L a.w3)),
  (a.w2 != 0#64, IntKind.i64.wrap (128 + L a.w2)), (a.w1 != 0#64, IntKind.i64.wrap (64 + L a.w1)), (a.w0 != 0#64, IntKind.i64.wrap (0 + L a.w0))]
theorem len_run (L : BitVec 64 → Int) (a : W6) : (afunR PR (envOf eqsT (lenT L)) [11] (fun _ => none) 40 169 [c6.agg.enc a]).strict = chain (kInt .i64) (lenL L a) 0 := by kernel_rfl
theorem len_ctx : Ctx PR (envOf eqsT (lenT fun x => ((bl x.toNat : Nat) : Int))) [11] (fun _ => none) 40 169 :=
  ctx_of (envOf_ok eqsT_ok lenT_ok) mixed (fn := Tryz.f169) (by kernel_rfl) (by kernel_rfl) (by kernel_rfl) (tabOk_none _)
def lenI (a : W6) : Int := chainV (lenL (fun x => ((bl x.toNat : Nat) : Int)) a) 0
theorem len_ok : CallOk PR 169 (fn1 c6.agg (kInt .i64) lenI) :=
  .inl ⟨enters_of (fn := Tryz.f169) (by kernel_rfl) (by kernel_rfl) (by kernel_rfl), pure1 len_ctx (fun a => chainVal (len_run _ a))⟩

/-! One bit of a number. -/
def andI (i : Int) : Int := IntKind.i64.wrap ((BitVec.ofInt 64 i &&& BitVec.ofInt 64 63).toNat : Int)
def bitTree (a : W6) (i : Int) : Tree AV :=
  .br (decide (i < 0)) (.need true (.leaf (.v (.int .i64 0)))) (.br (decide (i ≥ 384)) (.need true (.leaf (.v (.int .i64 0))))
    (.need (decide (0 ≤ andI i) && (decide (0 + (i.fdiv (2 ^ 6)).toNat * 1 < 6) && (decide (0 ≤ i.fdiv (2 ^ 6) ∧ i.fdiv (2 ^ 6) < 6) && true)))
      (.leaf (.v (.int .i64 (IntKind.i64.wrap (Int.ofNat ((a.get (0 + (i.fdiv (2 ^ 6)).toNat * 1) >>> Nat.min (andI i).toNat 64) &&& bitW true).toNat)))))))
set_option maxRecDepth 100000 in
theorem bit_run (a : W6) (i : Int) : Tree.but [2] 0 (afunR PR (envW eqsT []) [7, 10] (fun _ => none) 40 180 [c6.agg.enc a, (kInt .i64).enc i]) = bitTree a i := by kernel_rfl

def bitI (a : W6) (i : Int) : Int := bif decide (i < 0) then 0 else bif decide (i ≥ 384) then 0 else bif a.bit i.toNat then 1 else 0

theorem and63 {i : Int} (h0 : 0 ≤ i) (h1 : i < 384) : andI i = i % 64 := by
  obtain ⟨n, rfl⟩ := Int.eq_ofNat_of_zero_le h0
  unfold andI
  have e : (BitVec.ofInt 64 (n : Int) &&& BitVec.ofInt 64 63).toNat = n % 64 := by
    rw [BitVec.toNat_and]
    have e1 : (BitVec.ofInt 64 (n : Int)).toNat = n := by simp; omega
    have e2 : (BitVec.ofInt 64 63).toNat = 63 := by decide
    rw [e1, e2]
    exact Nat.and_two_pow_sub_one_eq_mod n 6
  rw [e, wrap_id (by omega) (by omega)]
  omega

theorem bit_gives (a : W6) (i : Int) : Gives (afunR PR (envW eqsT []) [7, 10] (fun _ => none) 40 180 [c6.agg.enc a, (kInt .i64).enc i]) ((kInt .i64).val (bitI a i)) := by
  refine ⟨Tree.holds_but (l := [2]) (i := 0) ?_⟩
  rw [bit_run]
  unfold bitTree bitI
  refine ⟨fun h1 => by rw [h1]; exact ⟨rfl, rfl⟩, fun h1 => ⟨fun h2 => by rw [h1, h2]; exact ⟨rfl, rfl⟩, fun h2 => ?_⟩⟩
  rw [h1, h2]
  have h1 : ¬ i < 0 := of_decide_eq_false h1
  have h2 : ¬ i ≥ 384 := of_decide_eq_false h2
  have hf : i.fdiv (2 ^ 6) = i / 64 := by
    rw [Int.fdiv_eq_ediv_of_nonneg _ (by decide)]
    rfl
  have ha := and63 (i := i) (by omega) (by omega)
  rw [hf, ha]
  have e1 : 0 + (i / 64).toNat * 1 = i.toNat / 64 := by omega
  have e2 : Nat.min (i % 64).toNat 64 = i.toNat % 64 := by show min _ _ = _; omega
  refine ⟨?_, ?_⟩
  · simp; omega
  · rw [e1, e2]
    show some (Value.int .i64 _) = some (Value.int .i64 _)
    congr 2
    unfold W6.bit
    generalize a.get (i.toNat / 64) >>> (i.toNat % 64) = y
    have hb : (y &&& 1#64).toNat < 2 := by
      rw [BitVec.toNat_and, show (1#64).toNat = 1 from rfl, Nat.and_one_is_mod]
      omega
    rw [show bitW true = 1#64 from rfl]
    cases hc : (y &&& 1#64) == 1#64 with
    | true =>
      rw [eq_of_beq hc]
      rfl
    | false =>
      have : (y &&& 1#64).toNat = 0 := by
        have hne : (y &&& 1#64) ≠ 1#64 := by simpa using hc
        have : (y &&& 1#64).toNat ≠ 1 := fun h => hne (BitVec.eq_of_toNat_eq (by rw [h]; rfl))
        omega
      rw [this]
      rfl

theorem bit_ctx : Ctx PR (envW eqsT []) [7, 10] (fun _ => none) 40 180 :=
  ctx_of (envW_ok eqsT_ok TabPOk.nil) mixed (fn := Tryz.f180) (by kernel_rfl) (by kernel_rfl) (by kernel_rfl) (tabOk_none _)
theorem bit_ok : CallOk PR 180 (fn2 c6.agg (kInt .i64) (kInt .i64) bitI) :=
  .inl ⟨enters_of (fn := Tryz.f180) (by kernel_rfl) (by kernel_rfl) (by kernel_rfl), pure2 bit_ctx bit_gives⟩
theorem of_ok : CallOk PR 31 (fn1 kU c6.agg ofW) :=
  .inl ⟨enters_of (fn := Tryz.f31) (by kernel_rfl) (by kernel_rfl) (by kernel_rfl), pure1 of_ctx (fun x => leafVal (B := c6.agg) (y := ofW x) (of_run x))⟩
end Go.Rq

/- The curves' functions, the field left open. Written by a program of ours. -/
namespace Go.Rq
open Go Go.Proofs

def flW : CC (Fl W6) := cFl 130 131 132 133 c6
def flD : CC (Fl D6) := cFl 108 140 141 142 c12
def jW : CC (Jp W6) := cJp c6
def jD : CC (Jp D6) := cJp c12
def aW : CC (Ap W6) := cAp c6
def aD : CC (Ap D6) := cAp c12

def T2 (o : FO D6) : PureTab := [(108, fn2 c12.agg c12.agg c12.agg o.add),
  (140, fn2 c12.agg c12.agg c12.agg o.sub),
  (141, fn2 c12.agg c12.agg c12.agg o.mul),
  (142, fn1 c12.agg c12.agg o.inv),
  (109, fn1 c12.agg c12.agg o.to),
  (107, fn1 c12.agg c12.agg o.back),
  (143, fn0 c12.agg o.one)]
theorem T2_eq : [(108, fn2 c12.agg c12.agg c12.agg (add2 fW)), (140, fn2 c12.agg c12.agg c12.agg (sub2 fW)), (141, fn2 c12.agg c12.agg c12.agg (mul2 fW)), (142, fn1 c12.agg c12.agg (inv2 fW)), (109, fn1 c12.agg c12.agg (to2 fW)), (107, fn1 c12.agg c12.agg (back2 fW)), (143, fn0 c12.agg one2)] = T2 fD := by kernel_rfl
theorem T2_ok : TabPOk PR (T2 fD) := Eq.subst (motive := TabPOk PR) T2_eq (TabPOk.cons add2_ok (TabPOk.cons sub2_ok (TabPOk.cons mul2_ok (TabPOk.cons inv2_ok (TabPOk.cons to2_ok (TabPOk.cons back2_ok (TabPOk.cons one2_ok (TabPOk.nil))))))))

set_option maxRecDepth 100000 in
theorem twW_run (o : FO W6) (f : Fl W6) (p : Jp W6) : (afunR PR (envOf eqsT (T1 o)) [] (fun _ => none) 40 179 [flW.agg.enc f, jW.agg.enc p]).strict = .leaf (jW.agg.enc (twiceJ o p)) := by kernel_rfl

set_option maxRecDepth 100000 in
theorem raW_run (o : FO W6) (f : Fl W6) (p : Ap W6) : (afunR PR (envOf eqsT (T1 o)) [6] (fun _ => none) 40 138 [flW.agg.enc f, aW.agg.enc p]).strict = .br p.zero (.leaf (jW.agg.enc ⟨f.one, f.one, zeroW⟩)) (.leaf (jW.agg.enc ⟨p.x, p.y, f.one⟩)) := by kernel_rfl

set_option maxRecDepth 100000 in
theorem loW_run (o : FO W6) (f : Fl W6) (p : Jp W6) : (afunR PR (envOf eqsT (T1 o)) [11] (fun _ => none) 40 136 [flW.agg.enc f, jW.agg.enc p]).strict = .br (eqW p.z zeroW) (.leaf (.agg (c6.enc zeroW ++ (c6.enc zeroW ++ [.lit true])))) (.leaf (.agg (c6.enc (lowerJ o p).x ++ (c6.enc (lowerJ o p).y ++ [.lit false])))) := by kernel_rfl

set_option maxRecDepth 100000 in
theorem neW_run (o : FO W6) (f : Fl W6) (p : Ap W6) : (afunR PR (envOf eqsT (T1 o)) [] (fun _ => none) 40 119 [flW.agg.enc f, aW.agg.enc p]).strict = .leaf (aW.agg.enc ⟨p.x, o.sub zeroW p.y, p.zero⟩) := by kernel_rfl

set_option maxRecDepth 100000 in
theorem onW_run (o : FO W6) (f : Fl W6) (p : Ap W6) : (afunR PR (envOf eqsT (T1 o)) [7, 12] (fun _ => none) 40 92 [flW.agg.enc f, aW.agg.enc p]).strict = .br p.zero (.br (eqW p.x zeroW) (.leaf (kBool.enc (eqW p.y zeroW))) (.leaf (.lit false))) (.leaf (kBool.enc (eqW (o.mul p.y p.y) (o.add (o.mul (o.mul p.x p.x) p.x) f.b)))) := by kernel_rfl

set_option maxRecDepth 100000 in
theorem suW_run (o : FO W6) (f : Fl W6) (tw : Fl W6 → Jp W6 → Jp W6) (p q : Jp W6) : (afunR PR (envOf eqsT ((179, fn2 flW.agg jW.agg jW.agg tw) :: T1 o)) [23, 28, 90, 93] (fun _ => none) 40 181 [flW.agg.enc f, jW.agg.enc p, jW.agg.enc q]).strict = .br (eqW p.z zeroW) (.leaf (jW.agg.enc q)) (.br (eqW q.z zeroW) (.leaf (jW.agg.enc p)) (.br (eqW (hJ o p q) zeroW) (.br (eqW (rJ o p q) zeroW) (.leaf (jW.agg.enc (tw f p))) (.leaf (jW.agg.enc ⟨f.one, f.one, zeroW⟩))) (.leaf (jW.agg.enc (sumJ o p q))))) := by kernel_rfl

set_option maxRecDepth 100000 in
theorem twD_run (o : FO D6) (f : Fl D6) (p : Jp D6) : (afunR PR (envOf eqsT (T2 o)) [] (fun _ => none) 40 184 [flD.agg.enc f, jD.agg.enc p]).strict = .leaf (jD.agg.enc (twiceJ o p)) := by kernel_rfl

set_option maxRecDepth 100000 in
theorem raD_run (o : FO D6) (f : Fl D6) (p : Ap D6) : (afunR PR (envOf eqsT (T2 o)) [6] (fun _ => none) 40 146 [flD.agg.enc f, aD.agg.enc p]).strict = .br p.zero (.leaf (jD.agg.enc ⟨f.one, f.one, zero2⟩)) (.leaf (jD.agg.enc ⟨p.x, p.y, f.one⟩)) := by kernel_rfl

set_option maxRecDepth 100000 in
theorem loD_run (o : FO D6) (f : Fl D6) (p : Jp D6) : (afunR PR (envOf eqsT (T2 o)) [11] (fun _ => none) 40 144 [flD.agg.enc f, jD.agg.enc p]).strict = .br (eqD p.z zero2) (.leaf (.agg (c12.enc zero2 ++ (c12.enc zero2 ++ [.lit true])))) (.leaf (.agg (c12.enc (lowerJ o p).x ++ (c12.enc (lowerJ o p).y ++ [.lit false])))) := by kernel_rfl

set_option maxRecDepth 100000 in
theorem neD_run (o : FO D6) (f : Fl D6) (p : Ap D6) : (afunR PR (envOf eqsT (T2 o)) [] (fun _ => none) 40 103 [flD.agg.enc f, aD.agg.enc p]).strict = .leaf (aD.agg.enc ⟨p.x, o.sub zero2 p.y, p.zero⟩) := by kernel_rfl

set_option maxRecDepth 100000 in
theorem onD_run (o : FO D6) (f : Fl D6) (p : Ap D6) : (afunR PR (envOf eqsT (T2 o)) [7, 12] (fun _ => none) 40 93 [flD.agg.enc f, aD.agg.enc p]).strict = .br p.zero (.br (eqD p.x zero2) (.leaf (kBool.enc (eqD p.y zero2))) (.leaf (.lit false))) (.leaf (kBool.enc (eqD (o.mul p.y p.y) (o.add (o.mul (o.mul p.x p.x) p.x) f.b)))) := by kernel_rfl

set_option maxRecDepth 100000 in
theorem suD_run (o : FO D6) (f : Fl D6) (tw : Fl D6 → Jp D6 → Jp D6) (p q : Jp D6) : (afunR PR (envOf eqsT ((184, fn2 flD.agg jD.agg jD.agg tw) :: T2 o)) [23, 28, 90, 93] (fun _ => none) 40 148 [flD.agg.enc f, jD.agg.enc p, jD.agg.enc q]).strict = .br (eqD p.z zero2) (.leaf (jD.agg.enc q)) (.br (eqD q.z zero2) (.leaf (jD.agg.enc p)) (.br (eqD (hJ o p q) zero2) (.br (eqD (rJ o p q) zero2) (.leaf (jD.agg.enc (tw f p))) (.leaf (jD.agg.enc ⟨f.one, f.one, zero2⟩))) (.leaf (jD.agg.enc (sumJ o p q))))) := by kernel_rfl

end Go.Rq

/- The curves' functions: contracts. Written by a program of ours. -/
namespace Go.Rq
open Go Go.Proofs

theorem twW_ctx : Ctx PR (envOf eqsT (T1 fW)) [] (fun _ => none) 40 179 :=
  ctx_of (envOf_ok eqsT_ok T1_ok) mixed (fn := Tryz.f179) (by kernel_rfl) (by kernel_rfl) (by kernel_rfl) (tabOk_none _)
theorem twW_ok : CallOk PR 179 (fn2 flW.agg jW.agg jW.agg (fun _ p => twiceJ fW p)) :=
  .inl ⟨enters_of (fn := Tryz.f179) (by kernel_rfl) (by kernel_rfl) (by kernel_rfl), pure2 twW_ctx (fun f p => leafVal (B := jW.agg) (y := twiceJ fW p) (twW_run fW f p))⟩

theorem raW_ctx : Ctx PR (envOf eqsT (T1 fW)) [6] (fun _ => none) 40 138 :=
  ctx_of (envOf_ok eqsT_ok T1_ok) mixed (fn := Tryz.f138) (by kernel_rfl) (by kernel_rfl) (by kernel_rfl) (tabOk_none _)
theorem raW_ok : CallOk PR 138 (fn2 flW.agg aW.agg jW.agg (raiseJ fW)) :=
  .inl ⟨enters_of (fn := Tryz.f138) (by kernel_rfl) (by kernel_rfl) (by kernel_rfl), pure2 raW_ctx (fun f p => givesOf (raW_run fW f p) (holds_br (B := jW.agg) (holds_leaf (jW.agg.h1 _)) (holds_leaf (jW.agg.h1 _))))⟩

theorem loW_ctx : Ctx PR (envOf eqsT (T1 fW)) [11] (fun _ => none) 40 136 :=
  ctx_of (envOf_ok eqsT_ok T1_ok) mixed (fn := Tryz.f136) (by kernel_rfl) (by kernel_rfl) (by kernel_rfl) (tabOk_none _)
theorem loW_ok : CallOk PR 136 (fn2 flW.agg jW.agg aW.agg (fun _ p => lowerE fW eqW p)) :=
  .inl ⟨enters_of (fn := Tryz.f136) (by kernel_rfl) (by kernel_rfl) (by kernel_rfl), pure2 loW_ctx (fun f p => givesOf (loW_run fW f p) (holds_br (B := aW.agg) (holds_leaf (apFlatW _ _ _)) (holds_leaf (apFlatW _ _ _))))⟩

theorem neW_ctx : Ctx PR (envOf eqsT (T1 fW)) [] (fun _ => none) 40 119 :=
  ctx_of (envOf_ok eqsT_ok T1_ok) mixed (fn := Tryz.f119) (by kernel_rfl) (by kernel_rfl) (by kernel_rfl) (tabOk_none _)
theorem neW_ok : CallOk PR 119 (fn2 flW.agg aW.agg aW.agg (fun _ p => negE fW p)) :=
  .inl ⟨enters_of (fn := Tryz.f119) (by kernel_rfl) (by kernel_rfl) (by kernel_rfl), pure2 neW_ctx (fun f p => leafVal (B := aW.agg) (y := negE fW p) (neW_run fW f p))⟩

theorem onW_ctx : Ctx PR (envOf eqsT (T1 fW)) [7, 12] (fun _ => none) 40 92 :=
  ctx_of (envOf_ok eqsT_ok T1_ok) mixed (fn := Tryz.f92) (by kernel_rfl) (by kernel_rfl) (by kernel_rfl) (tabOk_none _)
theorem onW_ok : CallOk PR 92 (fn2 flW.agg aW.agg kBool (onE fW eqW)) :=
  .inl ⟨enters_of (fn := Tryz.f92) (by kernel_rfl) (by kernel_rfl) (by kernel_rfl), pure2 onW_ctx (fun f p => givesOf (onW_run fW f p) (holds_br (B := kBool) (holds_br (B := kBool) (holds_leaf (kBool.h1 _)) (holds_leaf (a := .lit false) (v := kBool.val false) rfl)) (holds_leaf (kBool.h1 _))))⟩

def twTW : PureTab := (179, fn2 flW.agg jW.agg jW.agg (fun _ p => twiceJ fW p)) :: T1 fW
theorem twTW_ok : TabPOk PR twTW := TabPOk.cons twW_ok T1_ok
theorem suW_ctx : Ctx PR (envOf eqsT (twTW)) [23, 28, 90, 93] (fun _ => none) 40 181 :=
  ctx_of (envOf_ok eqsT_ok twTW_ok) mixed (fn := Tryz.f181) (by kernel_rfl) (by kernel_rfl) (by kernel_rfl) (tabOk_none _)
theorem suW_ok : CallOk PR 181 (fn3 flW.agg jW.agg jW.agg jW.agg (sumE fW eqW)) :=
  .inl ⟨enters_of (fn := Tryz.f181) (by kernel_rfl) (by kernel_rfl) (by kernel_rfl), pure3 suW_ctx (fun f p q => givesOf (suW_run fW f (fun _ p => twiceJ fW p) p q) (holds_br (B := jW.agg) (holds_leaf (jW.agg.h1 _)) (holds_br (B := jW.agg) (holds_leaf (jW.agg.h1 _)) (holds_br (B := jW.agg) (holds_br (B := jW.agg) (holds_leaf (jW.agg.h1 _)) (holds_leaf (jW.agg.h1 _))) (holds_leaf (jW.agg.h1 _))))))⟩

theorem twD_ctx : Ctx PR (envOf eqsT (T2 fD)) [] (fun _ => none) 40 184 :=
  ctx_of (envOf_ok eqsT_ok T2_ok) mixed (fn := Tryz.f184) (by kernel_rfl) (by kernel_rfl) (by kernel_rfl) (tabOk_none _)
theorem twD_ok : CallOk PR 184 (fn2 flD.agg jD.agg jD.agg (fun _ p => twiceJ fD p)) :=
  .inl ⟨enters_of (fn := Tryz.f184) (by kernel_rfl) (by kernel_rfl) (by kernel_rfl), pure2 twD_ctx (fun f p => leafVal (B := jD.agg) (y := twiceJ fD p) (twD_run fD f p))⟩

theorem raD_ctx : Ctx PR (envOf eqsT (T2 fD)) [6] (fun _ => none) 40 146 :=
  ctx_of (envOf_ok eqsT_ok T2_ok) mixed (fn := Tryz.f146) (by kernel_rfl) (by kernel_rfl) (by kernel_rfl) (tabOk_none _)
theorem raD_ok : CallOk PR 146 (fn2 flD.agg aD.agg jD.agg (raiseJ fD)) :=
  .inl ⟨enters_of (fn := Tryz.f146) (by kernel_rfl) (by kernel_rfl) (by kernel_rfl), pure2 raD_ctx (fun f p => givesOf (raD_run fD f p) (holds_br (B := jD.agg) (holds_leaf (jD.agg.h1 _)) (holds_leaf (jD.agg.h1 _))))⟩

theorem loD_ctx : Ctx PR (envOf eqsT (T2 fD)) [11] (fun _ => none) 40 144 :=
  ctx_of (envOf_ok eqsT_ok T2_ok) mixed (fn := Tryz.f144) (by kernel_rfl) (by kernel_rfl) (by kernel_rfl) (tabOk_none _)
theorem loD_ok : CallOk PR 144 (fn2 flD.agg jD.agg aD.agg (fun _ p => lowerE fD eqD p)) :=
  .inl ⟨enters_of (fn := Tryz.f144) (by kernel_rfl) (by kernel_rfl) (by kernel_rfl), pure2 loD_ctx (fun f p => givesOf (loD_run fD f p) (holds_br (B := aD.agg) (holds_leaf (apFlatD _ _ _)) (holds_leaf (apFlatD _ _ _))))⟩

theorem neD_ctx : Ctx PR (envOf eqsT (T2 fD)) [] (fun _ => none) 40 103 :=
  ctx_of (envOf_ok eqsT_ok T2_ok) mixed (fn := Tryz.f103) (by kernel_rfl) (by kernel_rfl) (by kernel_rfl) (tabOk_none _)
theorem neD_ok : CallOk PR 103 (fn2 flD.agg aD.agg aD.agg (fun _ p => negE fD p)) :=
  .inl ⟨enters_of (fn := Tryz.f103) (by kernel_rfl) (by kernel_rfl) (by kernel_rfl), pure2 neD_ctx (fun f p => leafVal (B := aD.agg) (y := negE fD p) (neD_run fD f p))⟩

theorem onD_ctx : Ctx PR (envOf eqsT (T2 fD)) [7, 12] (fun _ => none) 40 93 :=
  ctx_of (envOf_ok eqsT_ok T2_ok) mixed (fn := Tryz.f93) (by kernel_rfl) (by kernel_rfl) (by kernel_rfl) (tabOk_none _)
theorem onD_ok : CallOk PR 93 (fn2 flD.agg aD.agg kBool (onE fD eqD)) :=
  .inl ⟨enters_of (fn := Tryz.f93) (by kernel_rfl) (by kernel_rfl) (by kernel_rfl), pure2 onD_ctx (fun f p => givesOf (onD_run fD f p) (holds_br (B := kBool) (holds_br (B := kBool) (holds_leaf (kBool.h1 _)) (holds_leaf (a := .lit false) (v := kBool.val false) rfl)) (holds_leaf (kBool.h1 _))))⟩

def twTD : PureTab := (184, fn2 flD.agg jD.agg jD.agg (fun _ p => twiceJ fD p)) :: T2 fD
theorem twTD_ok : TabPOk PR twTD := TabPOk.cons twD_ok T2_ok
theorem suD_ctx : Ctx PR (envOf eqsT (twTD)) [23, 28, 90, 93] (fun _ => none) 40 148 :=
  ctx_of (envOf_ok eqsT_ok twTD_ok) mixed (fn := Tryz.f148) (by kernel_rfl) (by kernel_rfl) (by kernel_rfl) (tabOk_none _)
theorem suD_ok : CallOk PR 148 (fn3 flD.agg jD.agg jD.agg jD.agg (sumE fD eqD)) :=
  .inl ⟨enters_of (fn := Tryz.f148) (by kernel_rfl) (by kernel_rfl) (by kernel_rfl), pure3 suD_ctx (fun f p q => givesOf (suD_run fD f (fun _ p => twiceJ fD p) p q) (holds_br (B := jD.agg) (holds_leaf (jD.agg.h1 _)) (holds_br (B := jD.agg) (holds_leaf (jD.agg.h1 _)) (holds_br (B := jD.agg) (holds_br (B := jD.agg) (holds_leaf (jD.agg.h1 _)) (holds_leaf (jD.agg.h1 _))) (holds_leaf (jD.agg.h1 _))))))⟩

end Go.Rq

/- The curves' multiples: a loop over a number's bits. Written by a program of ours. -/
namespace Go.Rq
open Go Go.Proofs

/-- What times calls, left open. -/
structure TO (K : Type) where
  tw : Fl K → Jp K → Jp K
  su : Fl K → Jp K → Jp K → Jp K
  ln : W6 → Int
  bt : W6 → Int → Int

/-- A multiple, from bit k - 1 down. -/
def timesG {K : Type} (t : TO K) (f : Fl K) (p : Jp K) (n : W6) : Nat → Jp K → Jp K
  | 0, out => out
  | k + 1, out => timesG t f p n k (bif t.bt n (k : Int) == 1 then t.su f (t.tw f out) p else t.tw f out)


def tmTW (t : TO W6) : PureTab := [(179, fn2 flW.agg jW.agg jW.agg t.tw), (181, fn3 flW.agg jW.agg jW.agg jW.agg t.su),
  (169, fn1 c6.agg (kInt .i64) t.ln), (180, fn2 c6.agg (kInt .i64) (kInt .i64) t.bt)]
noncomputable def tmEW (t : TO W6) : Env := envOf eqsT (tmTW t)
def tmKW : Keep := ⟨[3, 4, 5, 6, 7, 8], [0, 1, 2, 3, 9], 15⟩
@[irreducible] noncomputable def tmXW (t : TO W6) (f : Fl W6) (p : Jp W6) (n : W6) : XS := entryOf PR (tmEW t) [18, 27] (fun _ => none) 10 137 [flW.agg.enc f, jW.agg.enc p, c6.agg.enc n] [] 0 0 tmKW
@[irreducible] noncomputable def tmIW (t : TO W6) (f : Fl W6) (p : Jp W6) (n : W6) (d : Int × Jp W6) : XS := ((tmXW t f p n).setT 8 (.v (.int .i64 d.1))).setB 9 (jW.enc d.2)
@[irreducible] noncomputable def tmCW : Code := roundOf PR 137 0

set_option maxRecDepth 100000 in
theorem tm_roundW (t : TO W6) (f : Fl W6) (p : Jp W6) (n : W6) (z : Int) (out : Jp W6) : (roundT PR (tmEW t) [18, 27] (fun _ => none) 10 tmKW tmKW tmKW tmCW (tmIW t f p n (z, out))).strict =
    .br (decide (z ≥ 0))
      (.br (t.bt n z == 1)
        (.leaf (.normal, tmIW t f p n (IntKind.i64.wrap (z - 1), t.su f (t.tw f out) p)))
        (.leaf (.normal, tmIW t f p n (IntKind.i64.wrap (z - 1), t.tw f out))))
      (.leaf (.exit 0, tmIW t f p n (z, out))) := by kernel_rfl


def tmTD (t : TO D6) : PureTab := [(184, fn2 flD.agg jD.agg jD.agg t.tw), (148, fn3 flD.agg jD.agg jD.agg jD.agg t.su),
  (169, fn1 c6.agg (kInt .i64) t.ln), (180, fn2 c6.agg (kInt .i64) (kInt .i64) t.bt)]
noncomputable def tmED (t : TO D6) : Env := envOf eqsT (tmTD t)
def tmKD : Keep := ⟨[3, 4, 5, 6, 7, 8], [0, 1, 2, 3, 9], 15⟩
@[irreducible] noncomputable def tmXD (t : TO D6) (f : Fl D6) (p : Jp D6) (n : W6) : XS := entryOf PR (tmED t) [18, 27] (fun _ => none) 10 145 [flD.agg.enc f, jD.agg.enc p, c6.agg.enc n] [] 0 0 tmKD
@[irreducible] noncomputable def tmID (t : TO D6) (f : Fl D6) (p : Jp D6) (n : W6) (d : Int × Jp D6) : XS := ((tmXD t f p n).setT 8 (.v (.int .i64 d.1))).setB 9 (jD.enc d.2)
@[irreducible] noncomputable def tmCD : Code := roundOf PR 145 0

set_option maxRecDepth 100000 in
theorem tm_roundD (t : TO D6) (f : Fl D6) (p : Jp D6) (n : W6) (z : Int) (out : Jp D6) : (roundT PR (tmED t) [18, 27] (fun _ => none) 10 tmKD tmKD tmKD tmCD (tmID t f p n (z, out))).strict =
    .br (decide (z ≥ 0))
      (.br (t.bt n z == 1)
        (.leaf (.normal, tmID t f p n (IntKind.i64.wrap (z - 1), t.su f (t.tw f out) p)))
        (.leaf (.normal, tmID t f p n (IntKind.i64.wrap (z - 1), t.tw f out))))
      (.leaf (.exit 0, tmID t f p n (z, out))) := by kernel_rfl

end Go.Rq
