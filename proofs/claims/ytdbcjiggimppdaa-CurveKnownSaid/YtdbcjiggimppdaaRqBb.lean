/- The power of an element of the great field: a loop, told by data. -/
import Derived.Test.YtdbcjiggimppdaaRqBa
import Derived.Test.YtdbcjiggimppdaaRqT
namespace Go.Rq
open Go Go.Proofs

/-- The table with the product left open. -/
def powT (M : W6 → W6 → W6) : PureTab := [(133, fn2 c6.agg c6.agg c6.agg M), (135, fn0 c6.agg oneW)]
theorem powT_ok : TabPOk PR (powT mulW) := TabPOk.cons mmul_ok (TabPOk.cons one_ok TabPOk.nil)
noncomputable def powE (M : W6 → W6 → W6) : Env := envW eqsT (powT M)
theorem powE_ok : EnvOk PR (powE mulW) := envW_ok eqsT_ok powT_ok
def powK : Keep := ⟨[2, 3, 4, 5, 6], [0, 1, 2, 4], 7⟩
@[irreducible] noncomputable def powX (M : W6 → W6 → W6) (a e : W6) : XS := entryOf PR (powE M) [9, 23] (fun _ => none) 10 174 [c6.agg.enc a, c6.agg.enc e] [] 0 0 powK
@[irreducible] noncomputable def powI (M : W6 → W6 → W6) (a e : W6) (d : Int × W6) : XS := ((powX M a e).setT 6 (.v (.int .i64 d.1))).setB 4 (c6.enc d.2)
@[irreducible] noncomputable def powC : Code := roundOf PR 174 0

def quo64 (z : Int) : Int := IntKind.i64.wrap (Int.tdiv z 64)

def powCond (z : Int) : Bool := decide (0 ≤ Int.tmod z 64) && (decide (0 + (quo64 z).toNat * 1 < 6) && (decide (0 ≤ quo64 z ∧ quo64 z < 6) && true))

set_option maxRecDepth 100000 in
theorem pow_round (M : W6 → W6 → W6) (a e : W6) (z : Int) (out : W6) : Tree.but [2] 0 (roundT PR (powE M) [9, 23] (fun _ => none) 10 powK powK powK powC (powI M a e (z, out))) =
    .br (decide (z ≥ 0))
      (.br (((e.get (0 + (quo64 z).toNat * 1) >>> Nat.min (Int.tmod z 64).toNat 64) &&& bitW true) == bitW true)
        (.need (powCond z)
          (.leaf (.normal, powI M a e (IntKind.i64.wrap (z - 1), M (M out out) a))))
        (.need (powCond z)
          (.leaf (.normal, powI M a e (IntKind.i64.wrap (z - 1), M out out)))))
      (.leaf (.exit 0, powI M a e (z, out))) := by kernel_rfl

noncomputable def powB (M : W6 → W6 → W6) (a e r : W6) : BEnt := ⟨powK.tm, powK.ids, powK.n, powX M a e, .leaf (.normal, powI M a e (-1, r))⟩

set_option maxRecDepth 100000 in
theorem pow_run (M : W6 → W6 → W6) (a e r : W6) : (afunR PR (powE M) [9, 23] (tabOf [(0, powB M a e r)]) 10 174 [c6.agg.enc a, c6.agg.enc e]).strict =
    .same (powX M a e) (powX M a e) (.leaf (c6.agg.enc r)) := by kernel_rfl

theorem pow_head (M : W6 → W6 → W6) (a e : W6) : powX M a e = powI M a e (383, oneW) := by kernel_rfl

theorem pow_blk : blkAll 0 (bodyOf PR 174) = [.loop powC] := by kernel_rfl

theorem pow_codeOk : codeOk (powE mulW) powC = true := by kernel_rfl

theorem wrap_id {n : Int} (h0 : -9223372036854775808 ≤ n) (h1 : n < 9223372036854775808) : IntKind.i64.wrap n = n := by
  simp only [IntKind.wrap, IntKind.bits, IntKind.signed]
  simp
  omega

theorem quo64_eq {z : Int} (h0 : 0 ≤ z) (h1 : z ≤ 383) : quo64 z = z / 64 := by
  unfold quo64
  rw [Int.tdiv_eq_ediv_of_nonneg h0, wrap_id]
  all_goals omega

theorem pow_law (M : W6 → W6 → W6) (a e : W6) (rt : XS → Tree (AExit × XS)) (I : Int × W6 → XS) (hr : ∀ (z : Int) (out : W6), Tree.but [2] 0 (rt (I (z, out))) =
    .br (decide (z ≥ 0))
      (.br (((e.get (0 + (quo64 z).toNat * 1) >>> Nat.min (Int.tmod z 64).toNat 64) &&& bitW true) == bitW true)
        (.need (powCond z)
          (.leaf (.normal, I (IntKind.i64.wrap (z - 1), M (M out out) a))))
        (.need (powCond z)
          (.leaf (.normal, I (IntKind.i64.wrap (z - 1), M out out)))))
      (.leaf (.exit 0, I (z, out)))) {K : AExit → XS → Prop} (hK : K .normal (I (-1, powG M a e 384 oneW))) :
    ∀ d : Int × W6, (-1 ≤ d.1 ∧ d.1 ≤ 383 ∧ powG M a e (d.1 + 1).toNat d.2 = powG M a e 384 oneW) → (rt (I d)).holds (fun r => match r.1 with
      | .normal => ∃ j : Int × W6, (-1 ≤ j.1 ∧ j.1 ≤ 383 ∧ powG M a e (j.1 + 1).toNat j.2 = powG M a e 384 oneW) ∧ (j.1 + 1).toNat < (d.1 + 1).toNat ∧ r.2 = I j
      | .exit q => if q = 0 then K .normal r.2 else K (.exit q) r.2
      | .ret => K .ret r.2) := by
  generalize hR : powG M a e 384 oneW = R at *
  rintro ⟨z, out⟩ ⟨h0, h1, h2⟩
  apply Tree.holds_but (l := [2]) (i := 0)
  rw [hr]
  refine ⟨fun hz => ?_, fun hz => ?_⟩
  · have hz : 0 ≤ z := by simpa using hz
    have hq := quo64_eq hz h1
    have hm : Int.tmod z 64 = z % 64 := Int.tmod_eq_emod_of_nonneg hz
    have hw : IntKind.i64.wrap (z - 1) = z - 1 := wrap_id (by omega) (by omega)
    have hc : powCond z = true := by
      unfold powCond
      rw [hq, hm]
      simp
      omega
    have hk : (z + 1).toNat = z.toNat + 1 := by omega
    have hg : (((e.get (0 + (quo64 z).toNat * 1) >>> Nat.min (Int.tmod z 64).toNat 64) &&& bitW true) == bitW true) = e.bit z.toNat := by
      have e1 : 0 + (quo64 z).toNat * 1 = z.toNat / 64 := by rw [hq]; omega
      have e2 : Nat.min (Int.tmod z 64).toNat 64 = z.toNat % 64 := by rw [hm]; show min _ _ = _; omega
      rw [e1, e2]
      rfl
    rw [hg]
    simp only at h2
    rw [hk] at h2
    simp only [powG] at h2
    have hk' : (z - 1 + 1).toNat = z.toNat := by omega
    refine ⟨fun hb => ⟨hc, ⟨z - 1, M (M out out) a⟩, ⟨by simp only; omega, by simp only; omega, ?_⟩, ?_, ?_⟩, fun hb => ⟨hc, ⟨z - 1, M out out⟩, ⟨by simp only; omega, by simp only; omega, ?_⟩, ?_, ?_⟩⟩
    · rw [hb] at h2
      simp only [hk']
      exact h2
    · show (z - 1 + 1).toNat < (z + 1).toNat
      omega
    · rw [hw]
    · rw [hb] at h2
      simp only [hk']
      exact h2
    · show (z - 1 + 1).toNat < (z + 1).toNat
      omega
    · rw [hw]
  · have hz : z = -1 := by
      have : ¬ 0 ≤ z := by simpa using hz
      omega
    subst hz
    have h2 : out = R := h2
    show (if (0 : Nat) = 0 then K .normal (I (-1, out)) else K (.exit 0) (I (-1, out)))
    rw [if_pos rfl, h2]
    exact hK

theorem pow_start (M : W6 → W6 → W6) (a e : W6) : -1 ≤ ((383, oneW) : Int × W6).1 ∧ ((383, oneW) : Int × W6).1 ≤ 383 ∧ powG M a e (((383, oneW) : Int × W6).1 + 1).toNat ((383, oneW) : Int × W6).2 = powG M a e 384 oneW := by
  have hk : ((383 : Int) + 1).toNat = 384 := by decide
  refine ⟨?_, ?_, ?_⟩
  · show (-1 : Int) ≤ 383
    omega
  · show (383 : Int) ≤ 383
    omega
  · exact congrArg (fun k => powG M a e k oneW) hk

theorem pow_loop (a e : W6) {F : Fr} {ds : List Deferred} {K : AExit → XS → Prop} (hK : K .normal (powI mulW a e (-1, pow384 a e))) :
    Tri PR F ds 0 (.block 0 (.loop powC)) (powX mulW a e) K :=
  Eq.subst (motive := fun y => Tri PR F ds 0 (.block 0 (.loop powC)) y K) (pow_head mulW a e).symm <| blockLoop (m := 0) powE_ok mixed (sym := [9, 23]) (tab := fun _ => none) (lf := 10) (k := powK) (kx := powK) (kr := powK) (Nat.zero_le _) (Nat.zero_le _) (Nat.zero_le _) pow_codeOk (tabOk_none _)
    (powI mulW a e) (fun d => -1 ≤ d.1 ∧ d.1 ≤ 383 ∧ powG mulW a e (d.1 + 1).toNat d.2 = powG mulW a e 384 oneW) (fun d => (d.1 + 1).toNat) (383, oneW) (pow_start mulW a e)
    (pow_law mulW a e _ (powI mulW a e) (pow_round mulW a e) hK)

theorem pow_ctx (a e : W6) : Ctx PR (powE mulW) [9, 23] (tabOf [(0, powB mulW a e (pow384 a e))]) 10 174 :=
  ctx_of powE_ok mixed (fn := Try.f174) (by kernel_rfl) (by kernel_rfl) (by kernel_rfl)
    (tabOk_one (Nat.zero_le _) pow_blk fun F ds K h => pow_loop a e h)

theorem pow_ok : CallOk PR 174 (fn2 c6.agg c6.agg c6.agg pow384) :=
  .inl ⟨enters_of (fn := Try.f174) (by kernel_rfl) (by kernel_rfl) (by kernel_rfl),
    pure2X fun a e => .of (pow_ctx a e) (sameVal (pow_run mulW a e (pow384 a e)))⟩
end Go.Rq
