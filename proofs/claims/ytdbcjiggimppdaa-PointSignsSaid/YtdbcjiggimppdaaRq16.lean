/- The reference's arithmetic of a modulus: contracts. -/
import Derived.Test.YtdbcjiggimppdaaRq15
import Derived.Test.YtdbcjiggimppdaaRq07
import Derived.Test.YtdbcjiggimppdaaRq13
import Derived.Test.YtdbcjiggimppdaaRq14
import Derived.Test.YtdbcjiggimppdaaRq09
namespace Go.Rq
open Go Go.Proofs

abbrev W8 : Type := W6 × BitVec 64 × BitVec 64
abbrev Fa : Type := W6 × BitVec 64 × W6

def mtRound (R : W8 → BitVec 64 → W6 → W8) (f : Fa) (b : W6) (x : BitVec 64) (t : W8) : W8 :=
  let u := R t x b
  let v := R u (u.1.w0 * f.2.1) f.1
  (⟨v.1.w1, v.1.w2, v.1.w3, v.1.w4, v.1.w5, v.2.1⟩, v.2.2, bitW false)
def zero8 : W8 := (⟨0#64, 0#64, 0#64, 0#64, 0#64, 0#64⟩, 0#64, 0#64)
def mtRaw (R : W8 → BitVec 64 → W6 → W8) (f : Fa) (a b : W6) : W8 :=
  mtRound R f b a.w5 (mtRound R f b a.w4 (mtRound R f b a.w3 (mtRound R f b a.w2 (mtRound R f b a.w1 (mtRound R f b a.w0 zero8)))))

def mtT (cm : W6 → W6 → Int) (sb : W6 → W6 → W6 × Bool) : PureTab := [(127, fn2 c6.agg c6.agg (kInt .i64) cm), (143, fn2 c6.agg c6.agg kWB sb)]
noncomputable def mtE (R : W8 → BitVec 64 → W6 → W8) (cm : W6 → W6 → Int) (sb : W6 → W6 → W6 × Bool) : Env := envH eqsT (mtT cm sb) [(170, wr4 198 cFa.agg c8 kU c6.agg (fun _ => R))]
set_option maxRecDepth 1000000 in
theorem mont_run (R : W8 → BitVec 64 → W6 → W8) (cm : W6 → W6 → Int) (sb : W6 → W6 → W6 × Bool) (f : Fa) (a b : W6) :
    (afunR PR (mtE R cm sb) [54, 60] (fun _ => none) 20 129 [cFa.agg.enc f, c6.agg.enc a, c6.agg.enc b]).strict =
    .br ((mtRaw R f a b).2.1 != bitW false) (.leaf (c6.agg.enc (sb (mtRaw R f a b).1 f.1).1)) (.br (decide (cm (mtRaw R f a b).1 f.1 ≥ 0)) (.leaf (c6.agg.enc (sb (mtRaw R f a b).1 f.1).1)) (.leaf (c6.agg.enc (mtRaw R f a b).1))) := by kernel_rfl
def cmW (a b : W6) : Int := chainV (cmpL a b) 0
def montW (f : Fa) (a b : W6) : W6 := bif (mtRaw rowW f a b).2.1 != bitW false then (rsubW (mtRaw rowW f a b).1 f.1).1 else bif decide (cmW (mtRaw rowW f a b).1 f.1 ≥ 0) then (rsubW (mtRaw rowW f a b).1 f.1).1 else (mtRaw rowW f a b).1
theorem mtE_ok : EnvOk PR (mtE rowW cmW rsubW) := envH_ok eqsT_ok (TabPOk.cons rcmp_ok (TabPOk.cons rsub_ok TabPOk.nil)) (TabHOk.cons row_ent row_ok TabHOk.nil)
theorem mont_ctx : Ctx PR (mtE rowW cmW rsubW) [54, 60] (fun _ => none) 20 129 :=
  ctx_of mtE_ok mixed (fn := Try.f129) (by kernel_rfl) (by kernel_rfl) (by kernel_rfl) (tabOk_none _)
theorem mont_ok : CallOk PR 129 (fn3 cFa.agg c6.agg c6.agg c6.agg montW) :=
  .inl ⟨enters_of (fn := Try.f129) (by kernel_rfl) (by kernel_rfl) (by kernel_rfl), pure3 mont_ctx (fun f a b => givesOf (mont_run rowW cmW rsubW f a b) (holds_br (B := c6.agg) (holds_leaf (c6.agg.h1 _)) (holds_br (B := c6.agg) (holds_leaf (c6.agg.h1 _)) (holds_leaf (c6.agg.h1 _)))))⟩

/-! The great prime. -/
def fastP : Fa := (primeW, 9940570264628428797#64, wideW)
theorem rbase_ctx : Ctx PR (envOf eqsT []) [] (fun _ => none) 10 128 :=
  ctx_of (envOf_ok eqsT_ok TabPOk.nil) mixed (fn := Try.f128) (by kernel_rfl) (by kernel_rfl) (by kernel_rfl) (tabOk_none _)
theorem rbase_run : (afunR PR (envOf eqsT []) [] (fun _ => none) 10 128 []).strict = .leaf (c6.agg.enc primeW) := by kernel_rfl
theorem rbase_ok : CallOk PR 128 (fn0 c6.agg primeW) :=
  .inl ⟨enters_of (fn := Try.f128) (by kernel_rfl) (by kernel_rfl) (by kernel_rfl), pure0 rbase_ctx (leafVal (B := c6.agg) (y := primeW) rbase_run)⟩
theorem rorder_ctx : Ctx PR (envOf eqsT []) [] (fun _ => none) 10 89 :=
  ctx_of (envOf_ok eqsT_ok TabPOk.nil) mixed (fn := Try.f89) (by kernel_rfl) (by kernel_rfl) (by kernel_rfl) (tabOk_none _)
theorem rorder_run : (afunR PR (envOf eqsT []) [] (fun _ => none) 10 89 []).strict = .leaf (.agg [.u orderW.w0, .u orderW.w1, .u orderW.w2, .u orderW.w3, .bit false, .bit false]) := by kernel_rfl
theorem rorder_ok : CallOk PR 89 (fn0 c6.agg orderW) :=
  .inl ⟨enters_of (fn := Try.f89) (by kernel_rfl) (by kernel_rfl) (by kernel_rfl), pure0 rorder_ctx (givesOf rorder_run (holds_leaf (by kernel_rfl)))⟩
def rpT : PureTab := [(128, fn0 c6.agg primeW)]
theorem rp_ctx : Ctx PR (envOf eqsT rpT) [] (fun _ => none) 10 81 :=
  ctx_of (envOf_ok eqsT_ok (TabPOk.cons rbase_ok TabPOk.nil)) mixed (fn := Try.f81) (by kernel_rfl) (by kernel_rfl) (by kernel_rfl) (tabOk_none _)
theorem rp_run : (afunR PR (envOf eqsT rpT) [] (fun _ => none) 10 81 []).strict = .leaf (cFa.agg.enc fastP) := by kernel_rfl
theorem rp_ok : CallOk PR 81 (fn0 cFa.agg fastP) :=
  .inl ⟨enters_of (fn := Try.f81) (by kernel_rfl) (by kernel_rfl) (by kernel_rfl), pure0 rp_ctx (leafVal (B := cFa.agg) (y := fastP) rp_run)⟩

/-! Product, sum, negated one, difference. -/
def rmG (M : Fa → W6 → W6 → W6) (f : Fa) (a b : W6) : W6 := M f (M f a b) f.2.2
def rmT (M : Fa → W6 → W6 → W6) : PureTab := [(129, fn3 cFa.agg c6.agg c6.agg c6.agg M)]
theorem rmul_run (M : Fa → W6 → W6 → W6) (f : Fa) (a b : W6) : (afunR PR (envOf eqsT (rmT M)) [] (fun _ => none) 10 82 [cFa.agg.enc f, c6.agg.enc a, c6.agg.enc b]).strict = .leaf (c6.agg.enc (rmG M f a b)) := by kernel_rfl
theorem rmul_ctx : Ctx PR (envOf eqsT (rmT montW)) [] (fun _ => none) 10 82 :=
  ctx_of (envOf_ok eqsT_ok (TabPOk.cons mont_ok TabPOk.nil)) mixed (fn := Try.f82) (by kernel_rfl) (by kernel_rfl) (by kernel_rfl) (tabOk_none _)
def rmulW : Fa → W6 → W6 → W6 := rmG montW
theorem rmul_ok : CallOk PR 82 (fn3 cFa.agg c6.agg c6.agg c6.agg rmulW) :=
  .inl ⟨enters_of (fn := Try.f82) (by kernel_rfl) (by kernel_rfl) (by kernel_rfl), pure3 rmul_ctx (fun f a b => leafVal (B := c6.agg) (y := rmulW f a b) (rmul_run montW f a b))⟩

def rfT (ad : W6 → W6 → W6 × Bool) (cm : W6 → W6 → Int) (sb : W6 → W6 → W6 × Bool) : PureTab := [(142, fn2 c6.agg c6.agg kWB ad), (127, fn2 c6.agg c6.agg (kInt .i64) cm), (143, fn2 c6.agg c6.agg kWB sb)]
theorem rfT_ok : TabPOk PR (rfT raddW cmW rsubW) := TabPOk.cons radd_ok (TabPOk.cons rcmp_ok (TabPOk.cons rsub_ok TabPOk.nil))
def rfadd (f : Fa) (a b : W6) : W6 := bif decide (cmW (raddW a b).1 f.1 ≥ 0) then (rsubW (raddW a b).1 f.1).1 else (raddW a b).1
theorem rfadd_run (ad : W6 → W6 → W6 × Bool) (cm : W6 → W6 → Int) (sb : W6 → W6 → W6 × Bool) (f : Fa) (a b : W6) : (afunR PR (envOf eqsT (rfT ad cm sb)) [19] (fun _ => none) 10 93 [cFa.agg.enc f, c6.agg.enc a, c6.agg.enc b]).strict =
    .br (decide (cm (ad a b).1 f.1 ≥ 0)) (.leaf (c6.agg.enc (sb (ad a b).1 f.1).1)) (.leaf (c6.agg.enc (ad a b).1)) := by kernel_rfl
theorem rfadd_ctx : Ctx PR (envOf eqsT (rfT raddW cmW rsubW)) [19] (fun _ => none) 10 93 :=
  ctx_of (envOf_ok eqsT_ok rfT_ok) mixed (fn := Try.f93) (by kernel_rfl) (by kernel_rfl) (by kernel_rfl) (tabOk_none _)
theorem rfadd_ok : CallOk PR 93 (fn3 cFa.agg c6.agg c6.agg c6.agg rfadd) :=
  .inl ⟨enters_of (fn := Try.f93) (by kernel_rfl) (by kernel_rfl) (by kernel_rfl), pure3 rfadd_ctx (fun f a b => givesOf (rfadd_run raddW cmW rsubW f a b) (holds_br (B := c6.agg) (holds_leaf (c6.agg.h1 _)) (holds_leaf (c6.agg.h1 _))))⟩

def rfneg (f : Fa) (a : W6) : W6 := bif eqW a zeroW then a else (rsubW f.1 a).1
theorem rfneg_run (ad : W6 → W6 → W6 × Bool) (cm : W6 → W6 → Int) (sb : W6 → W6 → W6 × Bool) (f : Fa) (a : W6) : (afunR PR (envOf eqsT (rfT ad cm sb)) [9] (fun _ => none) 10 96 [cFa.agg.enc f, c6.agg.enc a]).strict =
    .br (eqW a zeroW) (.leaf (c6.agg.enc a)) (.leaf (c6.agg.enc (sb f.1 a).1)) := by kernel_rfl
theorem rfneg_ctx : Ctx PR (envOf eqsT (rfT raddW cmW rsubW)) [9] (fun _ => none) 10 96 :=
  ctx_of (envOf_ok eqsT_ok rfT_ok) mixed (fn := Try.f96) (by kernel_rfl) (by kernel_rfl) (by kernel_rfl) (tabOk_none _)
theorem rfneg_ok : CallOk PR 96 (fn2 cFa.agg c6.agg c6.agg rfneg) :=
  .inl ⟨enters_of (fn := Try.f96) (by kernel_rfl) (by kernel_rfl) (by kernel_rfl), pure2 rfneg_ctx (fun f a => givesOf (rfneg_run raddW cmW rsubW f a) (holds_br (B := c6.agg) (holds_leaf (c6.agg.h1 _)) (holds_leaf (c6.agg.h1 _))))⟩

def rfsub (f : Fa) (a b : W6) : W6 := rfadd f a (rfneg f b)
def rsT (A : Fa → W6 → W6 → W6) (N : Fa → W6 → W6) : PureTab := [(93, fn3 cFa.agg c6.agg c6.agg c6.agg A), (96, fn2 cFa.agg c6.agg c6.agg N)]
theorem rfsub_run (A : Fa → W6 → W6 → W6) (N : Fa → W6 → W6) (f : Fa) (a b : W6) : (afunR PR (envOf eqsT (rsT A N)) [] (fun _ => none) 10 95 [cFa.agg.enc f, c6.agg.enc a, c6.agg.enc b]).strict = .leaf (c6.agg.enc (A f a (N f b))) := by kernel_rfl
theorem rfsub_ctx : Ctx PR (envOf eqsT (rsT rfadd rfneg)) [] (fun _ => none) 10 95 :=
  ctx_of (envOf_ok eqsT_ok (TabPOk.cons rfadd_ok (TabPOk.cons rfneg_ok TabPOk.nil))) mixed (fn := Try.f95) (by kernel_rfl) (by kernel_rfl) (by kernel_rfl) (tabOk_none _)
theorem rfsub_ok : CallOk PR 95 (fn3 cFa.agg c6.agg c6.agg c6.agg rfsub) :=
  .inl ⟨enters_of (fn := Try.f95) (by kernel_rfl) (by kernel_rfl) (by kernel_rfl), pure3 rfsub_ctx (fun f a b => leafVal (B := c6.agg) (y := rfsub f a b) (rfsub_run rfadd rfneg f a b))⟩
end Go.Rq

/- The reference's bits and lengths: contracts. -/
namespace Go.Rq
open Go Go.Proofs

def rbitTree (a : W6) (i : Int) : Tree AV :=
  .br (decide (i < 0)) (.need true (.leaf (.v (.int .i64 0)))) (.br (decide (i > 383)) (.need true (.leaf (.v (.int .i64 0))))
    (.need (powCond i) (.leaf (.v (.int .i64 (IntKind.i64.wrap (Int.ofNat ((a.get (0 + (quo64 i).toNat * 1) >>> Nat.min (Int.tmod i 64).toNat 64) &&& bitW true).toNat)))))))
set_option maxRecDepth 100000 in
theorem rbit_run (a : W6) (i : Int) : Tree.but [2] 0 (afunR PR (envW eqsT []) [7, 10] (fun _ => none) 40 179 [c6.agg.enc a, (kInt .i64).enc i]) = rbitTree a i := by kernel_rfl

theorem rbit_gives (a : W6) (i : Int) : Gives (afunR PR (envW eqsT []) [7, 10] (fun _ => none) 40 179 [c6.agg.enc a, (kInt .i64).enc i]) ((kInt .i64).val (bitI a i)) := by
  refine ⟨Tree.holds_but (l := [2]) (i := 0) ?_⟩
  rw [rbit_run]
  unfold rbitTree bitI
  refine ⟨fun h1 => by rw [h1]; exact ⟨rfl, rfl⟩, fun h1 => ⟨fun h2 => ?_, fun h2 => ?_⟩⟩
  · rw [h1, show decide (i ≥ 384) = true from decide_eq_true (by have := of_decide_eq_true h2; omega)]; exact ⟨rfl, rfl⟩
  have h1' : ¬ i < 0 := of_decide_eq_false h1
  have h2' : ¬ i > 383 := of_decide_eq_false h2
  rw [h1, show decide (i ≥ 384) = false from decide_eq_false (by omega)]
  have hq := quo64_eq (z := i) (by omega) (by omega)
  have hm : Int.tmod i 64 = i % 64 := Int.tmod_eq_emod_of_nonneg (by omega)
  have e1 : 0 + (quo64 i).toNat * 1 = i.toNat / 64 := by rw [hq]; omega
  have e2 : Nat.min (Int.tmod i 64).toNat 64 = i.toNat % 64 := by rw [hm]; show min _ _ = _; omega
  refine ⟨?_, ?_⟩
  · unfold powCond
    rw [hq, hm]
    simp; omega
  · rw [e1, e2]
    show some (Value.int .i64 _) = some (Value.int .i64 _)
    congr 2
    unfold W6.bit
    generalize a.get (i.toNat / 64) >>> (i.toNat % 64) = y
    have hb : (y &&& 1#64).toNat < 2 := by
      rw [BitVec.toNat_and, show (1#64).toNat = 1 from rfl, Nat.and_one_is_mod]
      omega
    rw [show bitW true = 1#64 from rfl]
    cases hc : (y &&& 1#64) == 1#64 with
    | true =>
      rw [eq_of_beq hc]
      rfl
    | false =>
      have : (y &&& 1#64).toNat = 0 := by
        have hne : (y &&& 1#64) ≠ 1#64 := by simpa using hc
        have : (y &&& 1#64).toNat ≠ 1 := fun h => hne (BitVec.eq_of_toNat_eq (by rw [h]; rfl))
        omega
      rw [this]
      rfl

theorem rbit_ctx : Ctx PR (envW eqsT []) [7, 10] (fun _ => none) 40 179 :=
  ctx_of (envW_ok eqsT_ok TabPOk.nil) mixed (fn := Try.f179) (by kernel_rfl) (by kernel_rfl) (by kernel_rfl) (tabOk_none _)
theorem rbit_ok : CallOk PR 179 (fn2 c6.agg (kInt .i64) (kInt .i64) bitI) :=
  .inl ⟨enters_of (fn := Try.f179) (by kernel_rfl) (by kernel_rfl) (by kernel_rfl), pure2 rbit_ctx rbit_gives⟩

/-- The bits from the highest on, and what is told at the first that is set. -/
def rlenL (B : W6 → Int → Int) (a : W6) : Nat → List (Bool × Int)
  | 0 => []
  | k + 1 => (B a (k : Int) == 1, (k : Int) + 1) :: rlenL B a k
def rlenT (B : W6 → Int → Int) : PureTab := [(179, fn2 c6.agg (kInt .i64) (kInt .i64) B)]
set_option maxRecDepth 1000000 in
theorem rlen_run (B : W6 → Int → Int) (a : W6) : (afunR PR (envOf eqsT (rlenT B)) [11] (fun _ => none) 400 147 [c6.agg.enc a]).strict = chain (kInt .i64) (rlenL B a 384) 0 := by kernel_rfl
def rlenI (a : W6) : Int := chainV (rlenL bitI a 384) 0
theorem rlen_ctx : Ctx PR (envOf eqsT (rlenT bitI)) [11] (fun _ => none) 400 147 :=
  ctx_of (envOf_ok eqsT_ok (TabPOk.cons rbit_ok TabPOk.nil)) mixed (fn := Try.f147) (by kernel_rfl) (by kernel_rfl) (by kernel_rfl) (tabOk_none _)
theorem rlen_ok : CallOk PR 147 (fn1 c6.agg (kInt .i64) rlenI) :=
  .inl ⟨enters_of (fn := Try.f147) (by kernel_rfl) (by kernel_rfl) (by kernel_rfl), pure1 rlen_ctx (fun a => chainVal (rlen_run bitI a))⟩
end Go.Rq

/- The reference's powers: contract. -/
namespace Go.Rq
open Go Go.Proofs

/-- What a power calls, left open. -/
structure PO where
  mu : Fa → W6 → W6 → W6
  ln : W6 → Int
  bt : W6 → Int → Int

def numOne : W6 := ⟨bitW true, 0#64, 0#64, 0#64, 0#64, 0#64⟩
/-- The outcome so far: at first the one as it is laid. -/
def ovP : Option W6 → W6
  | none => numOne
  | some w => w
def ocP : Option W6 → List AV
  | none => [.bit true, .u 0#64, .u 0#64, .u 0#64, .u 0#64, .u 0#64]
  | some w => c6.enc w

def rpoT (t : PO) : PureTab := [(82, fn3 cFa.agg c6.agg c6.agg c6.agg t.mu), (147, fn1 c6.agg (kInt .i64) t.ln), (179, fn2 c6.agg (kInt .i64) (kInt .i64) t.bt)]
noncomputable def rpoE (t : PO) : Env := envOf eqsT (rpoT t)
def rpoK : Keep := ⟨[3, 4, 5, 6, 7, 8], [0, 1, 2, 3, 5], 11⟩
@[irreducible] noncomputable def rpoX (t : PO) (f : Fa) (a e : W6) : XS := entryOf PR (rpoE t) [14, 24] (fun _ => none) 10 144 [cFa.agg.enc f, c6.agg.enc a, c6.agg.enc e] [] 0 0 rpoK
@[irreducible] noncomputable def rpoI (t : PO) (f : Fa) (a e : W6) (d : Int × Option W6) : XS := ((rpoX t f a e).setT 8 (.v (.int .i64 d.1))).setB 5 (ocP d.2)
@[irreducible] noncomputable def rpoC : Code := roundOf PR 144 0

def rpoR (t : PO) (f : Fa) (a e : W6) (I : Int × Option W6 → XS) (z : Int) (o : Option W6) : Tree (AExit × XS) :=
    .br (decide (z ≥ 0))
      (.br (t.bt e z == 1)
        (.leaf (.normal, I (IntKind.i64.wrap (z - 1), some (t.mu f (t.mu f (ovP o) (ovP o)) a))))
        (.leaf (.normal, I (IntKind.i64.wrap (z - 1), some (t.mu f (ovP o) (ovP o))))))
      (.leaf (.exit 0, I (z, o)))
set_option maxRecDepth 100000 in
theorem rpo_round0 (t : PO) (f : Fa) (a e : W6) (z : Int) : (roundT PR (rpoE t) [14, 24] (fun _ => none) 10 rpoK rpoK rpoK rpoC (rpoI t f a e (z, none))).strict = rpoR t f a e (rpoI t f a e) z none := by kernel_rfl
set_option maxRecDepth 100000 in
theorem rpo_round1 (t : PO) (f : Fa) (a e : W6) (z : Int) (w : W6) : (roundT PR (rpoE t) [14, 24] (fun _ => none) 10 rpoK rpoK rpoK rpoC (rpoI t f a e (z, some w))).strict = rpoR t f a e (rpoI t f a e) z (some w) := by kernel_rfl
theorem rpo_round (t : PO) (f : Fa) (a e : W6) (z : Int) (o : Option W6) : (roundT PR (rpoE t) [14, 24] (fun _ => none) 10 rpoK rpoK rpoK rpoC (rpoI t f a e (z, o))).strict = rpoR t f a e (rpoI t f a e) z o := by
  cases o with
  | none => exact rpo_round0 t f a e z
  | some w => exact rpo_round1 t f a e z w

/-- A power, from bit k - 1 down. -/
def powR (t : PO) (f : Fa) (a e : W6) : Nat → Option W6 → Option W6
  | 0, o => o
  | k + 1, o => powR t f a e k (some (bif t.bt e (k : Int) == 1 then t.mu f (t.mu f (ovP o) (ovP o)) a else t.mu f (ovP o) (ovP o)))

theorem rpo_law (t : PO) (f : Fa) (a e : W6) (rt : XS → Tree (AExit × XS)) (I : Int × Option W6 → XS) (hr : ∀ (z : Int) (o : Option W6), (rt (I (z, o))).strict = rpoR t f a e I z o)
    {R : Option W6} {Q : AExit → XS → Prop} (hK : Q .normal (I (-1, R))) :
    ∀ d : Int × Option W6, (-1 ≤ d.1 ∧ d.1 ≤ 383 ∧ powR t f a e (d.1 + 1).toNat d.2 = R) → (rt (I d)).holds (fun r => match r.1 with
      | .normal => ∃ j : Int × Option W6, (-1 ≤ j.1 ∧ j.1 ≤ 383 ∧ powR t f a e (j.1 + 1).toNat j.2 = R) ∧ (j.1 + 1).toNat < (d.1 + 1).toNat ∧ r.2 = I j
      | .exit q => if q = 0 then Q .normal r.2 else Q (.exit q) r.2
      | .ret => Q .ret r.2) := by
  rintro ⟨z, o⟩ ⟨h0, h1, h2⟩
  apply Tree.holds_strict
  rw [hr]
  unfold rpoR
  refine ⟨fun hz => ?_, fun hz => ?_⟩
  · have hz : 0 ≤ z := by simpa using hz
    have hw : IntKind.i64.wrap (z - 1) = z - 1 := wrap_id (by omega) (by omega)
    have hk : (z + 1).toNat = z.toNat + 1 := by omega
    simp only at h2
    rw [hk] at h2
    simp only [powR] at h2
    rw [show ((z.toNat : Nat) : Int) = z by omega] at h2
    have hk' : (z - 1 + 1).toNat = z.toNat := by omega
    refine ⟨fun hb => ⟨⟨z - 1, some (t.mu f (t.mu f (ovP o) (ovP o)) a)⟩, ⟨by simp only; omega, by simp only; omega, ?_⟩, ?_, ?_⟩, fun hb => ⟨⟨z - 1, some (t.mu f (ovP o) (ovP o))⟩, ⟨by simp only; omega, by simp only; omega, ?_⟩, ?_, ?_⟩⟩
    · rw [hb] at h2
      simp only [hk']
      exact h2
    · show (z - 1 + 1).toNat < (z + 1).toNat
      omega
    · rw [hw]
    · rw [hb] at h2
      simp only [hk']
      exact h2
    · show (z - 1 + 1).toNat < (z + 1).toNat
      omega
    · rw [hw]
  · have hz : z = -1 := by
      have : ¬ 0 ≤ z := by simpa using hz
      omega
    subst hz
    have h2 : o = R := h2
    show (if (0 : Nat) = 0 then Q .normal (I (-1, o)) else Q (.exit 0) (I (-1, o)))
    rw [if_pos rfl, h2]
    exact hK

theorem rlenL_le (B : W6 → Int → Int) (a : W6) : ∀ (k : Nat), k ≤ 384 → ∀ c x, (c, x) ∈ rlenL B a k → 0 ≤ x ∧ x ≤ 384
  | 0, _, c, x, h => by simp [rlenL] at h
  | k + 1, hk, c, x, h => by
    simp only [rlenL, List.mem_cons, Prod.mk.injEq] at h
    rcases h with ⟨-, rfl⟩ | h
    · omega
    · exact rlenL_le B a k (by omega) c x h
theorem rlenI_le (a : W6) : 0 ≤ rlenI a ∧ rlenI a ≤ 384 := chainV_mem (Q := fun x => 0 ≤ x ∧ x ≤ 384) (rlenL_le bitI a 384 (Nat.le_refl _)) (by omega)

@[irreducible] noncomputable def rpoB (t : PO) (f : Fa) (a e : W6) (r : Option W6) : BEnt := ⟨rpoK.tm, rpoK.ids, rpoK.n, rpoX t f a e, .leaf (.normal, rpoI t f a e (-1, r))⟩
set_option maxRecDepth 100000 in
theorem rpo_run (t : PO) (f : Fa) (a e : W6) (r : W6) : (afunR PR (rpoE t) [14, 24] (tabOf [(0, rpoB t f a e (some r))]) 10 144 [cFa.agg.enc f, c6.agg.enc a, c6.agg.enc e]).strict =
    .same (rpoX t f a e) (rpoX t f a e) (.leaf (c6.agg.enc r)) := by kernel_rfl
set_option maxRecDepth 100000 in
theorem rpo_run0 (t : PO) (f : Fa) (a e : W6) : (afunR PR (rpoE t) [14, 24] (tabOf [(0, rpoB t f a e none)]) 10 144 [cFa.agg.enc f, c6.agg.enc a, c6.agg.enc e]).strict =
    .same (rpoX t f a e) (rpoX t f a e) (.leaf (.agg (ocP none))) := by kernel_rfl
set_option maxRecDepth 100000 in
theorem rpo_head (t : PO) (f : Fa) (a e : W6) : rpoX t f a e = rpoI t f a e (IntKind.i64.wrap (t.ln e - 1), none) := by kernel_rfl
theorem rpo_blk : blkAll 0 (bodyOf PR 144) = [.loop rpoC] := by kernel_rfl

def rpoO : PO := ⟨rmulW, rlenI, bitI⟩
theorem rpoT_eq : [(82, fn3 cFa.agg c6.agg c6.agg c6.agg rmulW), (147, fn1 c6.agg (kInt .i64) rlenI), (179, fn2 c6.agg (kInt .i64) (kInt .i64) bitI)] = rpoT rpoO := by kernel_rfl
theorem rpoT_ok : TabPOk PR (rpoT rpoO) := Eq.subst (motive := TabPOk PR) rpoT_eq (TabPOk.cons rmul_ok (TabPOk.cons rlen_ok (TabPOk.cons rbit_ok TabPOk.nil)))
theorem rpoE_ok : EnvOk PR (rpoE rpoO) := envOf_ok eqsT_ok rpoT_ok
theorem rpo_codeOk : codeOk (rpoE rpoO) rpoC = true := by kernel_rfl
def rpowO (f : Fa) (a e : W6) : Option W6 := powR rpoO f a e (rlenI e).toNat none
def rpowW (f : Fa) (a e : W6) : W6 := ovP (rpowO f a e)

theorem rpo_start (f : Fa) (a e : W6) : ∀ d : Int × Option W6, d = (IntKind.i64.wrap (rpoO.ln e - 1), none) → -1 ≤ d.1 ∧ d.1 ≤ 383 ∧ powR rpoO f a e (d.1 + 1).toNat d.2 = rpowO f a e := by
  rintro d rfl
  have hl := rlenI_le e
  have hw : IntKind.i64.wrap (rpoO.ln e - 1) = rlenI e - 1 := wrap_id (n := rlenI e - 1) (by omega) (by omega)
  rw [hw]
  refine ⟨?_, ?_, ?_⟩
  · show -1 ≤ rlenI e - 1
    omega
  · show rlenI e - 1 ≤ 383
    omega
  · show powR rpoO f a e (rlenI e - 1 + 1).toNat none = powR rpoO f a e (rlenI e).toNat none
    rw [show rlenI e - 1 + 1 = rlenI e by omega]

theorem rpo_loop (f : Fa) (a e : W6) {Fr0 : Fr} {ds : List Deferred} {Q : AExit → XS → Prop} (hK : Q .normal (rpoI rpoO f a e (-1, rpowO f a e))) :
    Tri PR Fr0 ds 0 (.block 0 (.loop rpoC)) (rpoX rpoO f a e) Q :=
  Eq.subst (motive := fun y => Tri PR Fr0 ds 0 (.block 0 (.loop rpoC)) y Q) (rpo_head rpoO f a e).symm <| blockLoop (m := 0) rpoE_ok mixed (sym := [14, 24]) (tab := fun _ => none) (lf := 10) (k := rpoK) (kx := rpoK) (kr := rpoK) (Nat.zero_le _) (Nat.zero_le _) (Nat.zero_le _) rpo_codeOk (tabOk_none _)
    (rpoI rpoO f a e) (fun d => -1 ≤ d.1 ∧ d.1 ≤ 383 ∧ powR rpoO f a e (d.1 + 1).toNat d.2 = rpowO f a e) (fun d => (d.1 + 1).toNat) _ (rpo_start f a e _ rfl)
    (rpo_law rpoO f a e _ (rpoI rpoO f a e) (rpo_round rpoO f a e) hK)

theorem rpoB_n (t : PO) (f : Fa) (a e : W6) (r : Option W6) : (rpoB t f a e r).n = 11 ∧ (rpoB t f a e r).pre = rpoX t f a e ∧ (rpoB t f a e r).post = .leaf (.normal, rpoI t f a e (-1, r)) := by
  unfold rpoB
  exact ⟨rfl, rfl, rfl⟩

theorem rpo_ctx (f : Fa) (a e : W6) : Ctx PR (rpoE rpoO) [14, 24] (tabOf [(0, rpoB rpoO f a e (rpowO f a e))]) 10 144 :=
  ctx_of rpoE_ok mixed (fn := Try.f144) (by kernel_rfl) (by kernel_rfl) (by kernel_rfl)
    (tabOk_one (Nat.zero_le _) rpo_blk fun Fr0 ds Q h => by
      obtain ⟨-, h2, h3⟩ := rpoB_n rpoO f a e (rpowO f a e)
      rw [h3] at h
      rw [h2]
      exact rpo_loop f a e h)

theorem sameOf {P : Program} {E : Env} {sym : List Tmp} {tab : BTab} {lf f : Nat} {ys : List AV} {x : XS} {a : AV} {v : Value} (h : (afunR P E sym tab lf f ys).strict = .same x x (.leaf a)) (hv : flat a = some v) : Gives (afunR P E sym tab lf f ys) v :=
  ⟨Tree.holds_strict (by rw [h]; exact ⟨rfl, hv⟩)⟩
theorem rpow_gives (f : Fa) (a e : W6) (o : Option W6) : Gives (afunR PR (rpoE rpoO) [14, 24] (tabOf [(0, rpoB rpoO f a e o)]) 10 144 [cFa.agg.enc f, c6.agg.enc a, c6.agg.enc e]) (c6.agg.val (ovP o)) := by
  cases o with
  | none => exact sameOf (rpo_run0 rpoO f a e) (by kernel_rfl)
  | some w => exact sameOf (rpo_run rpoO f a e w) (c6.agg.h1 w)
theorem rpow_ok : CallOk PR 144 (fn3 cFa.agg c6.agg c6.agg c6.agg rpowW) :=
  .inl ⟨enters_of (fn := Try.f144) (by kernel_rfl) (by kernel_rfl) (by kernel_rfl),
    pure3X fun f a e => .of (rpo_ctx f a e) (rpow_gives f a e (rpowO f a e))⟩

/-! The inverse. -/
def numTwo : W6 := ⟨2#64, 0#64, 0#64, 0#64, 0#64, 0#64⟩
def rinT (p : Fa → W6 → W6 → W6) (sb : W6 → W6 → W6 × Bool) : PureTab := [(144, fn3 cFa.agg c6.agg c6.agg c6.agg p), (143, fn2 c6.agg c6.agg kWB sb)]
theorem rinv_run (p : Fa → W6 → W6 → W6) (sb : W6 → W6 → W6 × Bool) (f : Fa) (a : W6) : (afunR PR (envOf eqsT (rinT p sb)) [] (fun _ => none) 10 94 [cFa.agg.enc f, c6.agg.enc a]).strict = .leaf (c6.agg.enc (p f a (sb f.1 numTwo).1)) := by kernel_rfl
def rinvW (f : Fa) (a : W6) : W6 := rpowW f a (rsubW f.1 numTwo).1
theorem rinv_ctx : Ctx PR (envOf eqsT (rinT rpowW rsubW)) [] (fun _ => none) 10 94 :=
  ctx_of (envOf_ok eqsT_ok (TabPOk.cons rpow_ok (TabPOk.cons rsub_ok TabPOk.nil))) mixed (fn := Try.f94) (by kernel_rfl) (by kernel_rfl) (by kernel_rfl) (tabOk_none _)
theorem rfinv_ok : CallOk PR 94 (fn2 cFa.agg c6.agg c6.agg rinvW) :=
  .inl ⟨enters_of (fn := Try.f94) (by kernel_rfl) (by kernel_rfl) (by kernel_rfl), pure2 rinv_ctx (fun f a => leafVal (B := c6.agg) (y := rinvW f a) (rinv_run rpowW rsubW f a))⟩
end Go.Rq

/- The reference's points by two numbers: contracts. -/
namespace Go.Rq
open Go Go.Proofs

theorem rbelow_run (c : W6 → W6 → Int) (n a : W6) : (afunR PR (envOf eqsT [(127, fn2 c6.agg c6.agg (kInt .i64) c), (128, fn0 c6.agg n)]) [] (fun _ => none) 40 80 [c6.agg.enc a]).strict = .leaf (kBool.enc (decide (c a n < 0))) := by kernel_rfl
theorem rbelow_ctx : Ctx PR (envOf eqsT [(127, fn2 c6.agg c6.agg (kInt .i64) fun a b => chainV (cmpL a b) 0), (128, fn0 c6.agg primeW)]) [] (fun _ => none) 40 80 :=
  ctx_of (envOf_ok eqsT_ok (TabPOk.cons rcmp_ok (TabPOk.cons rbase_ok TabPOk.nil))) mixed (fn := Try.f80) (by kernel_rfl) (by kernel_rfl) (by kernel_rfl) (tabOk_none _)
theorem rbelow_ok : CallOk PR 80 (fn1 c6.agg kBool belowI) :=
  .inl ⟨enters_of (fn := Try.f80) (by kernel_rfl) (by kernel_rfl) (by kernel_rfl), pure1 rbelow_ctx (fun a => leafVal (B := kBool) (y := belowI a) (rbelow_run (fun a b => chainV (cmpL a b) 0) primeW a))⟩

/-- The reference's field, left open. -/
structure RO where
  fp : Fa
  mu : Fa → W6 → W6 → W6
  ad : Fa → W6 → W6 → W6
  sb : Fa → W6 → W6 → W6
  ne : Fa → W6 → W6
  iv : Fa → W6 → W6
def roT (t : RO) : PureTab := [(81, fn0 cFa.agg t.fp), (82, fn3 cFa.agg c6.agg c6.agg c6.agg t.mu), (93, fn3 cFa.agg c6.agg c6.agg c6.agg t.ad),
  (95, fn3 cFa.agg c6.agg c6.agg c6.agg t.sb), (96, fn2 cFa.agg c6.agg c6.agg t.ne), (94, fn2 cFa.agg c6.agg c6.agg t.iv)]
def roO : RO := ⟨fastP, rmulW, rfadd, rfsub, rfneg, rinvW⟩
theorem roT_eq : [(81, fn0 cFa.agg fastP), (82, fn3 cFa.agg c6.agg c6.agg c6.agg rmulW), (93, fn3 cFa.agg c6.agg c6.agg c6.agg rfadd),
  (95, fn3 cFa.agg c6.agg c6.agg c6.agg rfsub), (96, fn2 cFa.agg c6.agg c6.agg rfneg), (94, fn2 cFa.agg c6.agg c6.agg rinvW)] = roT roO := by kernel_rfl
theorem roT_ok : TabPOk PR (roT roO) := Eq.subst (motive := TabPOk PR) roT_eq (TabPOk.cons rp_ok (TabPOk.cons rmul_ok (TabPOk.cons rfadd_ok (TabPOk.cons rfsub_ok (TabPOk.cons rfneg_ok (TabPOk.cons rfinv_ok TabPOk.nil))))))

def rsideG (t : RO) (x : W6) : W6 := t.ad t.fp (t.mu t.fp (t.mu t.fp x x) x) (ofW 4#64)
theorem rside_run (t : RO) (x : W6) : (afunR PR (envOf eqsT (roT t)) [] (fun _ => none) 40 83 [c6.agg.enc x]).strict = .leaf (c6.agg.enc (rsideG t x)) := by kernel_rfl
theorem rside_ctx : Ctx PR (envOf eqsT (roT roO)) [] (fun _ => none) 40 83 :=
  ctx_of (envOf_ok eqsT_ok roT_ok) mixed (fn := Try.f83) (by kernel_rfl) (by kernel_rfl) (by kernel_rfl) (tabOk_none _)
theorem rside_ok : CallOk PR 83 (fn1 c6.agg c6.agg (rsideG roO)) :=
  .inl ⟨enters_of (fn := Try.f83) (by kernel_rfl) (by kernel_rfl) (by kernel_rfl), pure1 rside_ctx (fun a => leafVal (B := c6.agg) (y := rsideG roO a) (rside_run roO a))⟩

/-! Is it a point? -/
def rckT (t : RO) (bl : W6 → Bool) (sd : W6 → W6) : PureTab := (80, fn1 c6.agg kBool bl) :: (83, fn1 c6.agg c6.agg sd) :: roT t
theorem rck_run (t : RO) (bl : W6 → Bool) (sd : W6 → W6) (p : Ap W6) : (afunR PR (envOf eqsT (rckT t bl sd)) [4, 9, 18, 23] (fun _ => none) 40 29 [aW.agg.enc p]).strict =
    .br p.zero (.br (eqW p.x zeroW) (.leaf (kBool.enc (eqW p.y zeroW))) (.leaf (.lit false)))
      (.br (bl p.x) (.br (bl p.y) (.leaf (kBool.enc (eqW (t.mu t.fp p.y p.y) (sd p.x)))) (.leaf (.lit false))) (.leaf (.lit false))) := by kernel_rfl
def rcheckG (t : RO) (bl : W6 → Bool) (sd : W6 → W6) (p : Ap W6) : Bool := bif p.zero then (bif eqW p.x zeroW then eqW p.y zeroW else false) else bif bl p.x then (bif bl p.y then eqW (t.mu t.fp p.y p.y) (sd p.x) else false) else false
theorem rck_gives (t : RO) (bl : W6 → Bool) (sd : W6 → W6) (p : Ap W6) : Gives (afunR PR (envOf eqsT (rckT t bl sd)) [4, 9, 18, 23] (fun _ => none) 40 29 [aW.agg.enc p]) (kBool.val (rcheckG t bl sd p)) :=
  givesOf (rck_run t bl sd p)
    (holds_br (B := kBool) (holds_br (B := kBool) (holds_leaf (kBool.h1 _)) (holds_leaf (a := .lit false) (v := kBool.val false) rfl)) (holds_br (B := kBool) (holds_br (B := kBool) (holds_leaf (kBool.h1 _)) (holds_leaf (a := .lit false) (v := kBool.val false) rfl)) (holds_leaf (a := .lit false) (v := kBool.val false) rfl)))
def rcheck1 : Ap W6 → Bool := rcheckG roO belowI (rsideG roO)
theorem rck_ctx : Ctx PR (envOf eqsT (rckT roO belowI (rsideG roO))) [4, 9, 18, 23] (fun _ => none) 40 29 :=
  ctx_of (envOf_ok eqsT_ok (TabPOk.cons rbelow_ok (TabPOk.cons rside_ok roT_ok))) mixed (fn := Try.f29) (by kernel_rfl) (by kernel_rfl) (by kernel_rfl) (tabOk_none _)
theorem rck_ok : CallOk PR 29 (fn1 aW.agg kBool rcheck1) :=
  .inl ⟨enters_of (fn := Try.f29) (by kernel_rfl) (by kernel_rfl) (by kernel_rfl), pure1 rck_ctx (fun p => rck_gives roO belowI (rsideG roO) p)⟩

/-! The negated one. -/
def rneg1G (t : RO) (p : Ap W6) : Ap W6 := ⟨p.x, t.ne t.fp p.y, p.zero⟩
theorem rneg1_run (t : RO) (p : Ap W6) : (afunR PR (envOf eqsT (roT t)) [] (fun _ => none) 40 40 [aW.agg.enc p]).strict = .leaf (aW.agg.enc (rneg1G t p)) := by kernel_rfl
theorem rneg1_ctx : Ctx PR (envOf eqsT (roT roO)) [] (fun _ => none) 40 40 :=
  ctx_of (envOf_ok eqsT_ok roT_ok) mixed (fn := Try.f40) (by kernel_rfl) (by kernel_rfl) (by kernel_rfl) (tabOk_none _)
theorem rneg1_ok : CallOk PR 40 (fn1 aW.agg aW.agg (rneg1G roO)) :=
  .inl ⟨enters_of (fn := Try.f40) (by kernel_rfl) (by kernel_rfl) (by kernel_rfl), pure1 rneg1_ctx (fun p => leafVal (B := aW.agg) (y := rneg1G roO p) (rneg1_run roO p))⟩

/-! The sum by the slope. -/
def eqP13 (a b : Ap W6) : Bool := (a.x.w0 == b.x.w0) && ((a.x.w1 == b.x.w1) && ((a.x.w2 == b.x.w2) && ((a.x.w3 == b.x.w3) && ((a.x.w4 == b.x.w4) && ((a.x.w5 == b.x.w5) &&
  ((a.y.w0 == b.y.w0) && ((a.y.w1 == b.y.w1) && ((a.y.w2 == b.y.w2) && ((a.y.w3 == b.y.w3) && ((a.y.w4 == b.y.w4) && ((a.y.w5 == b.y.w5) && ((a.zero == b.zero) && true))))))))))))
def rslope1 (t : RO) (a : Ap W6) : W6 := t.mu t.fp (t.ad t.fp (t.ad t.fp (t.mu t.fp a.x a.x) (t.mu t.fp a.x a.x)) (t.mu t.fp a.x a.x)) (t.iv t.fp (t.ad t.fp a.y a.y))
def rslope2 (t : RO) (a b : Ap W6) : W6 := t.mu t.fp (t.sb t.fp b.y a.y) (t.iv t.fp (t.sb t.fp b.x a.x))
def rchord (t : RO) (a b : Ap W6) (m : W6) : Ap W6 :=
  let x := t.sb t.fp (t.sb t.fp (t.mu t.fp m m) a.x) b.x
  ⟨x, t.sb t.fp (t.mu t.fp m (t.sb t.fp a.x x)) a.y, false⟩
def radT (t : RO) (N : Ap W6 → Ap W6) : PureTab := (40, fn1 aW.agg aW.agg N) :: roT t
def apA (p : Ap W6) (z : Bool) : AV := .agg (c6.enc p.x ++ (c6.enc p.y ++ [.lit z]))
set_option maxRecDepth 100000 in
theorem radd1_run (t : RO) (N : Ap W6 → Ap W6) (a b : Ap W6) : (afunR PR (envOf eqsT (radT t N)) [11, 14, 19, 23] (fun _ => none) 40 39 [aW.agg.enc a, aW.agg.enc b]).strict =
    .br a.zero (.leaf (aW.agg.enc b)) (.br b.zero (.leaf (aW.agg.enc a)) (.br (eqP13 a (N b)) (.leaf (apA ⟨zeroW, zeroW, true⟩ true))
      (.br (eqP13 a b) (.leaf (apA (rchord t a b (rslope1 t a)) false)) (.leaf (apA (rchord t a b (rslope2 t a b)) false))))) := by kernel_rfl

def radd1G (t : RO) (N : Ap W6 → Ap W6) (a b : Ap W6) : Ap W6 := bif a.zero then b else bif b.zero then a else bif eqP13 a (N b) then ⟨zeroW, zeroW, true⟩ else bif eqP13 a b then rchord t a b (rslope1 t a) else rchord t a b (rslope2 t a b)
theorem apA_flat (p : Ap W6) (z : Bool) (h : p.zero = z) : flat (apA p z) = some (aW.agg.val p) := by
  obtain ⟨x, y, w⟩ := p
  simp at h; subst h
  exact apFlatW x y w
theorem radd1_gives (t : RO) (N : Ap W6 → Ap W6) (a b : Ap W6) : Gives (afunR PR (envOf eqsT (radT t N)) [11, 14, 19, 23] (fun _ => none) 40 39 [aW.agg.enc a, aW.agg.enc b]) (aW.agg.val (radd1G t N a b)) :=
  givesOf (radd1_run t N a b) (holds_br (B := aW.agg) (holds_leaf (aW.agg.h1 _)) (holds_br (B := aW.agg) (holds_leaf (aW.agg.h1 _)) (holds_br (B := aW.agg) (holds_leaf (apA_flat _ _ rfl)) (holds_br (B := aW.agg) (holds_leaf (apA_flat _ _ rfl)) (holds_leaf (apA_flat _ _ rfl))))))
def radd1 : Ap W6 → Ap W6 → Ap W6 := radd1G roO (rneg1G roO)
theorem radd1_ctx : Ctx PR (envOf eqsT (radT roO (rneg1G roO))) [11, 14, 19, 23] (fun _ => none) 40 39 :=
  ctx_of (envOf_ok eqsT_ok (TabPOk.cons rneg1_ok roT_ok)) mixed (fn := Try.f39) (by kernel_rfl) (by kernel_rfl) (by kernel_rfl) (tabOk_none _)
theorem radd1_ok : CallOk PR 39 (fn2 aW.agg aW.agg aW.agg radd1) :=
  .inl ⟨enters_of (fn := Try.f39) (by kernel_rfl) (by kernel_rfl) (by kernel_rfl), pure2 radd1_ctx (fun a b => radd1_gives roO (rneg1G roO) a b)⟩

/-! The generator. -/
theorem rgen1_ctx : Ctx PR (envOf eqsT []) [] (fun _ => none) 10 34 :=
  ctx_of (envOf_ok eqsT_ok TabPOk.nil) mixed (fn := Try.f34) (by kernel_rfl) (by kernel_rfl) (by kernel_rfl) (tabOk_none _)
def rgen1P : Ap W6 := ⟨⟨0xfb3af00adb22c6bb#64, 0x6c55e83ff97a1aef#64, 0xa14e3a3f171bac58#64, 0xc3688c4f9774b905#64, 0x2695638c4fa9ac0f#64, 0x17f1d3a73197d794#64⟩, ⟨0x0caa232946c5e7e1#64, 0xd03cc744a2888ae4#64, 0x00db18cb2c04b3ed#64, 0xfcf5e095d5d00af6#64, 0xa09e30ed741d8ae4#64, 0x08b3f481e3aaa0f1#64⟩, false⟩
theorem rgen1_run : (afunR PR (envOf eqsT []) [] (fun _ => none) 10 34 []).strict = .leaf (apA rgen1P false) := by kernel_rfl
theorem rgen1_ok : CallOk PR 34 (fn0 aW.agg rgen1P) :=
  .inl ⟨enters_of (fn := Try.f34) (by kernel_rfl) (by kernel_rfl) (by kernel_rfl), pure0 rgen1_ctx (givesOf rgen1_run (holds_leaf (apA_flat _ _ rfl)))⟩
end Go.Rq

/- The reference's tower and points of three numbers: contracts. Written by a program of ours. -/
namespace Go.Rq
open Go Go.Proofs

/-! Elements of two parts. -/
def radd2G (t : RO) (a b : D6) : D6 := ⟨t.ad t.fp a.a b.a, t.ad t.fp a.b b.b⟩
def rneg2G (t : RO) (a : D6) : D6 := ⟨t.ne t.fp a.a, t.ne t.fp a.b⟩
def rmul2G (t : RO) (a b : D6) : D6 := ⟨t.sb t.fp (t.mu t.fp a.a b.a) (t.mu t.fp a.b b.b), t.ad t.fp (t.mu t.fp a.a b.b) (t.mu t.fp a.b b.a)⟩
def rinv2G (t : RO) (a : D6) : D6 :=
  let n := t.iv t.fp (t.ad t.fp (t.mu t.fp a.a a.a) (t.mu t.fp a.b a.b))
  ⟨t.mu t.fp a.a n, t.ne t.fp (t.mu t.fp a.b n)⟩
set_option maxRecDepth 100000
theorem radd2_run (t : RO) (a b : D6) : (afunR PR (envOf eqsT (roT t)) [] (fun _ => none) 40 148 [c12.agg.enc a, c12.agg.enc b]).strict = .leaf (c12.agg.enc (radd2G t a b)) := by kernel_rfl
theorem radd2_ctx : Ctx PR (envOf eqsT (roT roO)) [] (fun _ => none) 40 148 :=
  ctx_of (envOf_ok eqsT_ok (roT_ok)) mixed (fn := Try.f148) (by kernel_rfl) (by kernel_rfl) (by kernel_rfl) (tabOk_none _)
theorem radd2_ok : CallOk PR 148 (fn2 c12.agg c12.agg c12.agg (radd2G roO)) :=
  .inl ⟨enters_of (fn := Try.f148) (by kernel_rfl) (by kernel_rfl) (by kernel_rfl), pure2 radd2_ctx (fun a b => leafVal (B := c12.agg) (y := radd2G roO a b) (radd2_run roO a b))⟩
theorem rneg2_run (t : RO) (a : D6) : (afunR PR (envOf eqsT (roT t)) [] (fun _ => none) 40 110 [c12.agg.enc a]).strict = .leaf (c12.agg.enc (rneg2G t a)) := by kernel_rfl
theorem rneg2_ctx : Ctx PR (envOf eqsT (roT roO)) [] (fun _ => none) 40 110 :=
  ctx_of (envOf_ok eqsT_ok (roT_ok)) mixed (fn := Try.f110) (by kernel_rfl) (by kernel_rfl) (by kernel_rfl) (tabOk_none _)
theorem rneg2_ok : CallOk PR 110 (fn1 c12.agg c12.agg (rneg2G roO)) :=
  .inl ⟨enters_of (fn := Try.f110) (by kernel_rfl) (by kernel_rfl) (by kernel_rfl), pure1 rneg2_ctx (fun a => leafVal (B := c12.agg) (y := rneg2G roO a) (rneg2_run roO a))⟩
theorem rmul2_run (t : RO) (a b : D6) : (afunR PR (envOf eqsT (roT t)) [] (fun _ => none) 40 99 [c12.agg.enc a, c12.agg.enc b]).strict = .leaf (c12.agg.enc (rmul2G t a b)) := by kernel_rfl
theorem rmul2_ctx : Ctx PR (envOf eqsT (roT roO)) [] (fun _ => none) 40 99 :=
  ctx_of (envOf_ok eqsT_ok (roT_ok)) mixed (fn := Try.f99) (by kernel_rfl) (by kernel_rfl) (by kernel_rfl) (tabOk_none _)
theorem rmul2_ok : CallOk PR 99 (fn2 c12.agg c12.agg c12.agg (rmul2G roO)) :=
  .inl ⟨enters_of (fn := Try.f99) (by kernel_rfl) (by kernel_rfl) (by kernel_rfl), pure2 rmul2_ctx (fun a b => leafVal (B := c12.agg) (y := rmul2G roO a b) (rmul2_run roO a b))⟩
theorem rinv2_run (t : RO) (a : D6) : (afunR PR (envOf eqsT (roT t)) [] (fun _ => none) 40 160 [c12.agg.enc a]).strict = .leaf (c12.agg.enc (rinv2G t a)) := by kernel_rfl
theorem rinv2_ctx : Ctx PR (envOf eqsT (roT roO)) [] (fun _ => none) 40 160 :=
  ctx_of (envOf_ok eqsT_ok (roT_ok)) mixed (fn := Try.f160) (by kernel_rfl) (by kernel_rfl) (by kernel_rfl) (tabOk_none _)
theorem rinv2_ok : CallOk PR 160 (fn1 c12.agg c12.agg (rinv2G roO)) :=
  .inl ⟨enters_of (fn := Try.f160) (by kernel_rfl) (by kernel_rfl) (by kernel_rfl), pure1 rinv2_ctx (fun a => leafVal (B := c12.agg) (y := rinv2G roO a) (rinv2_run roO a))⟩
def rs2T (ad : D6 → D6 → D6) (ne : D6 → D6) : PureTab := [(148, fn2 c12.agg c12.agg c12.agg ad), (110, fn1 c12.agg c12.agg ne)]
theorem rsub2_run (ad : D6 → D6 → D6) (ne : D6 → D6) (a b : D6) : (afunR PR (envOf eqsT (rs2T ad ne)) [] (fun _ => none) 40 109 [c12.agg.enc a, c12.agg.enc b]).strict = .leaf (c12.agg.enc (ad a (ne b))) := by kernel_rfl
def rsub2G (t : RO) (a b : D6) : D6 := radd2G t a (rneg2G t b)
theorem rsub2_ctx : Ctx PR (envOf eqsT (rs2T (radd2G roO) (rneg2G roO))) [] (fun _ => none) 40 109 :=
  ctx_of (envOf_ok eqsT_ok (TabPOk.cons radd2_ok (TabPOk.cons rneg2_ok TabPOk.nil))) mixed (fn := Try.f109) (by kernel_rfl) (by kernel_rfl) (by kernel_rfl) (tabOk_none _)
theorem rsub2_ok : CallOk PR 109 (fn2 c12.agg c12.agg c12.agg (rsub2G roO)) :=
  .inl ⟨enters_of (fn := Try.f109) (by kernel_rfl) (by kernel_rfl) (by kernel_rfl), pure2 rsub2_ctx (fun a b => leafVal (B := c12.agg) (y := rsub2G roO a b) (rsub2_run (radd2G roO) (rneg2G roO) a b))⟩

/-! Points of three elements. -/
structure Th where
  x : D6
  y : D6
  z : D6
  one : Bool
def cTh : CC Th := (CC.prod c12 (CC.prod c12 (CC.prod c12 cBool))).iso (fun x => ⟨x.1, x.2.1, x.2.2.1, x.2.2.2⟩) (fun y => (y.x, y.y, y.z, y.one)) (fun _ => rfl)
def kE : Cod D6 := c12.agg
def thmG (t : RO) (M2 : D6 → D6 → D6) (p : Th) (a b : D6) : D6 := bif p.one then ⟨t.mu t.fp a.a b.a, zeroW⟩ else M2 a b
def thT (t : RO) (M2 : D6 → D6 → D6) : PureTab := (99, fn2 c12.agg c12.agg c12.agg M2) :: roT t
theorem thm_run (t : RO) (M2 : D6 → D6 → D6) (p : Th) (a b : D6) : (afunR PR (envOf eqsT (thT t M2)) [8] (fun _ => none) 40 182 [cTh.agg.enc p, c12.agg.enc a, c12.agg.enc b]).strict =
    .br p.one (.leaf (c12.agg.enc ⟨t.mu t.fp a.a b.a, zeroW⟩)) (.leaf (c12.agg.enc (M2 a b))) := by kernel_rfl
theorem thm_gives (t : RO) (M2 : D6 → D6 → D6) (p : Th) (a b : D6) : Gives (afunR PR (envOf eqsT (thT t M2)) [8] (fun _ => none) 40 182 [cTh.agg.enc p, c12.agg.enc a, c12.agg.enc b]) (c12.agg.val (thmG t M2 p a b)) :=
  givesOf (thm_run t M2 p a b) (holds_br (B := c12.agg) (holds_leaf (c12.agg.h1 _)) (holds_leaf (c12.agg.h1 _)))
theorem thm_ctx : Ctx PR (envOf eqsT (thT roO (rmul2G roO))) [8] (fun _ => none) 40 182 :=
  ctx_of (envOf_ok eqsT_ok (TabPOk.cons rmul2_ok roT_ok)) mixed (fn := Try.f182) (by kernel_rfl) (by kernel_rfl) (by kernel_rfl) (tabOk_none _)
def thmW : Th → D6 → D6 → D6 := thmG roO (rmul2G roO)
theorem thm_ok : CallOk PR 182 (fn3 cTh.agg c12.agg c12.agg c12.agg thmW) :=
  .inl ⟨enters_of (fn := Try.f182) (by kernel_rfl) (by kernel_rfl) (by kernel_rfl), pure3 thm_ctx (fun p a b => thm_gives roO (rmul2G roO) p a b)⟩

/-- The small numbers that are told. -/
inductive Sm where | n2 | n3 | n4 | n8
def Sm.i : Sm → Int | .n2 => 2 | .n3 => 3 | .n4 => 4 | .n8 => 8
def Sm.n : Sm → Nat | .n2 => 2 | .n3 => 3 | .n4 => 4 | .n8 => 8
def smOf (k : IntKind) (n : Int) : Option Sm := match decide (k = .i64) with
  | false => none
  | true => match decide (n = 2) with
    | true => some .n2
    | false => match decide (n = 3) with
      | true => some .n3
      | false => match decide (n = 4) with
        | true => some .n4
        | false => match decide (n = 8) with
          | true => some .n8
          | false => none
def kSm : Cod Sm where
  enc s := .v (.int .i64 s.i)
  dec a := match a with
    | .v (.int k n) => smOf k n
    | _ => none
  val s := .int .i64 s.i
  h1 _ := rfl
  h2 ρ a v x h r := by
    split at h
    · rename_i k n
      cases r
      unfold smOf at h
      split at h
      · cases h
      · rename_i hk
        have hk := of_decide_eq_true hk
        subst hk
        split at h
        · rename_i e; simp at h; subst h; rw [of_decide_eq_true e]; rfl
        · split at h
          · rename_i e; simp at h; subst h; rw [of_decide_eq_true e]; rfl
          · split at h
            · rename_i e; simp at h; subst h; rw [of_decide_eq_true e]; rfl
            · split at h
              · rename_i e; simp at h; subst h; rw [of_decide_eq_true e]; rfl
              · cases h
    · cases h
def timesA (A : D6 → D6 → D6) (a : D6) : Nat → D6
  | 0 => ⟨zeroW, zeroW⟩
  | k + 1 => A (timesA A a k) a
theorem rtm_run (A : D6 → D6 → D6) (a : D6) (s : Sm) : (afunR PR (envOf eqsT [(148, fn2 c12.agg c12.agg c12.agg A)]) [] (fun _ => none) 40 193 [c12.agg.enc a, kSm.enc s]).strict = .leaf (c12.agg.enc (timesA A a s.n)) := by
  cases s <;> kernel_rfl
theorem rtm_ctx : Ctx PR (envOf eqsT ([(148, fn2 c12.agg c12.agg c12.agg (radd2G roO))])) [] (fun _ => none) 40 193 :=
  ctx_of (envOf_ok eqsT_ok (TabPOk.cons radd2_ok TabPOk.nil)) mixed (fn := Try.f193) (by kernel_rfl) (by kernel_rfl) (by kernel_rfl) (tabOk_none _)
def rtmW (a : D6) (s : Sm) : D6 := timesA (radd2G roO) a s.n
theorem rtm_ok : CallOk PR 193 (fn2 c12.agg kSm c12.agg rtmW) :=
  .inl ⟨enters_of (fn := Try.f193) (by kernel_rfl) (by kernel_rfl) (by kernel_rfl), pure2 rtm_ctx (fun a s => leafVal (B := c12.agg) (y := rtmW a s) (rtm_run (radd2G roO) a s))⟩

/-- What twice and sum call, left open. -/
structure TH where
  mu : Th → D6 → D6 → D6
  tm : D6 → Sm → D6
  sb : D6 → D6 → D6
def thO : TH := ⟨thmW, rtmW, rsub2G roO⟩
def tdT (t : TH) : PureTab := [(182, fn3 cTh.agg c12.agg c12.agg c12.agg t.mu), (193, fn2 c12.agg kSm c12.agg t.tm), (109, fn2 c12.agg c12.agg c12.agg t.sb)]
theorem tdT_eq : [(182, fn3 cTh.agg c12.agg c12.agg c12.agg thmW), (193, fn2 c12.agg kSm c12.agg rtmW), (109, fn2 c12.agg c12.agg c12.agg (rsub2G roO))] = tdT thO := by kernel_rfl
theorem tdT_ok : TabPOk PR (tdT thO) := Eq.subst (motive := TabPOk PR) tdT_eq (TabPOk.cons thm_ok (TabPOk.cons rtm_ok (TabPOk.cons rsub2_ok TabPOk.nil)))
def zeroD : D6 := ⟨zeroW, zeroW⟩
def dblP (t : TH) (p : Th) : Th :=
  let yy := t.mu p p.y p.y
  let s := t.tm (t.mu p p.x yy) .n4
  let m := t.tm (t.mu p p.x p.x) .n3
  let x := t.sb (t.mu p m m) (t.tm s .n2)
  ⟨x, t.sb (t.mu p m (t.sb s x)) (t.tm (t.mu p yy yy) .n8), t.tm (t.mu p p.y p.z) .n2, p.one⟩
def noneT (o : Bool) : Th := ⟨zeroD, zeroD, zeroD, o⟩
def dblG (t : TH) (p : Th) : Th := bif eqD p.z zeroD then noneT p.one else bif eqD p.y zeroD then noneT p.one else dblP t p
theorem dbl_run (t : TH) (p : Th) : (afunR PR (envOf eqsT (tdT t)) [12, 17] (fun _ => none) 40 180 [cTh.agg.enc p]).strict =
    .br (eqD p.z zeroD) (.leaf (cTh.agg.enc (noneT p.one))) (.br (eqD p.y zeroD) (.leaf (cTh.agg.enc (noneT p.one))) (.leaf (cTh.agg.enc (dblP t p)))) := by kernel_rfl
theorem dbl_gives (t : TH) (p : Th) : Gives (afunR PR (envOf eqsT (tdT t)) [12, 17] (fun _ => none) 40 180 [cTh.agg.enc p]) (cTh.agg.val (dblG t p)) :=
  givesOf (dbl_run t p) (holds_br (B := cTh.agg) (holds_leaf (cTh.agg.h1 _)) (holds_br (B := cTh.agg) (holds_leaf (cTh.agg.h1 _)) (holds_leaf (cTh.agg.h1 _))))
theorem dbl_ctx : Ctx PR (envOf eqsT (tdT thO)) [12, 17] (fun _ => none) 40 180 :=
  ctx_of (envOf_ok eqsT_ok (tdT_ok)) mixed (fn := Try.f180) (by kernel_rfl) (by kernel_rfl) (by kernel_rfl) (tabOk_none _)
def dblW : Th → Th := dblG thO
theorem dbl_ok : CallOk PR 180 (fn1 cTh.agg cTh.agg dblW) :=
  .inl ⟨enters_of (fn := Try.f180) (by kernel_rfl) (by kernel_rfl) (by kernel_rfl), pure1 dbl_ctx (fun p => dbl_gives thO p)⟩

def addP (t : TH) (_D : Th → Th) (p u : Th) : Th :=
  let zz := t.mu p p.z p.z
  let ux := t.mu p u.x zz
  let uy := t.mu p u.y (t.mu p zz p.z)
  let h := t.sb ux p.x
  let k := t.sb uy p.y
  let hh := t.mu p h h
  let hhh := t.mu p hh h
  let v := t.mu p p.x hh
  let x := t.sb (t.sb (t.mu p k k) hhh) (t.tm v .n2)
  ⟨x, t.sb (t.mu p k (t.sb v x)) (t.mu p p.y hhh), t.mu p p.z h, p.one⟩
def tAddH (t : TH) (p u : Th) : D6 := t.sb (t.mu p u.x (t.mu p p.z p.z)) p.x
def tAddK (t : TH) (p u : Th) : D6 := t.sb (t.mu p u.y (t.mu p (t.mu p p.z p.z) p.z)) p.y
def addG (t : TH) (D : Th → Th) (p u : Th) : Th := bif eqD p.z zeroD then u else bif eqD (tAddH t p u) zeroD then (bif eqD (tAddK t p u) zeroD then D p else noneT p.one) else addP t D p u
def taT (t : TH) (D : Th → Th) : PureTab := (180, fn1 cTh.agg cTh.agg D) :: tdT t
theorem tadd_run (t : TH) (D : Th → Th) (p u : Th) : (afunR PR (envOf eqsT (taT t D)) [18, 50, 53] (fun _ => none) 40 181 [cTh.agg.enc p, cTh.agg.enc u]).strict =
    .br (eqD p.z zeroD) (.leaf (cTh.agg.enc u)) (.br (eqD (tAddH t p u) zeroD) (.br (eqD (tAddK t p u) zeroD) (.leaf (cTh.agg.enc (D p))) (.leaf (cTh.agg.enc (noneT p.one)))) (.leaf (cTh.agg.enc (addP t D p u)))) := by kernel_rfl
theorem tadd_gives (t : TH) (D : Th → Th) (p u : Th) : Gives (afunR PR (envOf eqsT (taT t D)) [18, 50, 53] (fun _ => none) 40 181 [cTh.agg.enc p, cTh.agg.enc u]) (cTh.agg.val (addG t D p u)) :=
  givesOf (tadd_run t D p u) (holds_br (B := cTh.agg) (holds_leaf (cTh.agg.h1 _)) (holds_br (B := cTh.agg) (holds_br (B := cTh.agg) (holds_leaf (cTh.agg.h1 _)) (holds_leaf (cTh.agg.h1 _))) (holds_leaf (cTh.agg.h1 _))))
theorem tadd_ctx : Ctx PR (envOf eqsT (taT thO dblW)) [18, 50, 53] (fun _ => none) 40 181 :=
  ctx_of (envOf_ok eqsT_ok (TabPOk.cons dbl_ok tdT_ok)) mixed (fn := Try.f181) (by kernel_rfl) (by kernel_rfl) (by kernel_rfl) (tabOk_none _)
def taddW : Th → Th → Th := addG thO dblW
theorem tadd_ok : CallOk PR 181 (fn2 cTh.agg cTh.agg cTh.agg taddW) :=
  .inl ⟨enters_of (fn := Try.f181) (by kernel_rfl) (by kernel_rfl) (by kernel_rfl), pure2 tadd_ctx (fun p u => tadd_gives thO dblW p u)⟩
end Go.Rq

/- The reference's multiples: contracts. -/
namespace Go.Rq
open Go Go.Proofs

/-- Three outcomes. -/
def kTup3 {α β γ : Type} (A : Cod α) (B : Cod β) (C : Cod γ) (hA : ∀ x, flatA (A.enc x) = some (A.val x)) (hB : ∀ x, flatA (B.enc x) = some (B.val x)) (hC : ∀ x, flatA (C.enc x) = some (C.val x)) : Cod (α × β × γ) where
  enc x := .tup [A.enc x.1, B.enc x.2.1, C.enc x.2.2]
  dec a := match a with
    | .tup [a, b, c] => match A.dec a, B.dec b, C.dec c with
      | some x, some y, some z => some (x, y, z)
      | _, _, _ => none
    | _ => none
  val x := .tuple #[A.val x.1, B.val x.2.1, C.val x.2.2]
  h1 x := by simp [flat, flatsA, hA, hB, hC]
  h2 ρ a v x h r := by
    split at h
    · split at h
      · rename_i p q s hp hq hs
        simp at h; subst h
        obtain ⟨xs, rfl, hx⟩ := r.tup_iff
        obtain ⟨v0, y0, e0, h0, r0⟩ := hx.uncons
        obtain ⟨v1, y1, e1, h1, r1⟩ := r0.uncons
        obtain ⟨v2, y2, e2, h2, r2⟩ := r1.uncons
        have e3 := r2.unnil
        subst e3; subst e2; subst e1
        rw [A.h2 ρ _ _ _ hp h0, B.h2 ρ _ _ _ hq h1, C.h2 ρ _ _ _ hs h2] at e0
        have : xs = #[A.val p, B.val q, C.val s] := by apply Array.ext'; simpa using e0
        rw [this]
      · cases h
    · cases h

/-! The two elements. -/
def kT3 : Cod (D6 × D6 × Bool) := kTup3 c12.agg c12.agg kBool (fun _ => by kernel_rfl) (fun _ => by kernel_rfl) (fun _ => rfl)
theorem twoFlat (a b : D6) (o : Bool) : flat (.tup [c12.agg.enc a, c12.agg.enc b, .lit o]) = some (kT3.val (a, b, o)) := by kernel_rfl
def twT (t : RO) (i2 : D6 → D6) (mu : Th → D6 → D6 → D6) : PureTab := (182, fn3 cTh.agg c12.agg c12.agg c12.agg mu) :: (160, fn1 c12.agg c12.agg i2) :: roT t
def twP (mu : Th → D6 → D6 → D6) (p : Th) (z : D6) : D6 × D6 × Bool := (mu p p.x (mu p z z), mu p p.y (mu p (mu p z z) z), true)
def twA (mu : Th → D6 → D6 → D6) (p : Th) (z : D6) : AV := .tup [c12.agg.enc (twP mu p z).1, c12.agg.enc (twP mu p z).2.1, .lit true]
theorem two_run (t : RO) (i2 : D6 → D6) (mu : Th → D6 → D6 → D6) (p : Th) : (afunR PR (envOf eqsT (twT t i2 mu)) [10, 14] (fun _ => none) 40 146 [cTh.agg.enc p]).strict =
    .br (eqD p.z zeroD) (.leaf (.tup [c12.agg.enc zeroD, c12.agg.enc zeroD, .lit false])) (.br p.one (.leaf (twA mu p ⟨t.iv t.fp p.z.a, zeroW⟩)) (.leaf (twA mu p (i2 p.z)))) := by kernel_rfl
def twG (t : RO) (i2 : D6 → D6) (mu : Th → D6 → D6 → D6) (p : Th) : D6 × D6 × Bool := bif eqD p.z zeroD then (zeroD, zeroD, false) else bif p.one then twP mu p ⟨t.iv t.fp p.z.a, zeroW⟩ else twP mu p (i2 p.z)
theorem two_gives (t : RO) (i2 : D6 → D6) (mu : Th → D6 → D6 → D6) (p : Th) : Gives (afunR PR (envOf eqsT (twT t i2 mu)) [10, 14] (fun _ => none) 40 146 [cTh.agg.enc p]) (kT3.val (twG t i2 mu p)) :=
  givesOf (two_run t i2 mu p) (holds_br (B := kT3) (holds_leaf (twoFlat zeroD zeroD false)) (holds_br (B := kT3) (holds_leaf (twoFlat _ _ true)) (holds_leaf (twoFlat _ _ true))))
theorem two_ctx : Ctx PR (envOf eqsT (twT roO (rinv2G roO) thmW)) [10, 14] (fun _ => none) 40 146 :=
  ctx_of (envOf_ok eqsT_ok (TabPOk.cons thm_ok (TabPOk.cons rinv2_ok roT_ok))) mixed (fn := Try.f146) (by kernel_rfl) (by kernel_rfl) (by kernel_rfl) (tabOk_none _)
def twW : Th → D6 × D6 × Bool := twG roO (rinv2G roO) thmW
theorem two_ok : CallOk PR 146 (fn1 cTh.agg kT3 twW) :=
  .inl ⟨enters_of (fn := Try.f146) (by kernel_rfl) (by kernel_rfl) (by kernel_rfl), pure1 two_ctx (fun p => two_gives roO (rinv2G roO) thmW p)⟩

/-! By the bits of words. -/
structure MO where
  dbl : Th → Th
  ad : Th → Th → Th
def moT (t : MO) : PureTab := [(180, fn1 cTh.agg cTh.agg t.dbl), (181, fn2 cTh.agg cTh.agg cTh.agg t.ad)]
def moO : MO := ⟨dblW, taddW⟩
theorem moT_eq : [(180, fn1 cTh.agg cTh.agg dblW), (181, fn2 cTh.agg cTh.agg cTh.agg taddW)] = moT moO := by kernel_rfl
theorem moT_ok : TabPOk PR (moT moO) := Eq.subst (motive := TabPOk PR) moT_eq (TabPOk.cons dbl_ok (TabPOk.cons tadd_ok TabPOk.nil))
noncomputable def muE (t : MO) : Env := envL eqsT (moT t) [] [] true
theorem muE_ok : EnvOk PR (muE moO) := envL_ok eqsT_ok moT_ok TabHOk.nil TabLOk.nil
def muK : Keep := ⟨[1, 2, 4, 5, 6], [0, 1, 2, 6], 13⟩
@[irreducible] noncomputable def muX (t : MO) (p : Th) (w : W6) (len cap : Nat) : XS := entryOf PR (muE t) [15, 29] (fun _ => none) 10 145 [cTh.agg.enc p, .slc 0 0 len cap] (oneAH c6 47 w) 1 0 muK
@[irreducible] noncomputable def muI (t : MO) (p : Th) (w : W6) (len cap : Nat) (d : Int × Th) : XS := ((muX t p w len cap).setT 6 (.v (.int .i64 d.1))).setB 6 (cTh.enc d.2)
@[irreducible] noncomputable def muC : Code := roundOf PR 145 0

def muCond (z : Int) (len : Nat) : Bool := decide (0 ≤ Int.tmod z 64) && (decide (0 + (quo64 z).toNat * 1 < 6) && (decide (0 ≤ quo64 z ∧ quo64 z < (len : Int)) && true))
def muR (t : MO) (p : Th) (w : W6) (len : Nat) (I : Int × Th → XS) (z : Int) (o : Th) : Tree (AExit × XS) :=
    .br (decide (z ≥ 0))
      (.br (((w.get (0 + (quo64 z).toNat * 1) >>> Nat.min (Int.tmod z 64).toNat 64) &&& bitW true) == bitW true)
        (.need (muCond z len) (.leaf (.normal, I (IntKind.i64.wrap (z - 1), t.ad (t.dbl o) p))))
        (.need (muCond z len) (.leaf (.normal, I (IntKind.i64.wrap (z - 1), t.dbl o)))))
      (.leaf (.exit 0, I (z, o)))
set_option maxRecDepth 100000 in
theorem mu_round (t : MO) (p o : Th) (w : W6) (len cap : Nat) (z : Int) : Tree.but [2] 0 (roundT PR (muE t) [15, 29] (fun _ => none) 10 muK muK muK muC (muI t p w len cap (z, o))) = muR t p w len (muI t p w len cap) z o := by kernel_rfl

def multG (t : MO) (p : Th) (w : W6) : Nat → Th → Th
  | 0, o => o
  | k + 1, o => multG t p w k (bif w.bit k then t.ad (t.dbl o) p else t.dbl o)
def multW (p : Th) (w : W6) (len : Nat) : Th := multG moO p w (64 * len) (noneT p.one)

theorem mu_law (t : MO) (p : Th) (w : W6) (len : Nat) (hlen : len ≤ 6) (rt : XS → Tree (AExit × XS)) (I : Int × Th → XS) (hr : ∀ (z : Int) (o : Th), Tree.but [2] 0 (rt (I (z, o))) = muR t p w len I z o)
    {R : Th} {Q : AExit → XS → Prop} (hK : Q .normal (I (-1, R))) :
    ∀ d : Int × Th, (-1 ≤ d.1 ∧ d.1 < 64 * (len : Int) ∧ multG t p w (d.1 + 1).toNat d.2 = R) → (rt (I d)).holds (fun r => match r.1 with
      | .normal => ∃ j : Int × Th, (-1 ≤ j.1 ∧ j.1 < 64 * (len : Int) ∧ multG t p w (j.1 + 1).toNat j.2 = R) ∧ (j.1 + 1).toNat < (d.1 + 1).toNat ∧ r.2 = I j
      | .exit q => if q = 0 then Q .normal r.2 else Q (.exit q) r.2
      | .ret => Q .ret r.2) := by
  rintro ⟨z, o⟩ ⟨h0, h1, h2⟩
  simp only at h0 h1
  apply Tree.holds_but (l := [2]) (i := 0)
  rw [hr]
  unfold muR
  refine ⟨fun hz => ?_, fun hz => ?_⟩
  · have hz : 0 ≤ z := by simpa using hz
    have hq := quo64_eq (z := z) hz (by omega)
    have hm : Int.tmod z 64 = z % 64 := Int.tmod_eq_emod_of_nonneg hz
    have hw : IntKind.i64.wrap (z - 1) = z - 1 := wrap_id (by omega) (by omega)
    have hc : muCond z len = true := by
      unfold muCond
      rw [hq, hm]
      simp
      omega
    have hk : (z + 1).toNat = z.toNat + 1 := by omega
    have hg : (((w.get (0 + (quo64 z).toNat * 1) >>> Nat.min (Int.tmod z 64).toNat 64) &&& bitW true) == bitW true) = w.bit z.toNat := by
      have e1 : 0 + (quo64 z).toNat * 1 = z.toNat / 64 := by rw [hq]; omega
      have e2 : Nat.min (Int.tmod z 64).toNat 64 = z.toNat % 64 := by rw [hm]; show min _ _ = _; omega
      rw [e1, e2]
      rfl
    rw [hg]
    simp only at h2
    rw [hk] at h2
    simp only [multG] at h2
    have hk' : (z - 1 + 1).toNat = z.toNat := by omega
    refine ⟨fun hb => ⟨hc, ⟨z - 1, t.ad (t.dbl o) p⟩, ⟨by simp only; omega, by simp only; omega, ?_⟩, ?_, ?_⟩, fun hb => ⟨hc, ⟨z - 1, t.dbl o⟩, ⟨by simp only; omega, by simp only; omega, ?_⟩, ?_, ?_⟩⟩
    · rw [hb] at h2
      simp only [hk']
      exact h2
    · show (z - 1 + 1).toNat < (z + 1).toNat
      omega
    · rw [hw]
    · rw [hb] at h2
      simp only [hk']
      exact h2
    · show (z - 1 + 1).toNat < (z + 1).toNat
      omega
    · rw [hw]
  · have hz : z = -1 := by
      have : ¬ 0 ≤ z := by simpa using hz
      omega
    subst hz
    have h2 : o = R := h2
    show (if (0 : Nat) = 0 then Q .normal (I (-1, o)) else Q (.exit 0) (I (-1, o)))
    rw [if_pos rfl, h2]
    exact hK

@[irreducible] noncomputable def muB (t : MO) (p : Th) (w : W6) (len cap : Nat) (r : Th) : BEnt := ⟨muK.tm, muK.ids, muK.n, muX t p w len cap, .leaf (.normal, muI t p w len cap (-1, r))⟩
theorem muB_n (t : MO) (p : Th) (w : W6) (len cap : Nat) (r : Th) : (muB t p w len cap r).n = 13 ∧ (muB t p w len cap r).pre = muX t p w len cap ∧ (muB t p w len cap r).post = .leaf (.normal, muI t p w len cap (-1, r)) := by
  unfold muB
  exact ⟨rfl, rfl, rfl⟩
def afunT (P : Program) (E : Env) (sym : List Tmp) (tab : BTab) (lf f : Nat) (args : List AV) (h : AH) (n : Nat) : Tree AV := (afun P E sym tab lf f args h n).bind fun q => .leaf q.1
theorem givesT {P : Program} {E : Env} {sym : List Tmp} {tab : BTab} {lf f : Nat} {args : List AV} {h : AH} {n : Nat} {u : Tree AV} {v : Value} (e : (afunT P E sym tab lf f args h n).strict = u) (hu : u.holds (fun q => flat q = some v)) :
    GivesH (afun P E sym tab lf f args h n) v := ⟨Tree.holds_bind (Tree.holds_strict (by rw [show ((afun P E sym tab lf f args h n).bind fun q => Tree.leaf q.1).strict = u from e]; exact hu))⟩
set_option maxRecDepth 100000 in
theorem mu_run (t : MO) (p : Th) (w : W6) (len cap : Nat) (r : Th) : (afunT PR (muE t) [15, 29] (tabOf [(0, muB t p w len cap r)]) 10 145 [cTh.agg.enc p, .slc 0 0 len cap] (oneAH c6 47 w) 1).strict =
    .same (muX t p w len cap) (muX t p w len cap) (.leaf (cTh.agg.enc r)) := by kernel_rfl
set_option maxRecDepth 100000 in
theorem mu_head (t : MO) (p : Th) (w : W6) (len cap : Nat) : muX t p w len cap = muI t p w len cap (IntKind.i64.wrap (IntKind.i64.wrap (64 * (len : Int)) - 1), noneT p.one) := by kernel_rfl
theorem mu_blk : blkAll 0 (bodyOf PR 145) = [.loop muC] := by kernel_rfl
theorem mu_codeOk : codeOk (muE moO) muC = true := by kernel_rfl

theorem mu_start (p : Th) (w : W6) (len : Nat) (hlen : len ≤ 6) : ∀ d : Int × Th, d = (IntKind.i64.wrap (IntKind.i64.wrap (64 * (len : Int)) - 1), noneT p.one) → -1 ≤ d.1 ∧ d.1 < 64 * (len : Int) ∧ multG moO p w (d.1 + 1).toNat d.2 = multW p w len := by
  rintro d rfl
  have e1 : IntKind.i64.wrap (64 * (len : Int)) = 64 * (len : Int) := wrap_id (by omega) (by omega)
  have e2 : IntKind.i64.wrap (64 * (len : Int) - 1) = 64 * (len : Int) - 1 := wrap_id (by omega) (by omega)
  rw [e1, e2]
  refine ⟨by simp only; omega, by simp only; omega, ?_⟩
  show multG moO p w (64 * (len : Int) - 1 + 1).toNat (noneT p.one) = multG moO p w (64 * len) (noneT p.one)
  rw [show (64 * (len : Int) - 1 + 1).toNat = 64 * len by omega]

theorem mu_loop (p : Th) (w : W6) (len cap : Nat) (hlen : len ≤ 6) {Fr0 : Fr} {ds : List Deferred} {Q : AExit → XS → Prop} (hK : Q .normal (muI moO p w len cap (-1, multW p w len))) :
    Tri PR Fr0 ds 1 (.block 0 (.loop muC)) (muX moO p w len cap) Q :=
  Eq.subst (motive := fun y => Tri PR Fr0 ds 1 (.block 0 (.loop muC)) y Q) (mu_head moO p w len cap).symm <| blockLoop (m := 1) muE_ok mixed (sym := [15, 29]) (tab := fun _ => none) (lf := 10) (k := muK) (kx := muK) (kr := muK) (by decide) (by decide) (by decide) mu_codeOk (tabOk_none _)
    (muI moO p w len cap) (fun d => -1 ≤ d.1 ∧ d.1 < 64 * (len : Int) ∧ multG moO p w (d.1 + 1).toNat d.2 = multW p w len) (fun d => (d.1 + 1).toNat) _ (mu_start p w len hlen _ rfl)
    (mu_law moO p w len hlen _ (muI moO p w len cap) (fun z o => mu_round moO p o w len cap z) hK)
set_option maxRecDepth 100000
def le6 (n : Nat) : Bool := Nat.ble n 6
theorem mu_okH : HeapOk PR 145 (slv 47 cTh.agg c6 cTh.agg le6 multW) :=
  slv_ok (E := muE moO) (sym := [15, 29]) (lf := 10) (tab := fun p w len cap => tabOf [(0, muB moO p w len cap (multW p w len))]) muE_ok mixed (fn := Try.f145) (c := bodyOf PR 145) (by kernel_rfl) (by kernel_rfl) (by kernel_rfl)
    (fun p w len cap hk => tabOk_one (by rw [(muB_n moO p w len cap (multW p w len)).1]; decide) mu_blk fun Fr0 ds Q h => by
      obtain ⟨-, h2, h3⟩ := muB_n moO p w len cap (multW p w len)
      rw [h3] at h
      rw [h2]
      exact mu_loop p w len cap (Nat.le_of_ble_eq_true hk) h)
    (fun p w len cap _ => givesT (mu_run moO p w len cap (multW p w len)) ⟨rfl, cTh.agg.h1 _⟩)
theorem mu_ent : Enters PR 145 := enters_of (fn := Try.f145) (by kernel_rfl) (by kernel_rfl) (by kernel_rfl)
end Go.Rq
