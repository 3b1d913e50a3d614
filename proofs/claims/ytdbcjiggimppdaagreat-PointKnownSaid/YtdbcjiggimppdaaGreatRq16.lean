/- The reference's powers: contract. -/
import Derived.Test.YtdbcjiggimppdaaGreatRq15
import Derived.Test.YtdbcjiggimppdaaGreatRq14
import Derived.Test.YtdbcjiggimppdaaGreatRq09
namespace Go.Rq
open Go Go.Proofs

/-- What a power calls, left open. -/
structure PO where
  mu : Fa → W6 → W6 → W6
  ln : W6 → Int
  bt : W6 → Int → Int

def numOne : W6 := ⟨bitW true, 0#64, 0#64, 0#64, 0#64, 0#64⟩
/-- The outcome so far: at first the one as it is laid. -/
def ovP : Option W6 → W6
  | none => numOne
  | some w => w
def ocP : Option W6 → List AV
  | none => [.bit true, .u 0#64, .u 0#64, .u 0#64, .u 0#64, .u 0#64]
  | some w => c6.enc w

def rpoT (t : PO) : PureTab := [(67, fn3 cFa.agg c6.agg c6.agg c6.agg t.mu), (167, fn1 c6.agg (kInt .i64) t.ln), (168, fn2 c6.agg (kInt .i64) (kInt .i64) t.bt)]
noncomputable def rpoE (t : PO) : Env := envOf eqsT (rpoT t)
def rpoK : Keep := ⟨[3, 4, 5, 6, 7, 8], [0, 1, 2, 3, 5], 11⟩
@[irreducible] noncomputable def rpoX (t : PO) (f : Fa) (a e : W6) : XS := entryOf PR (rpoE t) [14, 24] (fun _ => none) 10 120 [cFa.agg.enc f, c6.agg.enc a, c6.agg.enc e] [] 0 0 rpoK
@[irreducible] noncomputable def rpoI (t : PO) (f : Fa) (a e : W6) (d : Int × Option W6) : XS := ((rpoX t f a e).setT 8 (.v (.int .i64 d.1))).setB 5 (ocP d.2)
@[irreducible] noncomputable def rpoC : Code := roundOf PR 120 0

def rpoR (t : PO) (f : Fa) (a e : W6) (I : Int × Option W6 → XS) (z : Int) (o : Option W6) : Tree (AExit × XS) :=
    .br (decide (z ≥ 0))
      (.br (t.bt e z == 1)
        (.leaf (.normal, I (IntKind.i64.wrap (z - 1), some (t.mu f (t.mu f (ovP o) (ovP o)) a))))
        (.leaf (.normal, I (IntKind.i64.wrap (z - 1), some (t.mu f (ovP o) (ovP o))))))
      (.leaf (.exit 0, I (z, o)))
set_option maxRecDepth 100000 in
theorem rpo_round0 (t : PO) (f : Fa) (a e : W6) (z : Int) : (roundT PR (rpoE t) [14, 24] (fun _ => none) 10 rpoK rpoK rpoK rpoC (rpoI t f a e (z, none))).strict = rpoR t f a e (rpoI t f a e) z none := by kernel_rfl
set_option maxRecDepth 100000 in
theorem rpo_round1 (t : PO) (f : Fa) (a e : W6) (z : Int) (w : W6) : (roundT PR (rpoE t) [14, 24] (fun _ => none) 10 rpoK rpoK rpoK rpoC (rpoI t f a e (z, some w))).strict = rpoR t f a e (rpoI t f a e) z (some w) := by kernel_rfl
theorem rpo_round (t : PO) (f : Fa) (a e : W6) (z : Int) (o : Option W6) : (roundT PR (rpoE t) [14, 24] (fun _ => none) 10 rpoK rpoK rpoK rpoC (rpoI t f a e (z, o))).strict = rpoR t f a e (rpoI t f a e) z o := by
  cases o with
  | none => exact rpo_round0 t f a e z
  | some w => exact rpo_round1 t f a e z w

/-- A power, from bit k - 1 down. -/
def powR (t : PO) (f : Fa) (a e : W6) : Nat → Option W6 → Option W6
  | 0, o => o
  | k + 1, o => powR t f a e k (some (bif t.bt e (k : Int) == 1 then t.mu f (t.mu f (ovP o) (ovP o)) a else t.mu f (ovP o) (ovP o)))

theorem rpo_law (t : PO) (f : Fa) (a e : W6) (rt : XS → Tree (AExit × XS)) (I : Int × Option W6 → XS) (hr : ∀ (z : Int) (o : Option W6), (rt (I (z, o))).strict = rpoR t f a e I z o)
    {R : Option W6} {Q : AExit → XS → Prop} (hK : Q .normal (I (-1, R))) :
    ∀ d : Int × Option W6, (-1 ≤ d.1 ∧ d.1 ≤ 383 ∧ powR t f a e (d.1 + 1).toNat d.2 = R) → (rt (I d)).holds (fun r => match r.1 with
      | .normal => ∃ j : Int × Option W6, (-1 ≤ j.1 ∧ j.1 ≤ 383 ∧ powR t f a e (j.1 + 1).toNat j.2 = R) ∧ (j.1 + 1).toNat < (d.1 + 1).toNat ∧ r.2 = I j
      | .exit q => if q = 0 then Q .normal r.2 else Q (.exit q) r.2
      | .ret => Q .ret r.2) := by
  rintro ⟨z, o⟩ ⟨h0, h1, h2⟩
  apply Tree.holds_strict
  rw [hr]
  unfold rpoR
  refine ⟨fun hz => ?_, fun hz => ?_⟩
  · have hz : 0 ≤ z := by simpa using hz
    have hw : IntKind.i64.wrap (z - 1) = z - 1 := wrap_id (by omega) (by omega)
    have hk : (z + 1).toNat = z.toNat + 1 := by omega
    simp only at h2
    rw [hk] at h2
    simp only [powR] at h2
    rw [show ((z.toNat : Nat) : Int) = z by omega] at h2
    have hk' : (z - 1 + 1).toNat = z.toNat := by omega
    refine ⟨fun hb => ⟨⟨z - 1, some (t.mu f (t.mu f (ovP o) (ovP o)) a)⟩, ⟨by simp only; omega, by simp only; omega, ?_⟩, ?_, ?_⟩, fun hb => ⟨⟨z - 1, some (t.mu f (ovP o) (ovP o))⟩, ⟨by simp only; omega, by simp only; omega, ?_⟩, ?_, ?_⟩⟩
    · rw [hb] at h2
      simp only [hk']
      exact h2
    · show (z - 1 + 1).toNat < (z + 1).toNat
      omega
    · rw [hw]
    · rw [hb] at h2
      simp only [hk']
      exact h2
    · show (z - 1 + 1).toNat < (z + 1).toNat
      omega
    · rw [hw]
  · have hz : z = -1 := by
      have : ¬ 0 ≤ z := by simpa using hz
      omega
    subst hz
    have h2 : o = R := h2
    show (if (0 : Nat) = 0 then Q .normal (I (-1, o)) else Q (.exit 0) (I (-1, o)))
    rw [if_pos rfl, h2]
    exact hK

theorem rlenL_le (B : W6 → Int → Int) (a : W6) : ∀ (k : Nat), k ≤ 384 → ∀ c x, (c, x) ∈ rlenL B a k → 0 ≤ x ∧ x ≤ 384
  | 0, _, c, x, h => by simp [rlenL] at h
  | k + 1, hk, c, x, h => by
    simp only [rlenL, List.mem_cons, Prod.mk.injEq] at h
    rcases h with ⟨-, rfl⟩ | h
    · omega
    · exact rlenL_le B a k (by omega) c x h
theorem rlenI_le (a : W6) : 0 ≤ rlenI a ∧ rlenI a ≤ 384 := chainV_mem (Q := fun x => 0 ≤ x ∧ x ≤ 384) (rlenL_le bitI a 384 (Nat.le_refl _)) (by omega)

@[irreducible] noncomputable def rpoB (t : PO) (f : Fa) (a e : W6) (r : Option W6) : BEnt := ⟨rpoK.tm, rpoK.ids, rpoK.n, rpoX t f a e, .leaf (.normal, rpoI t f a e (-1, r))⟩
set_option maxRecDepth 100000 in
theorem rpo_run (t : PO) (f : Fa) (a e : W6) (r : W6) : (afunR PR (rpoE t) [14, 24] (tabOf [(0, rpoB t f a e (some r))]) 10 120 [cFa.agg.enc f, c6.agg.enc a, c6.agg.enc e]).strict =
    .same (rpoX t f a e) (rpoX t f a e) (.leaf (c6.agg.enc r)) := by kernel_rfl
set_option maxRecDepth 100000 in
theorem rpo_run0 (t : PO) (f : Fa) (a e : W6) : (afunR PR (rpoE t) [14, 24] (tabOf [(0, rpoB t f a e none)]) 10 120 [cFa.agg.enc f, c6.agg.enc a, c6.agg.enc e]).strict =
    .same (rpoX t f a e) (rpoX t f a e) (.leaf (.agg (ocP none))) := by kernel_rfl
set_option maxRecDepth 100000 in
theorem rpo_head (t : PO) (f : Fa) (a e : W6) : rpoX t f a e = rpoI t f a e (IntKind.i64.wrap (t.ln e - 1), none) := by kernel_rfl
theorem rpo_blk : blkAll 0 (bodyOf PR 120) = [.loop rpoC] := by kernel_rfl

def rpoO : PO := ⟨rmulW, rlenI, bitI⟩
theorem rpoT_eq : [(67, fn3 cFa.agg c6.agg c6.agg c6.agg rmulW), (167, fn1 c6.agg (kInt .i64) rlenI), (168, fn2 c6.agg (kInt .i64) (kInt .i64) bitI)] = rpoT rpoO := by kernel_rfl
theorem rpoT_ok : TabPOk PR (rpoT rpoO) := Eq.subst (motive := TabPOk PR) rpoT_eq (TabPOk.cons rmul_ok (TabPOk.cons rlen_ok (TabPOk.cons rbit_ok TabPOk.nil)))
theorem rpoE_ok : EnvOk PR (rpoE rpoO) := envOf_ok eqsT_ok rpoT_ok
theorem rpo_codeOk : codeOk (rpoE rpoO) rpoC = true := by kernel_rfl
def rpowO (f : Fa) (a e : W6) : Option W6 := powR rpoO f a e (rlenI e).toNat none
def rpowW (f : Fa) (a e : W6) : W6 := ovP (rpowO f a e)

theorem rpo_start (f : Fa) (a e : W6) : ∀ d : Int × Option W6, d = (IntKind.i64.wrap (rpoO.ln e - 1), none) → -1 ≤ d.1 ∧ d.1 ≤ 383 ∧ powR rpoO f a e (d.1 + 1).toNat d.2 = rpowO f a e := by
  rintro d rfl
  have hl := rlenI_le e
  have hw : IntKind.i64.wrap (rpoO.ln e - 1) = rlenI e - 1 := wrap_id (n := rlenI e - 1) (by omega) (by omega)
  rw [hw]
  refine ⟨?_, ?_, ?_⟩
  · show -1 ≤ rlenI e - 1
    omega
  · show rlenI e - 1 ≤ 383
    omega
  · show powR rpoO f a e (rlenI e - 1 + 1).toNat none = powR rpoO f a e (rlenI e).toNat none
    rw [show rlenI e - 1 + 1 = rlenI e by omega]

theorem rpo_loop (f : Fa) (a e : W6) {Fr0 : Fr} {ds : List Deferred} {Q : AExit → XS → Prop} (hK : Q .normal (rpoI rpoO f a e (-1, rpowO f a e))) :
    Tri PR Fr0 ds 0 (.block 0 (.loop rpoC)) (rpoX rpoO f a e) Q :=
  Eq.subst (motive := fun y => Tri PR Fr0 ds 0 (.block 0 (.loop rpoC)) y Q) (rpo_head rpoO f a e).symm <| blockLoop (m := 0) rpoE_ok mixed (sym := [14, 24]) (tab := fun _ => none) (lf := 10) (k := rpoK) (kx := rpoK) (kr := rpoK) (Nat.zero_le _) (Nat.zero_le _) (Nat.zero_le _) rpo_codeOk (tabOk_none _)
    (rpoI rpoO f a e) (fun d => -1 ≤ d.1 ∧ d.1 ≤ 383 ∧ powR rpoO f a e (d.1 + 1).toNat d.2 = rpowO f a e) (fun d => (d.1 + 1).toNat) _ (rpo_start f a e _ rfl)
    (rpo_law rpoO f a e _ (rpoI rpoO f a e) (rpo_round rpoO f a e) hK)

theorem rpoB_n (t : PO) (f : Fa) (a e : W6) (r : Option W6) : (rpoB t f a e r).n = 11 ∧ (rpoB t f a e r).pre = rpoX t f a e ∧ (rpoB t f a e r).post = .leaf (.normal, rpoI t f a e (-1, r)) := by
  unfold rpoB
  exact ⟨rfl, rfl, rfl⟩

theorem rpo_ctx (f : Fa) (a e : W6) : Ctx PR (rpoE rpoO) [14, 24] (tabOf [(0, rpoB rpoO f a e (rpowO f a e))]) 10 120 :=
  ctx_of rpoE_ok mixed (fn := Tryz.f120) (by kernel_rfl) (by kernel_rfl) (by kernel_rfl)
    (tabOk_one (Nat.zero_le _) rpo_blk fun Fr0 ds Q h => by
      obtain ⟨-, h2, h3⟩ := rpoB_n rpoO f a e (rpowO f a e)
      rw [h3] at h
      rw [h2]
      exact rpo_loop f a e h)

theorem sameOf {P : Program} {E : Env} {sym : List Tmp} {tab : BTab} {lf f : Nat} {ys : List AV} {x : XS} {a : AV} {v : Value} (h : (afunR P E sym tab lf f ys).strict = .same x x (.leaf a)) (hv : flat a = some v) : Gives (afunR P E sym tab lf f ys) v :=
  ⟨Tree.holds_strict (by rw [h]; exact ⟨rfl, hv⟩)⟩
theorem rpow_gives (f : Fa) (a e : W6) (o : Option W6) : Gives (afunR PR (rpoE rpoO) [14, 24] (tabOf [(0, rpoB rpoO f a e o)]) 10 120 [cFa.agg.enc f, c6.agg.enc a, c6.agg.enc e]) (c6.agg.val (ovP o)) := by
  cases o with
  | none => exact sameOf (rpo_run0 rpoO f a e) (by kernel_rfl)
  | some w => exact sameOf (rpo_run rpoO f a e w) (c6.agg.h1 w)
theorem rpow_ok : CallOk PR 120 (fn3 cFa.agg c6.agg c6.agg c6.agg rpowW) :=
  .inl ⟨enters_of (fn := Tryz.f120) (by kernel_rfl) (by kernel_rfl) (by kernel_rfl),
    pure3X fun f a e => .of (rpo_ctx f a e) (rpow_gives f a e (rpowO f a e))⟩

/-! The inverse. -/
def numTwo : W6 := ⟨2#64, 0#64, 0#64, 0#64, 0#64, 0#64⟩
def rinT (p : Fa → W6 → W6 → W6) (sb : W6 → W6 → W6 × Bool) : PureTab := [(120, fn3 cFa.agg c6.agg c6.agg c6.agg p), (111, fn2 c6.agg c6.agg kWB sb)]
theorem rinv_run (p : Fa → W6 → W6 → W6) (sb : W6 → W6 → W6 × Bool) (f : Fa) (a : W6) : (afunR PR (envOf eqsT (rinT p sb)) [] (fun _ => none) 10 160 [cFa.agg.enc f, c6.agg.enc a]).strict = .leaf (c6.agg.enc (p f a (sb f.1 numTwo).1)) := by kernel_rfl
def rinvW (f : Fa) (a : W6) : W6 := rpowW f a (rsubW f.1 numTwo).1
theorem rinv_ctx : Ctx PR (envOf eqsT (rinT rpowW rsubW)) [] (fun _ => none) 10 160 :=
  ctx_of (envOf_ok eqsT_ok (TabPOk.cons rpow_ok (TabPOk.cons rsub_ok TabPOk.nil))) mixed (fn := Tryz.f160) (by kernel_rfl) (by kernel_rfl) (by kernel_rfl) (tabOk_none _)
theorem rfinv_ok : CallOk PR 160 (fn2 cFa.agg c6.agg c6.agg rinvW) :=
  .inl ⟨enters_of (fn := Tryz.f160) (by kernel_rfl) (by kernel_rfl) (by kernel_rfl), pure2 rinv_ctx (fun f a => leafVal (B := c6.agg) (y := rinvW f a) (rinv_run rpowW rsubW f a))⟩
end Go.Rq

/- The reference's points by two numbers: contracts. -/
namespace Go.Rq
open Go Go.Proofs

theorem rbelow_run (c : W6 → W6 → Int) (n a : W6) : (afunR PR (envOf eqsT [(54, fn2 c6.agg c6.agg (kInt .i64) c), (55, fn0 c6.agg n)]) [] (fun _ => none) 40 36 [c6.agg.enc a]).strict = .leaf (kBool.enc (decide (c a n < 0))) := by kernel_rfl
theorem rbelow_ctx : Ctx PR (envOf eqsT [(54, fn2 c6.agg c6.agg (kInt .i64) fun a b => chainV (cmpL a b) 0), (55, fn0 c6.agg primeW)]) [] (fun _ => none) 40 36 :=
  ctx_of (envOf_ok eqsT_ok (TabPOk.cons rcmp_ok (TabPOk.cons rbase_ok TabPOk.nil))) mixed (fn := Tryz.f36) (by kernel_rfl) (by kernel_rfl) (by kernel_rfl) (tabOk_none _)
theorem rbelow_ok : CallOk PR 36 (fn1 c6.agg kBool belowI) :=
  .inl ⟨enters_of (fn := Tryz.f36) (by kernel_rfl) (by kernel_rfl) (by kernel_rfl), pure1 rbelow_ctx (fun a => leafVal (B := kBool) (y := belowI a) (rbelow_run (fun a b => chainV (cmpL a b) 0) primeW a))⟩

/-- The reference's field, left open. -/
structure RO where
  fp : Fa
  mu : Fa → W6 → W6 → W6
  ad : Fa → W6 → W6 → W6
  sb : Fa → W6 → W6 → W6
  ne : Fa → W6 → W6
  iv : Fa → W6 → W6
def roT (t : RO) : PureTab := [(60, fn0 cFa.agg t.fp), (67, fn3 cFa.agg c6.agg c6.agg c6.agg t.mu), (62, fn3 cFa.agg c6.agg c6.agg c6.agg t.ad),
  (94, fn3 cFa.agg c6.agg c6.agg c6.agg t.sb), (74, fn2 cFa.agg c6.agg c6.agg t.ne), (160, fn2 cFa.agg c6.agg c6.agg t.iv)]
def roO : RO := ⟨fastP, rmulW, rfadd, rfsub, rfneg, rinvW⟩
theorem roT_eq : [(60, fn0 cFa.agg fastP), (67, fn3 cFa.agg c6.agg c6.agg c6.agg rmulW), (62, fn3 cFa.agg c6.agg c6.agg c6.agg rfadd),
  (94, fn3 cFa.agg c6.agg c6.agg c6.agg rfsub), (74, fn2 cFa.agg c6.agg c6.agg rfneg), (160, fn2 cFa.agg c6.agg c6.agg rinvW)] = roT roO := by kernel_rfl
theorem roT_ok : TabPOk PR (roT roO) := Eq.subst (motive := TabPOk PR) roT_eq (TabPOk.cons rp_ok (TabPOk.cons rmul_ok (TabPOk.cons rfadd_ok (TabPOk.cons rfsub_ok (TabPOk.cons rfneg_ok (TabPOk.cons rfinv_ok TabPOk.nil))))))

def rsideG (t : RO) (x : W6) : W6 := t.ad t.fp (t.mu t.fp (t.mu t.fp x x) x) (ofW 4#64)
theorem rside_run (t : RO) (x : W6) : (afunR PR (envOf eqsT (roT t)) [] (fun _ => none) 40 68 [c6.agg.enc x]).strict = .leaf (c6.agg.enc (rsideG t x)) := by kernel_rfl
theorem rside_ctx : Ctx PR (envOf eqsT (roT roO)) [] (fun _ => none) 40 68 :=
  ctx_of (envOf_ok eqsT_ok roT_ok) mixed (fn := Tryz.f68) (by kernel_rfl) (by kernel_rfl) (by kernel_rfl) (tabOk_none _)
theorem rside_ok : CallOk PR 68 (fn1 c6.agg c6.agg (rsideG roO)) :=
  .inl ⟨enters_of (fn := Tryz.f68) (by kernel_rfl) (by kernel_rfl) (by kernel_rfl), pure1 rside_ctx (fun a => leafVal (B := c6.agg) (y := rsideG roO a) (rside_run roO a))⟩

/-! Is it a point? -/
def rckT (t : RO) (bl : W6 → Bool) (sd : W6 → W6) : PureTab := (36, fn1 c6.agg kBool bl) :: (68, fn1 c6.agg c6.agg sd) :: roT t
theorem rck_run (t : RO) (bl : W6 → Bool) (sd : W6 → W6) (p : Ap W6) : (afunR PR (envOf eqsT (rckT t bl sd)) [4, 9, 18, 23] (fun _ => none) 40 20 [aW.agg.enc p]).strict =
    .br p.zero (.br (eqW p.x zeroW) (.leaf (kBool.enc (eqW p.y zeroW))) (.leaf (.lit false)))
      (.br (bl p.x) (.br (bl p.y) (.leaf (kBool.enc (eqW (t.mu t.fp p.y p.y) (sd p.x)))) (.leaf (.lit false))) (.leaf (.lit false))) := by kernel_rfl
def rcheckG (t : RO) (bl : W6 → Bool) (sd : W6 → W6) (p : Ap W6) : Bool := bif p.zero then (bif eqW p.x zeroW then eqW p.y zeroW else false) else bif bl p.x then (bif bl p.y then eqW (t.mu t.fp p.y p.y) (sd p.x) else false) else false
theorem rck_gives (t : RO) (bl : W6 → Bool) (sd : W6 → W6) (p : Ap W6) : Gives (afunR PR (envOf eqsT (rckT t bl sd)) [4, 9, 18, 23] (fun _ => none) 40 20 [aW.agg.enc p]) (kBool.val (rcheckG t bl sd p)) :=
  givesOf (rck_run t bl sd p)
    (holds_br (B := kBool) (holds_br (B := kBool) (holds_leaf (kBool.h1 _)) (holds_leaf (a := .lit false) (v := kBool.val false) rfl)) (holds_br (B := kBool) (holds_br (B := kBool) (holds_leaf (kBool.h1 _)) (holds_leaf (a := .lit false) (v := kBool.val false) rfl)) (holds_leaf (a := .lit false) (v := kBool.val false) rfl)))
def rcheck1 : Ap W6 → Bool := rcheckG roO belowI (rsideG roO)
theorem rck_ctx : Ctx PR (envOf eqsT (rckT roO belowI (rsideG roO))) [4, 9, 18, 23] (fun _ => none) 40 20 :=
  ctx_of (envOf_ok eqsT_ok (TabPOk.cons rbelow_ok (TabPOk.cons rside_ok roT_ok))) mixed (fn := Tryz.f20) (by kernel_rfl) (by kernel_rfl) (by kernel_rfl) (tabOk_none _)
theorem rck_ok : CallOk PR 20 (fn1 aW.agg kBool rcheck1) :=
  .inl ⟨enters_of (fn := Tryz.f20) (by kernel_rfl) (by kernel_rfl) (by kernel_rfl), pure1 rck_ctx (fun p => rck_gives roO belowI (rsideG roO) p)⟩

/-! The negated one. -/
def rneg1G (t : RO) (p : Ap W6) : Ap W6 := ⟨p.x, t.ne t.fp p.y, p.zero⟩
/-! The sum by the slope. -/
def eqP13 (a b : Ap W6) : Bool := (a.x.w0 == b.x.w0) && ((a.x.w1 == b.x.w1) && ((a.x.w2 == b.x.w2) && ((a.x.w3 == b.x.w3) && ((a.x.w4 == b.x.w4) && ((a.x.w5 == b.x.w5) &&
  ((a.y.w0 == b.y.w0) && ((a.y.w1 == b.y.w1) && ((a.y.w2 == b.y.w2) && ((a.y.w3 == b.y.w3) && ((a.y.w4 == b.y.w4) && ((a.y.w5 == b.y.w5) && ((a.zero == b.zero) && true))))))))))))
def rslope1 (t : RO) (a : Ap W6) : W6 := t.mu t.fp (t.ad t.fp (t.ad t.fp (t.mu t.fp a.x a.x) (t.mu t.fp a.x a.x)) (t.mu t.fp a.x a.x)) (t.iv t.fp (t.ad t.fp a.y a.y))
def rslope2 (t : RO) (a b : Ap W6) : W6 := t.mu t.fp (t.sb t.fp b.y a.y) (t.iv t.fp (t.sb t.fp b.x a.x))
def rchord (t : RO) (a b : Ap W6) (m : W6) : Ap W6 :=
  let x := t.sb t.fp (t.sb t.fp (t.mu t.fp m m) a.x) b.x
  ⟨x, t.sb t.fp (t.mu t.fp m (t.sb t.fp a.x x)) a.y, false⟩
def apA (p : Ap W6) (z : Bool) : AV := .agg (c6.enc p.x ++ (c6.enc p.y ++ [.lit z]))
def radd1G (t : RO) (N : Ap W6 → Ap W6) (a b : Ap W6) : Ap W6 := bif a.zero then b else bif b.zero then a else bif eqP13 a (N b) then ⟨zeroW, zeroW, true⟩ else bif eqP13 a b then rchord t a b (rslope1 t a) else rchord t a b (rslope2 t a b)
theorem apA_flat (p : Ap W6) (z : Bool) (h : p.zero = z) : flat (apA p z) = some (aW.agg.val p) := by
  obtain ⟨x, y, w⟩ := p
  simp at h; subst h
  exact apFlatW x y w
def radd1 : Ap W6 → Ap W6 → Ap W6 := radd1G roO (rneg1G roO)
/-! The generator. -/
def rgen1P : Ap W6 := ⟨⟨0xfb3af00adb22c6bb#64, 0x6c55e83ff97a1aef#64, 0xa14e3a3f171bac58#64, 0xc3688c4f9774b905#64, 0x2695638c4fa9ac0f#64, 0x17f1d3a73197d794#64⟩, ⟨0x0caa232946c5e7e1#64, 0xd03cc744a2888ae4#64, 0x00db18cb2c04b3ed#64, 0xfcf5e095d5d00af6#64, 0xa09e30ed741d8ae4#64, 0x08b3f481e3aaa0f1#64⟩, false⟩
end Go.Rq

/- The reference's sum and difference are the program's. -/
namespace Go.Rq
open Go Go.Proofs

theorem raC_eq (x y : BitVec 64) (c : Bool) : raC x y (bitW c) = bitW (add64 x y c).2 := by
  have hx := x.isLt
  have hy := y.isLt
  have hc := b2n_le c
  have e : (bif BitVec.ult (x + y + bitW c) (x + y) then true else BitVec.ult (x + y) x) = (add64 x y c).2 := by
    have e2 : (add64 x y c).2 = decide (18446744073709551616 ≤ x.toNat + y.toNat + b2n c) := rfl
    have e3 : (x + y + bitW c).toNat = ((x.toNat + y.toNat) % 18446744073709551616 + b2n c) % 18446744073709551616 := by rw [BitVec.toNat_add, BitVec.toNat_add, bitW_nat]
    have e4 : (x + y).toNat = (x.toNat + y.toNat) % 18446744073709551616 := BitVec.toNat_add x y
    rw [e2]
    unfold BitVec.ult
    rw [e3, e4]
    rw [Bool.eq_iff_iff, decide_eq_true_eq]
    by_cases h : ((x.toNat + y.toNat) % 18446744073709551616 + b2n c) % 18446744073709551616 < (x.toNat + y.toNat) % 18446744073709551616
    · rw [decide_eq_true h, cond_true]
      constructor
      · intro _; omega
      · intro _; rfl
    · rw [decide_eq_false h, cond_false, decide_eq_true_eq]
      omega
  unfold raC
  rw [e]
  cases (add64 x y c).2 <;> rfl

theorem rsC_eq (x y : BitVec 64) (c : Bool) : rsC x y (bitW c) = bitW (sub64 x y c).2 := by
  have hx := x.isLt
  have hy := y.isLt
  have hc := b2n_le c
  have e : (bif BitVec.ult (x - y) (bitW c) then true else BitVec.ult x y) = (sub64 x y c).2 := by
    have e2 : (sub64 x y c).2 = decide (x.toNat < y.toNat + b2n c) := rfl
    have e4 : (x - y).toNat = (18446744073709551616 - y.toNat + x.toNat) % 18446744073709551616 := BitVec.toNat_sub x y
    rw [e2]
    unfold BitVec.ult
    rw [e4, bitW_nat]
    rw [Bool.eq_iff_iff, decide_eq_true_eq]
    by_cases h : (18446744073709551616 - y.toNat + x.toNat) % 18446744073709551616 < b2n c
    · rw [decide_eq_true h, cond_true]
      constructor
      · intro _; omega
      · intro _; rfl
    · rw [decide_eq_false h, cond_false, decide_eq_true_eq]
      omega
  unfold rsC
  rw [e]
  cases (sub64 x y c).2 <;> rfl

theorem bitW_beq (c : Bool) : (bitW c == bitW true) = c := by cases c <;> rfl

theorem raddW_eq (a b : W6) : raddW a b = adds a b := by
  simp only [raddW, raC_eq, bitW_beq, adds]
  rfl

theorem rsubW_eq (a b : W6) : rsubW a b = subs a b := by
  simp only [rsubW, rsC_eq, bitW_beq, subs]
  rfl
end Go.Rq

/- The reference's arithmetic of the great prime, as numbers. -/
namespace Go.Rq
open Go Go.Proofs

/-! A row of a product. -/
theorem rowW_eq {t : W8} {a : BitVec 64} {b : W6} {r0 r1 r2 r3 r4 r5 : BitVec 64 × BitVec 64} {s : BitVec 64 × Bool}
    (h0 : mac a b.w0 t.1.w0 (bitW false) = r0) (h1 : mac a b.w1 t.1.w1 r0.2 = r1) (h2 : mac a b.w2 t.1.w2 r1.2 = r2) (h3 : mac a b.w3 t.1.w3 r2.2 = r3) (h4 : mac a b.w4 t.1.w4 r3.2 = r4) (h5 : mac a b.w5 t.1.w5 r4.2 = r5)
    (hs : add64 t.2.1 r5.2 false = s) : rowW t a b = (⟨r0.1, r1.1, r2.1, r3.1, r4.1, r5.1⟩, s.1, t.2.2 + bitW s.2) := by
  subst h0 h1 h2 h3 h4 h5 hs
  rfl

theorem row_sum {p0 t0 r0 c0 p1 t1 r1 c1 p2 t2 r2 c2 p3 t3 r3 c3 p4 t4 r4 c4 p5 t5 r5 c5 w s k : Nat} (e0 : r0 + 18446744073709551616 * c0 = p0 + t0) (e1 : r1 + 18446744073709551616 * c1 = p1 + t1 + c0) (e2 : r2 + 18446744073709551616 * c2 = p2 + t2 + c1) (e3 : r3 + 18446744073709551616 * c3 = p3 + t3 + c2) (e4 : r4 + 18446744073709551616 * c4 = p4 + t4 + c3) (e5 : r5 + 18446744073709551616 * c5 = p5 + t5 + c4) (e6 : s + 18446744073709551616 * k = w + c5) :
    (r0 + 18446744073709551616 * r1 + 340282366920938463463374607431768211456 * r2 + 6277101735386680763835789423207666416102355444464034512896 * r3 + 115792089237316195423570985008687907853269984665640564039457584007913129639936 * r4 + 2135987035920910082395021706169552114602704522356652769947041607822219725780640550022962086936576 * r5) + 39402006196394479212279040100143613805079739270465446667948293404245721771497210611414266254884915640806627990306816 * s + 726838724295606890549323807888004534353641360687318060281490199180639288113397923326191050713763565560762521606266177933534601628614656 * k =
    (t0 + 18446744073709551616 * t1 + 340282366920938463463374607431768211456 * t2 + 6277101735386680763835789423207666416102355444464034512896 * t3 + 115792089237316195423570985008687907853269984665640564039457584007913129639936 * t4 + 2135987035920910082395021706169552114602704522356652769947041607822219725780640550022962086936576 * t5) + 39402006196394479212279040100143613805079739270465446667948293404245721771497210611414266254884915640806627990306816 * w +
    (p0 + 18446744073709551616 * p1 + 340282366920938463463374607431768211456 * p2 + 6277101735386680763835789423207666416102355444464034512896 * p3 + 115792089237316195423570985008687907853269984665640564039457584007913129639936 * p4 + 2135987035920910082395021706169552114602704522356652769947041607822219725780640550022962086936576 * p5) := by
  omega

theorem row_nat (t : W8) (a : BitVec 64) (b : W6) : ∃ c : Bool,
    (rowW t a b).1.val + 39402006196394479212279040100143613805079739270465446667948293404245721771497210611414266254884915640806627990306816 * (rowW t a b).2.1.toNat + 726838724295606890549323807888004534353641360687318060281490199180639288113397923326191050713763565560762521606266177933534601628614656 * b2n c =
      t.1.val + 39402006196394479212279040100143613805079739270465446667948293404245721771497210611414266254884915640806627990306816 * t.2.1.toNat + a.toNat * b.val ∧
    (rowW t a b).2.2 = t.2.2 + bitW c ∧ ∃ k, (rowW t a b).1.w0.toNat + 18446744073709551616 * k = a.toNat * b.w0.toNat + t.1.w0.toNat := by
  obtain ⟨r0, hr0⟩ : ∃ r, mac a b.w0 t.1.w0 (bitW false) = r := ⟨_, rfl⟩
  obtain ⟨r1, hr1⟩ : ∃ r, mac a b.w1 t.1.w1 r0.2 = r := ⟨_, rfl⟩
  obtain ⟨r2, hr2⟩ : ∃ r, mac a b.w2 t.1.w2 r1.2 = r := ⟨_, rfl⟩
  obtain ⟨r3, hr3⟩ : ∃ r, mac a b.w3 t.1.w3 r2.2 = r := ⟨_, rfl⟩
  obtain ⟨r4, hr4⟩ : ∃ r, mac a b.w4 t.1.w4 r3.2 = r := ⟨_, rfl⟩
  obtain ⟨r5, hr5⟩ : ∃ r, mac a b.w5 t.1.w5 r4.2 = r := ⟨_, rfl⟩
  obtain ⟨s, hs⟩ : ∃ s, add64 t.2.1 r5.2 false = s := ⟨_, rfl⟩
  have hres := rowW_eq hr0 hr1 hr2 hr3 hr4 hr5 hs
  have e0 := mac_nat a b.w0 t.1.w0 (bitW false)
  rw [hr0, show (bitW false).toNat = 0 from rfl, Nat.add_zero] at e0
  have e1 := mac_nat a b.w1 t.1.w1 r0.2
  rw [hr1] at e1
  have e2 := mac_nat a b.w2 t.1.w2 r1.2
  rw [hr2] at e2
  have e3 := mac_nat a b.w3 t.1.w3 r2.2
  rw [hr3] at e3
  have e4 := mac_nat a b.w4 t.1.w4 r3.2
  rw [hr4] at e4
  have e5 := mac_nat a b.w5 t.1.w5 r4.2
  rw [hr5] at e5
  have e6 := add64_nat t.2.1 r5.2 false
  rw [hs, show b2n false = 0 from rfl, Nat.add_zero] at e6
  have sum := row_sum e0 e1 e2 e3 e4 e5 e6
  rw [← val_mul a.toNat b] at sum
  refine ⟨s.2, ?_, ?_, r0.2.toNat, ?_⟩
  · rw [hres]; exact sum
  · rw [hres]
  · rw [hres]; exact e0

/-! A round. -/
theorem mt_low {u q p k v0 : Nat} (hq : q * p % 18446744073709551616 = u * 18446744073709551615 % 18446744073709551616) (hv : v0 < 18446744073709551616) (h : v0 + 18446744073709551616 * k = q * p + u) : v0 = 0 := by
  generalize q * p = x at hq h
  omega

theorem mt_end {B T xB U u6 c Q V v6 d : Nat} (hb : B < 4002409555221667393417789825735904156556882819939007885332058136124031650490837864442687629129015664037894272559787) (ht : T < B + 4002409555221667393417789825735904156556882819939007885332058136124031650490837864442687629129015664037894272559787)
    (hx : xB ≤ 18446744073709551615 * B) (hq : Q < 18446744073709551616)
    (hu : U + 39402006196394479212279040100143613805079739270465446667948293404245721771497210611414266254884915640806627990306816 * u6 + 726838724295606890549323807888004534353641360687318060281490199180639288113397923326191050713763565560762521606266177933534601628614656 * c = T + xB)
    (hv : V + 39402006196394479212279040100143613805079739270465446667948293404245721771497210611414266254884915640806627990306816 * v6 + 726838724295606890549323807888004534353641360687318060281490199180639288113397923326191050713763565560762521606266177933534601628614656 * d = U + 39402006196394479212279040100143613805079739270465446667948293404245721771497210611414266254884915640806627990306816 * u6 + Q * 4002409555221667393417789825735904156556882819939007885332058136124031650490837864442687629129015664037894272559787) :
    c = 0 ∧ d = 0 ∧ V + 39402006196394479212279040100143613805079739270465446667948293404245721771497210611414266254884915640806627990306816 * v6 = xB + T + Q * 4002409555221667393417789825735904156556882819939007885332058136124031650490837864442687629129015664037894272559787 ∧
      V + 39402006196394479212279040100143613805079739270465446667948293404245721771497210611414266254884915640806627990306816 * v6 < 18446744073709551616 * (B + 4002409555221667393417789825735904156556882819939007885332058136124031650490837864442687629129015664037894272559787) := by
  have hc : c = 0 := by omega
  subst hc
  have hd : d = 0 := by omega
  subst hd
  refine ⟨rfl, rfl, ?_, ?_⟩ <;> omega

theorem b2n_zero {c : Bool} (h : b2n c = 0) : c = false := by cases c with
  | false => rfl
  | true => cases h

theorem mt_round (b : W6) (x : BitVec 64) (t : W8) (h1 : t.2.1 = 0#64) (h2 : t.2.2 = 0#64) (hb : b.val < pN) (ht : t.1.val < b.val + pN) :
    ∃ q : Nat, (mtRound rowW fastP b x t).2.1 = 0#64 ∧ (mtRound rowW fastP b x t).2.2 = 0#64 ∧ (mtRound rowW fastP b x t).1.val < b.val + pN ∧ 18446744073709551616 * (mtRound rowW fastP b x t).1.val = x.toNat * b.val + t.1.val + q * pN := by
  obtain ⟨u, hue⟩ : ∃ u, rowW t x b = u := ⟨_, rfl⟩
  obtain ⟨v, hve⟩ : ∃ v, rowW u (u.1.w0 * 9940570264628428797#64) primeW = v := ⟨_, rfl⟩
  have hres : mtRound rowW fastP b x t = (⟨v.1.w1, v.1.w2, v.1.w3, v.1.w4, v.1.w5, v.2.1⟩, v.2.2, bitW false) := by
    subst hve hue
    rfl
  obtain ⟨c, hu, hc, -⟩ := row_nat t x b
  obtain ⟨d, hv, hd, k, hl⟩ := row_nat u (u.1.w0 * 9940570264628428797#64) primeW
  rw [hue] at hu hc
  rw [hve] at hv hd hl
  have hq := neg_inv u.1.w0
  rw [BitVec.toNat_mul] at hq
  have z := mt_low hq v.1.w0.isLt hl
  rw [prime_val] at hv
  rw [h1, show (0#64).toNat = 0 from rfl, Nat.mul_zero, Nat.add_zero] at hu
  have xB : x.toNat * b.val ≤ 18446744073709551615 * b.val := Nat.mul_le_mul_right _ (Nat.le_of_lt_succ x.isLt)
  obtain ⟨c0, d0, e1, e2⟩ := mt_end (c := b2n c) (d := b2n d) hb ht xB (u.1.w0 * 9940570264628428797#64).isLt hu hv
  have c0 := b2n_zero c0
  have d0 := b2n_zero d0
  subst c0 d0
  rw [h2] at hc
  rw [hc] at hd
  refine ⟨(u.1.w0 * 9940570264628428797#64).toNat, ?_, ?_, ?_⟩
  · rw [hres]
    show v.2.2 = 0#64
    rw [hd]; rfl
  · rw [hres]; rfl
  · rw [hres]
    have hp : pN = 4002409555221667393417789825735904156556882819939007885332058136124031650490837864442687629129015664037894272559787 := rfl
    rw [hp]
    show (W6.mk v.1.w1 v.1.w2 v.1.w3 v.1.w4 v.1.w5 v.2.1).val < _ ∧ 18446744073709551616 * (W6.mk v.1.w1 v.1.w2 v.1.w3 v.1.w4 v.1.w5 v.2.1).val = _
    have hval : 18446744073709551616 * (W6.mk v.1.w1 v.1.w2 v.1.w3 v.1.w4 v.1.w5 v.2.1).val = v.1.val + 39402006196394479212279040100143613805079739270465446667948293404245721771497210611414266254884915640806627990306816 * v.2.1.toNat := by
      simp only [W6.val]
      omega
    rw [hval]
    refine ⟨?_, e1⟩
    rw [← hval] at e2
    exact Nat.lt_of_mul_lt_mul_left e2

theorem mtRaw_nat (a b : W6) (hb : b.val < pN) : (mtRaw rowW fastP a b).2.1 = 0#64 ∧ (mtRaw rowW fastP a b).1.val < b.val + pN ∧ ∃ Q, 39402006196394479212279040100143613805079739270465446667948293404245721771497210611414266254884915640806627990306816 * (mtRaw rowW fastP a b).1.val = a.val * b.val + Q * pN := by
  have zv : zero8.1.val = 0 := rfl
  have hp : pN = 4002409555221667393417789825735904156556882819939007885332058136124031650490837864442687629129015664037894272559787 := rfl
  unfold mtRaw
  obtain ⟨q1, y1, w1, l1, h1⟩ := mt_round b a.w0 zero8 rfl rfl hb (by rw [zv]; exact Nat.lt_of_lt_of_le (by decide +kernel : 0 < pN) (Nat.le_add_left _ _))
  generalize mtRound rowW fastP b a.w0 zero8 = t1 at y1 w1 l1 h1 ⊢
  obtain ⟨q2, y2, w2, l2, h2⟩ := mt_round b a.w1 t1 y1 w1 hb l1
  generalize mtRound rowW fastP b a.w1 t1 = t2 at y2 w2 l2 h2 ⊢
  obtain ⟨q3, y3, w3, l3, h3⟩ := mt_round b a.w2 t2 y2 w2 hb l2
  generalize mtRound rowW fastP b a.w2 t2 = t3 at y3 w3 l3 h3 ⊢
  obtain ⟨q4, y4, w4, l4, h4⟩ := mt_round b a.w3 t3 y3 w3 hb l3
  generalize mtRound rowW fastP b a.w3 t3 = t4 at y4 w4 l4 h4 ⊢
  obtain ⟨q5, y5, w5, l5, h5⟩ := mt_round b a.w4 t4 y4 w4 hb l4
  generalize mtRound rowW fastP b a.w4 t4 = t5 at y5 w5 l5 h5 ⊢
  obtain ⟨q6, y6, w6, l6, h6⟩ := mt_round b a.w5 t5 y5 w5 hb l5
  generalize mtRound rowW fastP b a.w5 t5 = t6 at y6 w6 l6 h6 ⊢
  refine ⟨y6, l6, q1 + 18446744073709551616 * q2 + 340282366920938463463374607431768211456 * q3 + 6277101735386680763835789423207666416102355444464034512896 * q4 + 115792089237316195423570985008687907853269984665640564039457584007913129639936 * q5 + 2135987035920910082395021706169552114602704522356652769947041607822219725780640550022962086936576 * q6, ?_⟩
  rw [zv, Nat.add_zero] at h1
  rw [hp] at h1 h2 h3 h4 h5 h6 ⊢
  have hb : a.val * b.val = (a.w0.toNat * b.val) + 18446744073709551616 * (a.w1.toNat * b.val) + 340282366920938463463374607431768211456 * (a.w2.toNat * b.val) + 6277101735386680763835789423207666416102355444464034512896 * (a.w3.toNat * b.val) + 115792089237316195423570985008687907853269984665640564039457584007913129639936 * (a.w4.toNat * b.val) + 2135987035920910082395021706169552114602704522356652769947041607822219725780640550022962086936576 * (a.w5.toNat * b.val) := by
    rw [Nat.mul_comm, val_mul]
    simp only [Nat.mul_comm b.val]
  rw [hb]
  exact raw_sum h1 h2 h3 h4 h5 h6

/-! Which is the less. -/
theorem lex_step {M a b x y : Nat} {c : Int} (hx : x < M) (hy : y < M) (h : c < 0 ↔ x < y) : (if a < b then -1 else if b < a then 1 else c) < 0 ↔ x + M * a < y + M * b := by
  rcases Nat.lt_trichotomy a b with h1 | h1 | h1
  · have h2 : M * (a + 1) ≤ M * b := Nat.mul_le_mul_left M h1
    rw [Nat.mul_add, Nat.mul_one] at h2
    rw [if_pos h1]
    generalize M * a = u at *
    generalize M * b = v at *
    omega
  · subst h1
    rw [if_neg (Nat.lt_irrefl _), if_neg (Nat.lt_irrefl _), h]
    generalize M * a = u at *
    omega
  · have h2 : M * (b + 1) ≤ M * a := Nat.mul_le_mul_left M h1
    rw [Nat.mul_add, Nat.mul_one] at h2
    rw [if_neg (Nat.lt_asymm h1), if_pos h1]
    generalize M * a = u at *
    generalize M * b = v at *
    omega

theorem lex_first {a b : Nat} : (if a < b then (-1 : Int) else if b < a then 1 else 0) < 0 ↔ a < b := by
  split
  · omega
  · split <;> omega

theorem cmW_ite (a b : W6) : cmW a b = if a.w5.toNat < b.w5.toNat then -1 else if b.w5.toNat < a.w5.toNat then 1 else if a.w4.toNat < b.w4.toNat then -1 else if b.w4.toNat < a.w4.toNat then 1 else
    if a.w3.toNat < b.w3.toNat then -1 else if b.w3.toNat < a.w3.toNat then 1 else if a.w2.toNat < b.w2.toNat then -1 else if b.w2.toNat < a.w2.toNat then 1 else
    if a.w1.toNat < b.w1.toNat then -1 else if b.w1.toNat < a.w1.toNat then 1 else if a.w0.toNat < b.w0.toNat then -1 else if b.w0.toNat < a.w0.toNat then 1 else 0 := by
  simp only [cmW, cmpL, chainV, BitVec.ult, Bool.cond_decide]

theorem low_words (a0 a1 a2 a3 a4 : BitVec 64) : a0.toNat < 18446744073709551616 ∧ a0.toNat + 18446744073709551616 * a1.toNat < 340282366920938463463374607431768211456 ∧
    a0.toNat + 18446744073709551616 * a1.toNat + 340282366920938463463374607431768211456 * a2.toNat < 6277101735386680763835789423207666416102355444464034512896 ∧
    a0.toNat + 18446744073709551616 * a1.toNat + 340282366920938463463374607431768211456 * a2.toNat + 6277101735386680763835789423207666416102355444464034512896 * a3.toNat < 115792089237316195423570985008687907853269984665640564039457584007913129639936 ∧
    a0.toNat + 18446744073709551616 * a1.toNat + 340282366920938463463374607431768211456 * a2.toNat + 6277101735386680763835789423207666416102355444464034512896 * a3.toNat + 115792089237316195423570985008687907853269984665640564039457584007913129639936 * a4.toNat < 2135987035920910082395021706169552114602704522356652769947041607822219725780640550022962086936576 := by
  have g0 := a0.isLt; have g1 := a1.isLt; have g2 := a2.isLt; have g3 := a3.isLt; have g4 := a4.isLt
  refine ⟨?_, ?_, ?_, ?_, ?_⟩ <;> omega

theorem cmW_nat (a b : W6) : cmW a b < 0 ↔ a.val < b.val := by
  obtain ⟨f0, f1, f2, f3, f4⟩ := low_words a.w0 a.w1 a.w2 a.w3 a.w4
  obtain ⟨g0, g1, g2, g3, g4⟩ := low_words b.w0 b.w1 b.w2 b.w3 b.w4
  rw [cmW_ite]
  exact lex_step f4 g4 (lex_step f3 g3 (lex_step f2 g2 (lex_step f1 g1 (lex_step f0 g0 lex_first))))

theorem subs_lt (m : W6) : (subs m primeW).2 = decide (m.val < pN) := by
  have h1 := subs_nat m primeW
  rw [prime_val] at h1
  have hl := (subs m primeW).1.val_lt
  have hm := m.val_lt
  have hp : pN = 4002409555221667393417789825735904156556882819939007885332058136124031650490837864442687629129015664037894272559787 := rfl
  rw [hp] at h1 ⊢
  cases hb : (subs m primeW).2 with
  | true =>
    rw [hb, show b2n true = 1 from rfl] at h1
    exact (decide_eq_true (by omega)).symm
  | false =>
    rw [hb, show b2n false = 0 from rfl] at h1
    exact (decide_eq_false (by omega)).symm

theorem less_cm (m : W6) : (bif decide (cmW m primeW ≥ 0) then (rsubW m primeW).1 else m) = lessW m := by
  unfold lessW
  rw [subs_lt, rsubW_eq]
  have h := cmW_nat m primeW
  rw [prime_val] at h
  by_cases hm : m.val < pN
  · rw [decide_eq_true hm, decide_eq_false (by have := h.2 hm; omega)]; rfl
  · rw [decide_eq_false hm, decide_eq_true (by have := mt h.1 hm; omega)]; rfl

theorem belowI_nat (a : W6) : belowI a = decide (a.val < pN) := by
  have h := cmW_nat a primeW
  rw [prime_val] at h
  unfold belowI
  rw [show chainV (cmpL a primeW) 0 = cmW a primeW from rfl]
  exact decide_eq_decide.2 h

/-- What is congruent and taken off once. -/
theorem less_mod (m : W6) (h : m.val < 2 * pN) : (lessW m).val = m.val % pN := by
  rw [lessW_nat m h]
  split
  · rename_i hl; exact (Nat.mod_eq_of_lt hl).symm
  · rename_i hn
    generalize pN = p at h hn ⊢
    rw [Nat.mod_eq_sub_mod (by omega), Nat.mod_eq_of_lt (by omega)]

theorem wide_mul {m x Q p R r : Nat} (hr : R * r % p = 1) (h : R * m = x + Q * p) : m % p = x * r % p := by
  have h4 : R * m % p = x % p := by rw [h, Nat.add_mul_mod_self_right]
  have : m * (R * r) % p = m % p := by rw [Nat.mul_mod, hr, Nat.mul_one, Nat.mod_mod]
  rw [← this, show m * (R * r) = R * m * r by rw [← Nat.mul_assoc, Nat.mul_comm m], Nat.mul_mod, h4, ← Nat.mul_mod]

theorem mont_less {R : W8} {f : W6} (h : R.2.1 = 0#64) : (bif R.2.1 != bitW false then (rsubW R.1 f).1 else bif decide (cmW R.1 f ≥ 0) then (rsubW R.1 f).1 else R.1) = (bif decide (cmW R.1 f ≥ 0) then (rsubW R.1 f).1 else R.1) := by
  rw [h]; rfl

theorem montW_nat (a b : W6) (hb : b.val < pN) : (montW fastP a b).val = mulN a.val b.val := by
  obtain ⟨h0, h1, Q, h2⟩ := mtRaw_nat a b hb
  have hm : montW fastP a b = lessW (mtRaw rowW fastP a b).1 := by
    unfold montW
    rw [show fastP.1 = primeW from rfl, mont_less h0, less_cm]
  rw [hm, less_mod _ (Nat.lt_of_lt_of_le h1 (by rw [Nat.two_mul]; exact Nat.add_le_add_right (Nat.le_of_lt hb) _))]
  unfold mulN
  exact wide_mul rinv_ok h2

theorem wide_twice : wideN * rinvN * rinvN % pN = 1 := by decide +kernel
theorem mul_twice {a b r w p : Nat} (h : w * r * r % p = 1) : (a * b * r % p) * w * r % p = a * b % p := by
  rw [Nat.mul_assoc, Nat.mul_mod, Nat.mod_mod, ← Nat.mul_mod, show a * b * r * (w * r) = a * b * (w * r * r) by simp only [Nat.mul_comm, Nat.mul_left_comm], Nat.mul_mod, h, Nat.mul_one, Nat.mod_mod]

/-- The reference's product. -/
theorem rmG_eq (M : Fa → W6 → W6 → W6) (f : Fa) (a b w : W6) (h : f.2.2 = w) : rmG M f a b = M f (M f a b) w := by rw [← h]; rfl
theorem rmulW_two (a b : W6) : rmulW fastP a b = montW fastP (montW fastP a b) wideW := rmG_eq montW fastP a b wideW rfl
theorem rmulW_nat (a b : W6) (hb : b.val < pN) : (rmulW fastP a b).val = a.val * b.val % pN := by
  have h1 := montW_nat a b hb
  have h2 : wideW.val < pN := Nat.lt_of_le_of_lt (Nat.le_of_eq wide_val) wideN_lt
  have h3 := montW_nat (montW fastP a b) wideW h2
  rw [rmulW_two, h3, h1, wide_val]
  unfold mulN
  exact mul_twice wide_twice

theorem rfadd_eq (a b : W6) : rfadd fastP a b = addW a b := by
  unfold rfadd addW
  rw [show fastP.1 = primeW from rfl, less_cm, raddW_eq]

theorem rfadd_nat {a b : W6} (ha : a.val < pN) (hb : b.val < pN) : (rfadd fastP a b).val = (a.val + b.val) % pN := by
  rw [rfadd_eq]
  exact (rep_add ⟨rfl, ha⟩ ⟨rfl, hb⟩).val

theorem rfneg_nat {a : W6} (ha : a.val < pN) : (rfneg fastP a).val = (pN - a.val) % pN := by
  have e : rfneg fastP a = bif eqW a zeroW then a else (rsubW primeW a).1 := rfl
  rw [e]
  cases hz : eqW a zeroW with
  | true =>
    have hz := (eqW_iff a zeroW).1 hz
    subst hz
    rw [cond_true, zero_val, Nat.sub_zero, Nat.mod_self]
  | false =>
    rw [cond_false, rsubW_eq]
    have h1 := subs_nat primeW a
    rw [prime_val] at h1
    have hl := (subs primeW a).1.val_lt
    have hb := b2n_le (subs primeW a).2
    have h0 : a.val ≠ 0 := by
      intro h
      have : a = zeroW := W6.val_inj (by rw [h, zero_val])
      rw [(eqW_iff a zeroW).2 this] at hz
      cases hz
    have hp : pN = 4002409555221667393417789825735904156556882819939007885332058136124031650490837864442687629129015664037894272559787 := rfl
    rw [hp] at h1 ha ⊢
    rw [Nat.mod_eq_of_lt (by omega)]
    generalize b2n (subs primeW a).2 = c at *
    omega

theorem rfsub_nat {a b : W6} (ha : a.val < pN) (hb : b.val < pN) : (rfsub fastP a b).val = (a.val + (pN - b.val) % pN) % pN := by
  unfold rfsub
  have h := rfneg_nat hb
  rw [rfadd_nat ha (by rw [h]; exact Nat.mod_lt _ pN_pos), h]
end Go.Rq

/- The reference's tower and points of three numbers: contracts. Written by a program of ours. -/
namespace Go.Rq
open Go Go.Proofs

/-! Elements of two parts. -/
def radd2G (t : RO) (a b : D6) : D6 := ⟨t.ad t.fp a.a b.a, t.ad t.fp a.b b.b⟩
def rneg2G (t : RO) (a : D6) : D6 := ⟨t.ne t.fp a.a, t.ne t.fp a.b⟩
def rmul2G (t : RO) (a b : D6) : D6 := ⟨t.sb t.fp (t.mu t.fp a.a b.a) (t.mu t.fp a.b b.b), t.ad t.fp (t.mu t.fp a.a b.b) (t.mu t.fp a.b b.a)⟩
def rinv2G (t : RO) (a : D6) : D6 :=
  let n := t.iv t.fp (t.ad t.fp (t.mu t.fp a.a a.a) (t.mu t.fp a.b a.b))
  ⟨t.mu t.fp a.a n, t.ne t.fp (t.mu t.fp a.b n)⟩
set_option maxRecDepth 100000
theorem radd2_run (t : RO) (a b : D6) : (afunR PR (envOf eqsT (roT t)) [] (fun _ => none) 40 95 [c12.agg.enc a, c12.agg.enc b]).strict = .leaf (c12.agg.enc (radd2G t a b)) := by kernel_rfl
theorem radd2_ctx : Ctx PR (envOf eqsT (roT roO)) [] (fun _ => none) 40 95 :=
  ctx_of (envOf_ok eqsT_ok (roT_ok)) mixed (fn := Tryz.f95) (by kernel_rfl) (by kernel_rfl) (by kernel_rfl) (tabOk_none _)
theorem radd2_ok : CallOk PR 95 (fn2 c12.agg c12.agg c12.agg (radd2G roO)) :=
  .inl ⟨enters_of (fn := Tryz.f95) (by kernel_rfl) (by kernel_rfl) (by kernel_rfl), pure2 radd2_ctx (fun a b => leafVal (B := c12.agg) (y := radd2G roO a b) (radd2_run roO a b))⟩
theorem rneg2_run (t : RO) (a : D6) : (afunR PR (envOf eqsT (roT t)) [] (fun _ => none) 40 57 [c12.agg.enc a]).strict = .leaf (c12.agg.enc (rneg2G t a)) := by kernel_rfl
theorem rneg2_ctx : Ctx PR (envOf eqsT (roT roO)) [] (fun _ => none) 40 57 :=
  ctx_of (envOf_ok eqsT_ok (roT_ok)) mixed (fn := Tryz.f57) (by kernel_rfl) (by kernel_rfl) (by kernel_rfl) (tabOk_none _)
theorem rneg2_ok : CallOk PR 57 (fn1 c12.agg c12.agg (rneg2G roO)) :=
  .inl ⟨enters_of (fn := Tryz.f57) (by kernel_rfl) (by kernel_rfl) (by kernel_rfl), pure1 rneg2_ctx (fun a => leafVal (B := c12.agg) (y := rneg2G roO a) (rneg2_run roO a))⟩
theorem rmul2_run (t : RO) (a b : D6) : (afunR PR (envOf eqsT (roT t)) [] (fun _ => none) 40 37 [c12.agg.enc a, c12.agg.enc b]).strict = .leaf (c12.agg.enc (rmul2G t a b)) := by kernel_rfl
theorem rmul2_ctx : Ctx PR (envOf eqsT (roT roO)) [] (fun _ => none) 40 37 :=
  ctx_of (envOf_ok eqsT_ok (roT_ok)) mixed (fn := Tryz.f37) (by kernel_rfl) (by kernel_rfl) (by kernel_rfl) (tabOk_none _)
theorem rmul2_ok : CallOk PR 37 (fn2 c12.agg c12.agg c12.agg (rmul2G roO)) :=
  .inl ⟨enters_of (fn := Tryz.f37) (by kernel_rfl) (by kernel_rfl) (by kernel_rfl), pure2 rmul2_ctx (fun a b => leafVal (B := c12.agg) (y := rmul2G roO a b) (rmul2_run roO a b))⟩
theorem rinv2_run (t : RO) (a : D6) : (afunR PR (envOf eqsT (roT t)) [] (fun _ => none) 40 161 [c12.agg.enc a]).strict = .leaf (c12.agg.enc (rinv2G t a)) := by kernel_rfl
theorem rinv2_ctx : Ctx PR (envOf eqsT (roT roO)) [] (fun _ => none) 40 161 :=
  ctx_of (envOf_ok eqsT_ok (roT_ok)) mixed (fn := Tryz.f161) (by kernel_rfl) (by kernel_rfl) (by kernel_rfl) (tabOk_none _)
theorem rinv2_ok : CallOk PR 161 (fn1 c12.agg c12.agg (rinv2G roO)) :=
  .inl ⟨enters_of (fn := Tryz.f161) (by kernel_rfl) (by kernel_rfl) (by kernel_rfl), pure1 rinv2_ctx (fun a => leafVal (B := c12.agg) (y := rinv2G roO a) (rinv2_run roO a))⟩
def rs2T (ad : D6 → D6 → D6) (ne : D6 → D6) : PureTab := [(95, fn2 c12.agg c12.agg c12.agg ad), (57, fn1 c12.agg c12.agg ne)]
theorem rsub2_run (ad : D6 → D6 → D6) (ne : D6 → D6) (a b : D6) : (afunR PR (envOf eqsT (rs2T ad ne)) [] (fun _ => none) 40 188 [c12.agg.enc a, c12.agg.enc b]).strict = .leaf (c12.agg.enc (ad a (ne b))) := by kernel_rfl
def rsub2G (t : RO) (a b : D6) : D6 := radd2G t a (rneg2G t b)
theorem rsub2_ctx : Ctx PR (envOf eqsT (rs2T (radd2G roO) (rneg2G roO))) [] (fun _ => none) 40 188 :=
  ctx_of (envOf_ok eqsT_ok (TabPOk.cons radd2_ok (TabPOk.cons rneg2_ok TabPOk.nil))) mixed (fn := Tryz.f188) (by kernel_rfl) (by kernel_rfl) (by kernel_rfl) (tabOk_none _)
theorem rsub2_ok : CallOk PR 188 (fn2 c12.agg c12.agg c12.agg (rsub2G roO)) :=
  .inl ⟨enters_of (fn := Tryz.f188) (by kernel_rfl) (by kernel_rfl) (by kernel_rfl), pure2 rsub2_ctx (fun a b => leafVal (B := c12.agg) (y := rsub2G roO a b) (rsub2_run (radd2G roO) (rneg2G roO) a b))⟩

/-! Points of three elements. -/
structure Th where
  x : D6
  y : D6
  z : D6
  one : Bool
def cTh : CC Th := (CC.prod c12 (CC.prod c12 (CC.prod c12 cBool))).iso (fun x => ⟨x.1, x.2.1, x.2.2.1, x.2.2.2⟩) (fun y => (y.x, y.y, y.z, y.one)) (fun _ => rfl)
def kE : Cod D6 := c12.agg
def thmG (t : RO) (M2 : D6 → D6 → D6) (p : Th) (a b : D6) : D6 := bif p.one then ⟨t.mu t.fp a.a b.a, zeroW⟩ else M2 a b
def thT (t : RO) (M2 : D6 → D6 → D6) : PureTab := (37, fn2 c12.agg c12.agg c12.agg M2) :: roT t
theorem thm_run (t : RO) (M2 : D6 → D6 → D6) (p : Th) (a b : D6) : (afunR PR (envOf eqsT (thT t M2)) [8] (fun _ => none) 40 162 [cTh.agg.enc p, c12.agg.enc a, c12.agg.enc b]).strict =
    .br p.one (.leaf (c12.agg.enc ⟨t.mu t.fp a.a b.a, zeroW⟩)) (.leaf (c12.agg.enc (M2 a b))) := by kernel_rfl
theorem thm_gives (t : RO) (M2 : D6 → D6 → D6) (p : Th) (a b : D6) : Gives (afunR PR (envOf eqsT (thT t M2)) [8] (fun _ => none) 40 162 [cTh.agg.enc p, c12.agg.enc a, c12.agg.enc b]) (c12.agg.val (thmG t M2 p a b)) :=
  givesOf (thm_run t M2 p a b) (holds_br (B := c12.agg) (holds_leaf (c12.agg.h1 _)) (holds_leaf (c12.agg.h1 _)))
theorem thm_ctx : Ctx PR (envOf eqsT (thT roO (rmul2G roO))) [8] (fun _ => none) 40 162 :=
  ctx_of (envOf_ok eqsT_ok (TabPOk.cons rmul2_ok roT_ok)) mixed (fn := Tryz.f162) (by kernel_rfl) (by kernel_rfl) (by kernel_rfl) (tabOk_none _)
def thmW : Th → D6 → D6 → D6 := thmG roO (rmul2G roO)
theorem thm_ok : CallOk PR 162 (fn3 cTh.agg c12.agg c12.agg c12.agg thmW) :=
  .inl ⟨enters_of (fn := Tryz.f162) (by kernel_rfl) (by kernel_rfl) (by kernel_rfl), pure3 thm_ctx (fun p a b => thm_gives roO (rmul2G roO) p a b)⟩

/-- The small numbers that are told. -/
inductive Sm where | n2 | n3 | n4 | n8
def Sm.i : Sm → Int | .n2 => 2 | .n3 => 3 | .n4 => 4 | .n8 => 8
def Sm.n : Sm → Nat | .n2 => 2 | .n3 => 3 | .n4 => 4 | .n8 => 8
def smOf (k : IntKind) (n : Int) : Option Sm := match decide (k = .i64) with
  | false => none
  | true => match decide (n = 2) with
    | true => some .n2
    | false => match decide (n = 3) with
      | true => some .n3
      | false => match decide (n = 4) with
        | true => some .n4
        | false => match decide (n = 8) with
          | true => some .n8
          | false => none
def kSm : Cod Sm where
  enc s := .v (.int .i64 s.i)
  dec a := match a with
    | .v (.int k n) => smOf k n
    | _ => none
  val s := .int .i64 s.i
  h1 _ := rfl
  h2 ρ a v x h r := by
    split at h
    · rename_i k n
      cases r
      unfold smOf at h
      split at h
      · cases h
      · rename_i hk
        have hk := of_decide_eq_true hk
        subst hk
        split at h
        · rename_i e; simp at h; subst h; rw [of_decide_eq_true e]; rfl
        · split at h
          · rename_i e; simp at h; subst h; rw [of_decide_eq_true e]; rfl
          · split at h
            · rename_i e; simp at h; subst h; rw [of_decide_eq_true e]; rfl
            · split at h
              · rename_i e; simp at h; subst h; rw [of_decide_eq_true e]; rfl
              · cases h
    · cases h
def timesA (A : D6 → D6 → D6) (a : D6) : Nat → D6
  | 0 => ⟨zeroW, zeroW⟩
  | k + 1 => A (timesA A a k) a
theorem rtm_run (A : D6 → D6 → D6) (a : D6) (s : Sm) : (afunR PR (envOf eqsT [(95, fn2 c12.agg c12.agg c12.agg A)]) [] (fun _ => none) 40 187 [c12.agg.enc a, kSm.enc s]).strict = .leaf (c12.agg.enc (timesA A a s.n)) := by
  cases s <;> kernel_rfl
theorem rtm_ctx : Ctx PR (envOf eqsT ([(95, fn2 c12.agg c12.agg c12.agg (radd2G roO))])) [] (fun _ => none) 40 187 :=
  ctx_of (envOf_ok eqsT_ok (TabPOk.cons radd2_ok TabPOk.nil)) mixed (fn := Tryz.f187) (by kernel_rfl) (by kernel_rfl) (by kernel_rfl) (tabOk_none _)
def rtmW (a : D6) (s : Sm) : D6 := timesA (radd2G roO) a s.n
theorem rtm_ok : CallOk PR 187 (fn2 c12.agg kSm c12.agg rtmW) :=
  .inl ⟨enters_of (fn := Tryz.f187) (by kernel_rfl) (by kernel_rfl) (by kernel_rfl), pure2 rtm_ctx (fun a s => leafVal (B := c12.agg) (y := rtmW a s) (rtm_run (radd2G roO) a s))⟩

/-- What twice and sum call, left open. -/
structure TH where
  mu : Th → D6 → D6 → D6
  tm : D6 → Sm → D6
  sb : D6 → D6 → D6
def thO : TH := ⟨thmW, rtmW, rsub2G roO⟩
def tdT (t : TH) : PureTab := [(162, fn3 cTh.agg c12.agg c12.agg c12.agg t.mu), (187, fn2 c12.agg kSm c12.agg t.tm), (188, fn2 c12.agg c12.agg c12.agg t.sb)]
theorem tdT_eq : [(162, fn3 cTh.agg c12.agg c12.agg c12.agg thmW), (187, fn2 c12.agg kSm c12.agg rtmW), (188, fn2 c12.agg c12.agg c12.agg (rsub2G roO))] = tdT thO := by kernel_rfl
theorem tdT_ok : TabPOk PR (tdT thO) := Eq.subst (motive := TabPOk PR) tdT_eq (TabPOk.cons thm_ok (TabPOk.cons rtm_ok (TabPOk.cons rsub2_ok TabPOk.nil)))
def zeroD : D6 := ⟨zeroW, zeroW⟩
def dblP (t : TH) (p : Th) : Th :=
  let yy := t.mu p p.y p.y
  let s := t.tm (t.mu p p.x yy) .n4
  let m := t.tm (t.mu p p.x p.x) .n3
  let x := t.sb (t.mu p m m) (t.tm s .n2)
  ⟨x, t.sb (t.mu p m (t.sb s x)) (t.tm (t.mu p yy yy) .n8), t.tm (t.mu p p.y p.z) .n2, p.one⟩
def noneT (o : Bool) : Th := ⟨zeroD, zeroD, zeroD, o⟩
def dblG (t : TH) (p : Th) : Th := bif eqD p.z zeroD then noneT p.one else bif eqD p.y zeroD then noneT p.one else dblP t p
theorem dbl_run (t : TH) (p : Th) : (afunR PR (envOf eqsT (tdT t)) [12, 17] (fun _ => none) 40 158 [cTh.agg.enc p]).strict =
    .br (eqD p.z zeroD) (.leaf (cTh.agg.enc (noneT p.one))) (.br (eqD p.y zeroD) (.leaf (cTh.agg.enc (noneT p.one))) (.leaf (cTh.agg.enc (dblP t p)))) := by kernel_rfl
theorem dbl_gives (t : TH) (p : Th) : Gives (afunR PR (envOf eqsT (tdT t)) [12, 17] (fun _ => none) 40 158 [cTh.agg.enc p]) (cTh.agg.val (dblG t p)) :=
  givesOf (dbl_run t p) (holds_br (B := cTh.agg) (holds_leaf (cTh.agg.h1 _)) (holds_br (B := cTh.agg) (holds_leaf (cTh.agg.h1 _)) (holds_leaf (cTh.agg.h1 _))))
theorem dbl_ctx : Ctx PR (envOf eqsT (tdT thO)) [12, 17] (fun _ => none) 40 158 :=
  ctx_of (envOf_ok eqsT_ok (tdT_ok)) mixed (fn := Tryz.f158) (by kernel_rfl) (by kernel_rfl) (by kernel_rfl) (tabOk_none _)
def dblW : Th → Th := dblG thO
theorem dbl_ok : CallOk PR 158 (fn1 cTh.agg cTh.agg dblW) :=
  .inl ⟨enters_of (fn := Tryz.f158) (by kernel_rfl) (by kernel_rfl) (by kernel_rfl), pure1 dbl_ctx (fun p => dbl_gives thO p)⟩

def addP (t : TH) (_D : Th → Th) (p u : Th) : Th :=
  let zz := t.mu p p.z p.z
  let ux := t.mu p u.x zz
  let uy := t.mu p u.y (t.mu p zz p.z)
  let h := t.sb ux p.x
  let k := t.sb uy p.y
  let hh := t.mu p h h
  let hhh := t.mu p hh h
  let v := t.mu p p.x hh
  let x := t.sb (t.sb (t.mu p k k) hhh) (t.tm v .n2)
  ⟨x, t.sb (t.mu p k (t.sb v x)) (t.mu p p.y hhh), t.mu p p.z h, p.one⟩
def tAddH (t : TH) (p u : Th) : D6 := t.sb (t.mu p u.x (t.mu p p.z p.z)) p.x
def tAddK (t : TH) (p u : Th) : D6 := t.sb (t.mu p u.y (t.mu p (t.mu p p.z p.z) p.z)) p.y
def addG (t : TH) (D : Th → Th) (p u : Th) : Th := bif eqD p.z zeroD then u else bif eqD (tAddH t p u) zeroD then (bif eqD (tAddK t p u) zeroD then D p else noneT p.one) else addP t D p u
def taT (t : TH) (D : Th → Th) : PureTab := (158, fn1 cTh.agg cTh.agg D) :: tdT t
theorem tadd_run (t : TH) (D : Th → Th) (p u : Th) : (afunR PR (envOf eqsT (taT t D)) [18, 50, 53] (fun _ => none) 40 159 [cTh.agg.enc p, cTh.agg.enc u]).strict =
    .br (eqD p.z zeroD) (.leaf (cTh.agg.enc u)) (.br (eqD (tAddH t p u) zeroD) (.br (eqD (tAddK t p u) zeroD) (.leaf (cTh.agg.enc (D p))) (.leaf (cTh.agg.enc (noneT p.one)))) (.leaf (cTh.agg.enc (addP t D p u)))) := by kernel_rfl
theorem tadd_gives (t : TH) (D : Th → Th) (p u : Th) : Gives (afunR PR (envOf eqsT (taT t D)) [18, 50, 53] (fun _ => none) 40 159 [cTh.agg.enc p, cTh.agg.enc u]) (cTh.agg.val (addG t D p u)) :=
  givesOf (tadd_run t D p u) (holds_br (B := cTh.agg) (holds_leaf (cTh.agg.h1 _)) (holds_br (B := cTh.agg) (holds_br (B := cTh.agg) (holds_leaf (cTh.agg.h1 _)) (holds_leaf (cTh.agg.h1 _))) (holds_leaf (cTh.agg.h1 _))))
theorem tadd_ctx : Ctx PR (envOf eqsT (taT thO dblW)) [18, 50, 53] (fun _ => none) 40 159 :=
  ctx_of (envOf_ok eqsT_ok (TabPOk.cons dbl_ok tdT_ok)) mixed (fn := Tryz.f159) (by kernel_rfl) (by kernel_rfl) (by kernel_rfl) (tabOk_none _)
def taddW : Th → Th → Th := addG thO dblW
theorem tadd_ok : CallOk PR 159 (fn2 cTh.agg cTh.agg cTh.agg taddW) :=
  .inl ⟨enters_of (fn := Tryz.f159) (by kernel_rfl) (by kernel_rfl) (by kernel_rfl), pure2 tadd_ctx (fun p u => tadd_gives thO dblW p u)⟩
end Go.Rq
