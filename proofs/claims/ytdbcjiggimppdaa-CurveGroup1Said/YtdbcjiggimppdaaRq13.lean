/- The reference's points by two numbers: contracts. -/
import Derived.Test.YtdbcjiggimppdaaRq12
import Derived.Test.YtdbcjiggimppdaaRq07
namespace Go.Rq
open Go Go.Proofs

theorem rbelow_run (c : W6 → W6 → Int) (n a : W6) : (afunR PR (envOf eqsT [(127, fn2 c6.agg c6.agg (kInt .i64) c), (128, fn0 c6.agg n)]) [] (fun _ => none) 40 80 [c6.agg.enc a]).strict = .leaf (kBool.enc (decide (c a n < 0))) := by kernel_rfl
theorem rbelow_ctx : Ctx PR (envOf eqsT [(127, fn2 c6.agg c6.agg (kInt .i64) fun a b => chainV (cmpL a b) 0), (128, fn0 c6.agg primeW)]) [] (fun _ => none) 40 80 :=
  ctx_of (envOf_ok eqsT_ok (TabPOk.cons rcmp_ok (TabPOk.cons rbase_ok TabPOk.nil))) mixed (fn := Try.f80) (by kernel_rfl) (by kernel_rfl) (by kernel_rfl) (tabOk_none _)
theorem rbelow_ok : CallOk PR 80 (fn1 c6.agg kBool belowI) :=
  .inl ⟨enters_of (fn := Try.f80) (by kernel_rfl) (by kernel_rfl) (by kernel_rfl), pure1 rbelow_ctx (fun a => leafVal (B := kBool) (y := belowI a) (rbelow_run (fun a b => chainV (cmpL a b) 0) primeW a))⟩

/-- The reference's field, left open. -/
structure RO where
  fp : Fa
  mu : Fa → W6 → W6 → W6
  ad : Fa → W6 → W6 → W6
  sb : Fa → W6 → W6 → W6
  ne : Fa → W6 → W6
  iv : Fa → W6 → W6
def roT (t : RO) : PureTab := [(81, fn0 cFa.agg t.fp), (82, fn3 cFa.agg c6.agg c6.agg c6.agg t.mu), (93, fn3 cFa.agg c6.agg c6.agg c6.agg t.ad),
  (95, fn3 cFa.agg c6.agg c6.agg c6.agg t.sb), (96, fn2 cFa.agg c6.agg c6.agg t.ne), (94, fn2 cFa.agg c6.agg c6.agg t.iv)]
def roO : RO := ⟨fastP, rmulW, rfadd, rfsub, rfneg, rinvW⟩
theorem roT_eq : [(81, fn0 cFa.agg fastP), (82, fn3 cFa.agg c6.agg c6.agg c6.agg rmulW), (93, fn3 cFa.agg c6.agg c6.agg c6.agg rfadd),
  (95, fn3 cFa.agg c6.agg c6.agg c6.agg rfsub), (96, fn2 cFa.agg c6.agg c6.agg rfneg), (94, fn2 cFa.agg c6.agg c6.agg rinvW)] = roT roO := by kernel_rfl
theorem roT_ok : TabPOk PR (roT roO) := Eq.subst (motive := TabPOk PR) roT_eq (TabPOk.cons rp_ok (TabPOk.cons rmul_ok (TabPOk.cons rfadd_ok (TabPOk.cons rfsub_ok (TabPOk.cons rfneg_ok (TabPOk.cons rfinv_ok TabPOk.nil))))))

def rsideG (t : RO) (x : W6) : W6 := t.ad t.fp (t.mu t.fp (t.mu t.fp x x) x) (ofW 4#64)
theorem rside_run (t : RO) (x : W6) : (afunR PR (envOf eqsT (roT t)) [] (fun _ => none) 40 83 [c6.agg.enc x]).strict = .leaf (c6.agg.enc (rsideG t x)) := by kernel_rfl
theorem rside_ctx : Ctx PR (envOf eqsT (roT roO)) [] (fun _ => none) 40 83 :=
  ctx_of (envOf_ok eqsT_ok roT_ok) mixed (fn := Try.f83) (by kernel_rfl) (by kernel_rfl) (by kernel_rfl) (tabOk_none _)
theorem rside_ok : CallOk PR 83 (fn1 c6.agg c6.agg (rsideG roO)) :=
  .inl ⟨enters_of (fn := Try.f83) (by kernel_rfl) (by kernel_rfl) (by kernel_rfl), pure1 rside_ctx (fun a => leafVal (B := c6.agg) (y := rsideG roO a) (rside_run roO a))⟩

/-! Is it a point? -/
def rckT (t : RO) (bl : W6 → Bool) (sd : W6 → W6) : PureTab := (80, fn1 c6.agg kBool bl) :: (83, fn1 c6.agg c6.agg sd) :: roT t
theorem rck_run (t : RO) (bl : W6 → Bool) (sd : W6 → W6) (p : Ap W6) : (afunR PR (envOf eqsT (rckT t bl sd)) [4, 9, 18, 23] (fun _ => none) 40 29 [aW.agg.enc p]).strict =
    .br p.zero (.br (eqW p.x zeroW) (.leaf (kBool.enc (eqW p.y zeroW))) (.leaf (.lit false)))
      (.br (bl p.x) (.br (bl p.y) (.leaf (kBool.enc (eqW (t.mu t.fp p.y p.y) (sd p.x)))) (.leaf (.lit false))) (.leaf (.lit false))) := by kernel_rfl
def rcheckG (t : RO) (bl : W6 → Bool) (sd : W6 → W6) (p : Ap W6) : Bool := bif p.zero then (bif eqW p.x zeroW then eqW p.y zeroW else false) else bif bl p.x then (bif bl p.y then eqW (t.mu t.fp p.y p.y) (sd p.x) else false) else false
theorem rck_gives (t : RO) (bl : W6 → Bool) (sd : W6 → W6) (p : Ap W6) : Gives (afunR PR (envOf eqsT (rckT t bl sd)) [4, 9, 18, 23] (fun _ => none) 40 29 [aW.agg.enc p]) (kBool.val (rcheckG t bl sd p)) :=
  givesOf (rck_run t bl sd p)
    (holds_br (B := kBool) (holds_br (B := kBool) (holds_leaf (kBool.h1 _)) (holds_leaf (a := .lit false) (v := kBool.val false) rfl)) (holds_br (B := kBool) (holds_br (B := kBool) (holds_leaf (kBool.h1 _)) (holds_leaf (a := .lit false) (v := kBool.val false) rfl)) (holds_leaf (a := .lit false) (v := kBool.val false) rfl)))
def rcheck1 : Ap W6 → Bool := rcheckG roO belowI (rsideG roO)
theorem rck_ctx : Ctx PR (envOf eqsT (rckT roO belowI (rsideG roO))) [4, 9, 18, 23] (fun _ => none) 40 29 :=
  ctx_of (envOf_ok eqsT_ok (TabPOk.cons rbelow_ok (TabPOk.cons rside_ok roT_ok))) mixed (fn := Try.f29) (by kernel_rfl) (by kernel_rfl) (by kernel_rfl) (tabOk_none _)
theorem rck_ok : CallOk PR 29 (fn1 aW.agg kBool rcheck1) :=
  .inl ⟨enters_of (fn := Try.f29) (by kernel_rfl) (by kernel_rfl) (by kernel_rfl), pure1 rck_ctx (fun p => rck_gives roO belowI (rsideG roO) p)⟩

/-! The negated one. -/
def rneg1G (t : RO) (p : Ap W6) : Ap W6 := ⟨p.x, t.ne t.fp p.y, p.zero⟩
theorem rneg1_run (t : RO) (p : Ap W6) : (afunR PR (envOf eqsT (roT t)) [] (fun _ => none) 40 40 [aW.agg.enc p]).strict = .leaf (aW.agg.enc (rneg1G t p)) := by kernel_rfl
theorem rneg1_ctx : Ctx PR (envOf eqsT (roT roO)) [] (fun _ => none) 40 40 :=
  ctx_of (envOf_ok eqsT_ok roT_ok) mixed (fn := Try.f40) (by kernel_rfl) (by kernel_rfl) (by kernel_rfl) (tabOk_none _)
theorem rneg1_ok : CallOk PR 40 (fn1 aW.agg aW.agg (rneg1G roO)) :=
  .inl ⟨enters_of (fn := Try.f40) (by kernel_rfl) (by kernel_rfl) (by kernel_rfl), pure1 rneg1_ctx (fun p => leafVal (B := aW.agg) (y := rneg1G roO p) (rneg1_run roO p))⟩

/-! The sum by the slope. -/
def eqP13 (a b : Ap W6) : Bool := (a.x.w0 == b.x.w0) && ((a.x.w1 == b.x.w1) && ((a.x.w2 == b.x.w2) && ((a.x.w3 == b.x.w3) && ((a.x.w4 == b.x.w4) && ((a.x.w5 == b.x.w5) &&
  ((a.y.w0 == b.y.w0) && ((a.y.w1 == b.y.w1) && ((a.y.w2 == b.y.w2) && ((a.y.w3 == b.y.w3) && ((a.y.w4 == b.y.w4) && ((a.y.w5 == b.y.w5) && ((a.zero == b.zero) && true))))))))))))
def rslope1 (t : RO) (a : Ap W6) : W6 := t.mu t.fp (t.ad t.fp (t.ad t.fp (t.mu t.fp a.x a.x) (t.mu t.fp a.x a.x)) (t.mu t.fp a.x a.x)) (t.iv t.fp (t.ad t.fp a.y a.y))
def rslope2 (t : RO) (a b : Ap W6) : W6 := t.mu t.fp (t.sb t.fp b.y a.y) (t.iv t.fp (t.sb t.fp b.x a.x))
def rchord (t : RO) (a b : Ap W6) (m : W6) : Ap W6 :=
  let x := t.sb t.fp (t.sb t.fp (t.mu t.fp m m) a.x) b.x
  ⟨x, t.sb t.fp (t.mu t.fp m (t.sb t.fp a.x x)) a.y, false⟩
def radT (t : RO) (N : Ap W6 → Ap W6) : PureTab := (40, fn1 aW.agg aW.agg N) :: roT t
def apA (p : Ap W6) (z : Bool) : AV := .agg (c6.enc p.x ++ (c6.enc p.y ++ [.lit z]))
set_option maxRecDepth 100000 in
theorem radd1_run (t : RO) (N : Ap W6 → Ap W6) (a b : Ap W6) : (afunR PR (envOf eqsT (radT t N)) [11, 14, 19, 23] (fun _ => none) 40 39 [aW.agg.enc a, aW.agg.enc b]).strict =
    .br a.zero (.leaf (aW.agg.enc b)) (.br b.zero (.leaf (aW.agg.enc a)) (.br (eqP13 a (N b)) (.leaf (apA ⟨zeroW, zeroW, true⟩ true))
      (.br (eqP13 a b) (.leaf (apA (rchord t a b (rslope1 t a)) false)) (.leaf (apA (rchord t a b (rslope2 t a b)) false))))) := by kernel_rfl

def radd1G (t : RO) (N : Ap W6 → Ap W6) (a b : Ap W6) : Ap W6 := bif a.zero then b else bif b.zero then a else bif eqP13 a (N b) then ⟨zeroW, zeroW, true⟩ else bif eqP13 a b then rchord t a b (rslope1 t a) else rchord t a b (rslope2 t a b)
theorem apA_flat (p : Ap W6) (z : Bool) (h : p.zero = z) : flat (apA p z) = some (aW.agg.val p) := by
  obtain ⟨x, y, w⟩ := p
  simp at h; subst h
  exact apFlatW x y w
theorem radd1_gives (t : RO) (N : Ap W6 → Ap W6) (a b : Ap W6) : Gives (afunR PR (envOf eqsT (radT t N)) [11, 14, 19, 23] (fun _ => none) 40 39 [aW.agg.enc a, aW.agg.enc b]) (aW.agg.val (radd1G t N a b)) :=
  givesOf (radd1_run t N a b) (holds_br (B := aW.agg) (holds_leaf (aW.agg.h1 _)) (holds_br (B := aW.agg) (holds_leaf (aW.agg.h1 _)) (holds_br (B := aW.agg) (holds_leaf (apA_flat _ _ rfl)) (holds_br (B := aW.agg) (holds_leaf (apA_flat _ _ rfl)) (holds_leaf (apA_flat _ _ rfl))))))
def radd1 : Ap W6 → Ap W6 → Ap W6 := radd1G roO (rneg1G roO)
theorem radd1_ctx : Ctx PR (envOf eqsT (radT roO (rneg1G roO))) [11, 14, 19, 23] (fun _ => none) 40 39 :=
  ctx_of (envOf_ok eqsT_ok (TabPOk.cons rneg1_ok roT_ok)) mixed (fn := Try.f39) (by kernel_rfl) (by kernel_rfl) (by kernel_rfl) (tabOk_none _)
theorem radd1_ok : CallOk PR 39 (fn2 aW.agg aW.agg aW.agg radd1) :=
  .inl ⟨enters_of (fn := Try.f39) (by kernel_rfl) (by kernel_rfl) (by kernel_rfl), pure2 radd1_ctx (fun a b => radd1_gives roO (rneg1G roO) a b)⟩

/-! The generator. -/
theorem rgen1_ctx : Ctx PR (envOf eqsT []) [] (fun _ => none) 10 34 :=
  ctx_of (envOf_ok eqsT_ok TabPOk.nil) mixed (fn := Try.f34) (by kernel_rfl) (by kernel_rfl) (by kernel_rfl) (tabOk_none _)
def rgen1P : Ap W6 := ⟨⟨0xfb3af00adb22c6bb#64, 0x6c55e83ff97a1aef#64, 0xa14e3a3f171bac58#64, 0xc3688c4f9774b905#64, 0x2695638c4fa9ac0f#64, 0x17f1d3a73197d794#64⟩, ⟨0x0caa232946c5e7e1#64, 0xd03cc744a2888ae4#64, 0x00db18cb2c04b3ed#64, 0xfcf5e095d5d00af6#64, 0xa09e30ed741d8ae4#64, 0x08b3f481e3aaa0f1#64⟩, false⟩
theorem rgen1_run : (afunR PR (envOf eqsT []) [] (fun _ => none) 10 34 []).strict = .leaf (apA rgen1P false) := by kernel_rfl
theorem rgen1_ok : CallOk PR 34 (fn0 aW.agg rgen1P) :=
  .inl ⟨enters_of (fn := Try.f34) (by kernel_rfl) (by kernel_rfl) (by kernel_rfl), pure0 rgen1_ctx (givesOf rgen1_run (holds_leaf (apA_flat _ _ rfl)))⟩
end Go.Rq

/- The reference's tower and points of three numbers: contracts. Written by a program of ours. -/
namespace Go.Rq
open Go Go.Proofs

/-! Elements of two parts. -/
def radd2G (t : RO) (a b : D6) : D6 := ⟨t.ad t.fp a.a b.a, t.ad t.fp a.b b.b⟩
def rneg2G (t : RO) (a : D6) : D6 := ⟨t.ne t.fp a.a, t.ne t.fp a.b⟩
def rmul2G (t : RO) (a b : D6) : D6 := ⟨t.sb t.fp (t.mu t.fp a.a b.a) (t.mu t.fp a.b b.b), t.ad t.fp (t.mu t.fp a.a b.b) (t.mu t.fp a.b b.a)⟩
def rinv2G (t : RO) (a : D6) : D6 :=
  let n := t.iv t.fp (t.ad t.fp (t.mu t.fp a.a a.a) (t.mu t.fp a.b a.b))
  ⟨t.mu t.fp a.a n, t.ne t.fp (t.mu t.fp a.b n)⟩
set_option maxRecDepth 100000
theorem radd2_run (t : RO) (a b : D6) : (afunR PR (envOf eqsT (roT t)) [] (fun _ => none) 40 148 [c12.agg.enc a, c12.agg.enc b]).strict = .leaf (c12.agg.enc (radd2G t a b)) := by kernel_rfl
theorem radd2_ctx : Ctx PR (envOf eqsT (roT roO)) [] (fun _ => none) 40 148 :=
  ctx_of (envOf_ok eqsT_ok (roT_ok)) mixed (fn := Try.f148) (by kernel_rfl) (by kernel_rfl) (by kernel_rfl) (tabOk_none _)
theorem radd2_ok : CallOk PR 148 (fn2 c12.agg c12.agg c12.agg (radd2G roO)) :=
  .inl ⟨enters_of (fn := Try.f148) (by kernel_rfl) (by kernel_rfl) (by kernel_rfl), pure2 radd2_ctx (fun a b => leafVal (B := c12.agg) (y := radd2G roO a b) (radd2_run roO a b))⟩
theorem rneg2_run (t : RO) (a : D6) : (afunR PR (envOf eqsT (roT t)) [] (fun _ => none) 40 110 [c12.agg.enc a]).strict = .leaf (c12.agg.enc (rneg2G t a)) := by kernel_rfl
theorem rneg2_ctx : Ctx PR (envOf eqsT (roT roO)) [] (fun _ => none) 40 110 :=
  ctx_of (envOf_ok eqsT_ok (roT_ok)) mixed (fn := Try.f110) (by kernel_rfl) (by kernel_rfl) (by kernel_rfl) (tabOk_none _)
theorem rneg2_ok : CallOk PR 110 (fn1 c12.agg c12.agg (rneg2G roO)) :=
  .inl ⟨enters_of (fn := Try.f110) (by kernel_rfl) (by kernel_rfl) (by kernel_rfl), pure1 rneg2_ctx (fun a => leafVal (B := c12.agg) (y := rneg2G roO a) (rneg2_run roO a))⟩
theorem rmul2_run (t : RO) (a b : D6) : (afunR PR (envOf eqsT (roT t)) [] (fun _ => none) 40 99 [c12.agg.enc a, c12.agg.enc b]).strict = .leaf (c12.agg.enc (rmul2G t a b)) := by kernel_rfl
theorem rmul2_ctx : Ctx PR (envOf eqsT (roT roO)) [] (fun _ => none) 40 99 :=
  ctx_of (envOf_ok eqsT_ok (roT_ok)) mixed (fn := Try.f99) (by kernel_rfl) (by kernel_rfl) (by kernel_rfl) (tabOk_none _)
theorem rmul2_ok : CallOk PR 99 (fn2 c12.agg c12.agg c12.agg (rmul2G roO)) :=
  .inl ⟨enters_of (fn := Try.f99) (by kernel_rfl) (by kernel_rfl) (by kernel_rfl), pure2 rmul2_ctx (fun a b => leafVal (B := c12.agg) (y := rmul2G roO a b) (rmul2_run roO a b))⟩
theorem rinv2_run (t : RO) (a : D6) : (afunR PR (envOf eqsT (roT t)) [] (fun _ => none) 40 160 [c12.agg.enc a]).strict = .leaf (c12.agg.enc (rinv2G t a)) := by kernel_rfl
theorem rinv2_ctx : Ctx PR (envOf eqsT (roT roO)) [] (fun _ => none) 40 160 :=
  ctx_of (envOf_ok eqsT_ok (roT_ok)) mixed (fn := Try.f160) (by kernel_rfl) (by kernel_rfl) (by kernel_rfl) (tabOk_none _)
theorem rinv2_ok : CallOk PR 160 (fn1 c12.agg c12.agg (rinv2G roO)) :=
  .inl ⟨enters_of (fn := Try.f160) (by kernel_rfl) (by kernel_rfl) (by kernel_rfl), pure1 rinv2_ctx (fun a => leafVal (B := c12.agg) (y := rinv2G roO a) (rinv2_run roO a))⟩
def rs2T (ad : D6 → D6 → D6) (ne : D6 → D6) : PureTab := [(148, fn2 c12.agg c12.agg c12.agg ad), (110, fn1 c12.agg c12.agg ne)]
theorem rsub2_run (ad : D6 → D6 → D6) (ne : D6 → D6) (a b : D6) : (afunR PR (envOf eqsT (rs2T ad ne)) [] (fun _ => none) 40 109 [c12.agg.enc a, c12.agg.enc b]).strict = .leaf (c12.agg.enc (ad a (ne b))) := by kernel_rfl
def rsub2G (t : RO) (a b : D6) : D6 := radd2G t a (rneg2G t b)
theorem rsub2_ctx : Ctx PR (envOf eqsT (rs2T (radd2G roO) (rneg2G roO))) [] (fun _ => none) 40 109 :=
  ctx_of (envOf_ok eqsT_ok (TabPOk.cons radd2_ok (TabPOk.cons rneg2_ok TabPOk.nil))) mixed (fn := Try.f109) (by kernel_rfl) (by kernel_rfl) (by kernel_rfl) (tabOk_none _)
theorem rsub2_ok : CallOk PR 109 (fn2 c12.agg c12.agg c12.agg (rsub2G roO)) :=
  .inl ⟨enters_of (fn := Try.f109) (by kernel_rfl) (by kernel_rfl) (by kernel_rfl), pure2 rsub2_ctx (fun a b => leafVal (B := c12.agg) (y := rsub2G roO a b) (rsub2_run (radd2G roO) (rneg2G roO) a b))⟩

/-! Points of three elements. -/
structure Th where
  x : D6
  y : D6
  z : D6
  one : Bool
def cTh : CC Th := (CC.prod c12 (CC.prod c12 (CC.prod c12 cBool))).iso (fun x => ⟨x.1, x.2.1, x.2.2.1, x.2.2.2⟩) (fun y => (y.x, y.y, y.z, y.one)) (fun _ => rfl)
def kE : Cod D6 := c12.agg
def thmG (t : RO) (M2 : D6 → D6 → D6) (p : Th) (a b : D6) : D6 := bif p.one then ⟨t.mu t.fp a.a b.a, zeroW⟩ else M2 a b
def thT (t : RO) (M2 : D6 → D6 → D6) : PureTab := (99, fn2 c12.agg c12.agg c12.agg M2) :: roT t
theorem thm_run (t : RO) (M2 : D6 → D6 → D6) (p : Th) (a b : D6) : (afunR PR (envOf eqsT (thT t M2)) [8] (fun _ => none) 40 182 [cTh.agg.enc p, c12.agg.enc a, c12.agg.enc b]).strict =
    .br p.one (.leaf (c12.agg.enc ⟨t.mu t.fp a.a b.a, zeroW⟩)) (.leaf (c12.agg.enc (M2 a b))) := by kernel_rfl
theorem thm_gives (t : RO) (M2 : D6 → D6 → D6) (p : Th) (a b : D6) : Gives (afunR PR (envOf eqsT (thT t M2)) [8] (fun _ => none) 40 182 [cTh.agg.enc p, c12.agg.enc a, c12.agg.enc b]) (c12.agg.val (thmG t M2 p a b)) :=
  givesOf (thm_run t M2 p a b) (holds_br (B := c12.agg) (holds_leaf (c12.agg.h1 _)) (holds_leaf (c12.agg.h1 _)))
theorem thm_ctx : Ctx PR (envOf eqsT (thT roO (rmul2G roO))) [8] (fun _ => none) 40 182 :=
  ctx_of (envOf_ok eqsT_ok (TabPOk.cons rmul2_ok roT_ok)) mixed (fn := Try.f182) (by kernel_rfl) (by kernel_rfl) (by kernel_rfl) (tabOk_none _)
def thmW : Th → D6 → D6 → D6 := thmG roO (rmul2G roO)
theorem thm_ok : CallOk PR 182 (fn3 cTh.agg c12.agg c12.agg c12.agg thmW) :=
  .inl ⟨enters_of (fn := Try.f182) (by kernel_rfl) (by kernel_rfl) (by kernel_rfl), pure3 thm_ctx (fun p a b => thm_gives roO (rmul2G roO) p a b)⟩

/-- The small numbers that are told. -/
inductive Sm where | n2 | n3 | n4 | n8
def Sm.i : Sm → Int | .n2 => 2 | .n3 => 3 | .n4 => 4 | .n8 => 8
def Sm.n : Sm → Nat | .n2 => 2 | .n3 => 3 | .n4 => 4 | .n8 => 8
def smOf (k : IntKind) (n : Int) : Option Sm := match decide (k = .i64) with
  | false => none
  | true => match decide (n = 2) with
    | true => some .n2
    | false => match decide (n = 3) with
      | true => some .n3
      | false => match decide (n = 4) with
        | true => some .n4
        | false => match decide (n = 8) with
          | true => some .n8
          | false => none
def kSm : Cod Sm where
  enc s := .v (.int .i64 s.i)
  dec a := match a with
    | .v (.int k n) => smOf k n
    | _ => none
  val s := .int .i64 s.i
  h1 _ := rfl
  h2 ρ a v x h r := by
    split at h
    · rename_i k n
      cases r
      unfold smOf at h
      split at h
      · cases h
      · rename_i hk
        have hk := of_decide_eq_true hk
        subst hk
        split at h
        · rename_i e; simp at h; subst h; rw [of_decide_eq_true e]; rfl
        · split at h
          · rename_i e; simp at h; subst h; rw [of_decide_eq_true e]; rfl
          · split at h
            · rename_i e; simp at h; subst h; rw [of_decide_eq_true e]; rfl
            · split at h
              · rename_i e; simp at h; subst h; rw [of_decide_eq_true e]; rfl
              · cases h
    · cases h
def timesA (A : D6 → D6 → D6) (a : D6) : Nat → D6
  | 0 => ⟨zeroW, zeroW⟩
  | k + 1 => A (timesA A a k) a
theorem rtm_run (A : D6 → D6 → D6) (a : D6) (s : Sm) : (afunR PR (envOf eqsT [(148, fn2 c12.agg c12.agg c12.agg A)]) [] (fun _ => none) 40 193 [c12.agg.enc a, kSm.enc s]).strict = .leaf (c12.agg.enc (timesA A a s.n)) := by
  cases s <;> kernel_rfl
theorem rtm_ctx : Ctx PR (envOf eqsT ([(148, fn2 c12.agg c12.agg c12.agg (radd2G roO))])) [] (fun _ => none) 40 193 :=
  ctx_of (envOf_ok eqsT_ok (TabPOk.cons radd2_ok TabPOk.nil)) mixed (fn := Try.f193) (by kernel_rfl) (by kernel_rfl) (by kernel_rfl) (tabOk_none _)
def rtmW (a : D6) (s : Sm) : D6 := timesA (radd2G roO) a s.n
theorem rtm_ok : CallOk PR 193 (fn2 c12.agg kSm c12.agg rtmW) :=
  .inl ⟨enters_of (fn := Try.f193) (by kernel_rfl) (by kernel_rfl) (by kernel_rfl), pure2 rtm_ctx (fun a s => leafVal (B := c12.agg) (y := rtmW a s) (rtm_run (radd2G roO) a s))⟩

/-- What twice and sum call, left open. -/
structure TH where
  mu : Th → D6 → D6 → D6
  tm : D6 → Sm → D6
  sb : D6 → D6 → D6
def thO : TH := ⟨thmW, rtmW, rsub2G roO⟩
def tdT (t : TH) : PureTab := [(182, fn3 cTh.agg c12.agg c12.agg c12.agg t.mu), (193, fn2 c12.agg kSm c12.agg t.tm), (109, fn2 c12.agg c12.agg c12.agg t.sb)]
theorem tdT_eq : [(182, fn3 cTh.agg c12.agg c12.agg c12.agg thmW), (193, fn2 c12.agg kSm c12.agg rtmW), (109, fn2 c12.agg c12.agg c12.agg (rsub2G roO))] = tdT thO := by kernel_rfl
theorem tdT_ok : TabPOk PR (tdT thO) := Eq.subst (motive := TabPOk PR) tdT_eq (TabPOk.cons thm_ok (TabPOk.cons rtm_ok (TabPOk.cons rsub2_ok TabPOk.nil)))
def zeroD : D6 := ⟨zeroW, zeroW⟩
def dblP (t : TH) (p : Th) : Th :=
  let yy := t.mu p p.y p.y
  let s := t.tm (t.mu p p.x yy) .n4
  let m := t.tm (t.mu p p.x p.x) .n3
  let x := t.sb (t.mu p m m) (t.tm s .n2)
  ⟨x, t.sb (t.mu p m (t.sb s x)) (t.tm (t.mu p yy yy) .n8), t.tm (t.mu p p.y p.z) .n2, p.one⟩
def noneT (o : Bool) : Th := ⟨zeroD, zeroD, zeroD, o⟩
def dblG (t : TH) (p : Th) : Th := bif eqD p.z zeroD then noneT p.one else bif eqD p.y zeroD then noneT p.one else dblP t p
theorem dbl_run (t : TH) (p : Th) : (afunR PR (envOf eqsT (tdT t)) [12, 17] (fun _ => none) 40 180 [cTh.agg.enc p]).strict =
    .br (eqD p.z zeroD) (.leaf (cTh.agg.enc (noneT p.one))) (.br (eqD p.y zeroD) (.leaf (cTh.agg.enc (noneT p.one))) (.leaf (cTh.agg.enc (dblP t p)))) := by kernel_rfl
theorem dbl_gives (t : TH) (p : Th) : Gives (afunR PR (envOf eqsT (tdT t)) [12, 17] (fun _ => none) 40 180 [cTh.agg.enc p]) (cTh.agg.val (dblG t p)) :=
  givesOf (dbl_run t p) (holds_br (B := cTh.agg) (holds_leaf (cTh.agg.h1 _)) (holds_br (B := cTh.agg) (holds_leaf (cTh.agg.h1 _)) (holds_leaf (cTh.agg.h1 _))))
theorem dbl_ctx : Ctx PR (envOf eqsT (tdT thO)) [12, 17] (fun _ => none) 40 180 :=
  ctx_of (envOf_ok eqsT_ok (tdT_ok)) mixed (fn := Try.f180) (by kernel_rfl) (by kernel_rfl) (by kernel_rfl) (tabOk_none _)
def dblW : Th → Th := dblG thO
theorem dbl_ok : CallOk PR 180 (fn1 cTh.agg cTh.agg dblW) :=
  .inl ⟨enters_of (fn := Try.f180) (by kernel_rfl) (by kernel_rfl) (by kernel_rfl), pure1 dbl_ctx (fun p => dbl_gives thO p)⟩

def addP (t : TH) (_D : Th → Th) (p u : Th) : Th :=
  let zz := t.mu p p.z p.z
  let ux := t.mu p u.x zz
  let uy := t.mu p u.y (t.mu p zz p.z)
  let h := t.sb ux p.x
  let k := t.sb uy p.y
  let hh := t.mu p h h
  let hhh := t.mu p hh h
  let v := t.mu p p.x hh
  let x := t.sb (t.sb (t.mu p k k) hhh) (t.tm v .n2)
  ⟨x, t.sb (t.mu p k (t.sb v x)) (t.mu p p.y hhh), t.mu p p.z h, p.one⟩
def tAddH (t : TH) (p u : Th) : D6 := t.sb (t.mu p u.x (t.mu p p.z p.z)) p.x
def tAddK (t : TH) (p u : Th) : D6 := t.sb (t.mu p u.y (t.mu p (t.mu p p.z p.z) p.z)) p.y
def addG (t : TH) (D : Th → Th) (p u : Th) : Th := bif eqD p.z zeroD then u else bif eqD (tAddH t p u) zeroD then (bif eqD (tAddK t p u) zeroD then D p else noneT p.one) else addP t D p u
def taT (t : TH) (D : Th → Th) : PureTab := (180, fn1 cTh.agg cTh.agg D) :: tdT t
theorem tadd_run (t : TH) (D : Th → Th) (p u : Th) : (afunR PR (envOf eqsT (taT t D)) [18, 50, 53] (fun _ => none) 40 181 [cTh.agg.enc p, cTh.agg.enc u]).strict =
    .br (eqD p.z zeroD) (.leaf (cTh.agg.enc u)) (.br (eqD (tAddH t p u) zeroD) (.br (eqD (tAddK t p u) zeroD) (.leaf (cTh.agg.enc (D p))) (.leaf (cTh.agg.enc (noneT p.one)))) (.leaf (cTh.agg.enc (addP t D p u)))) := by kernel_rfl
theorem tadd_gives (t : TH) (D : Th → Th) (p u : Th) : Gives (afunR PR (envOf eqsT (taT t D)) [18, 50, 53] (fun _ => none) 40 181 [cTh.agg.enc p, cTh.agg.enc u]) (cTh.agg.val (addG t D p u)) :=
  givesOf (tadd_run t D p u) (holds_br (B := cTh.agg) (holds_leaf (cTh.agg.h1 _)) (holds_br (B := cTh.agg) (holds_br (B := cTh.agg) (holds_leaf (cTh.agg.h1 _)) (holds_leaf (cTh.agg.h1 _))) (holds_leaf (cTh.agg.h1 _))))
theorem tadd_ctx : Ctx PR (envOf eqsT (taT thO dblW)) [18, 50, 53] (fun _ => none) 40 181 :=
  ctx_of (envOf_ok eqsT_ok (TabPOk.cons dbl_ok tdT_ok)) mixed (fn := Try.f181) (by kernel_rfl) (by kernel_rfl) (by kernel_rfl) (tabOk_none _)
def taddW : Th → Th → Th := addG thO dblW
theorem tadd_ok : CallOk PR 181 (fn2 cTh.agg cTh.agg cTh.agg taddW) :=
  .inl ⟨enters_of (fn := Try.f181) (by kernel_rfl) (by kernel_rfl) (by kernel_rfl), pure2 tadd_ctx (fun p u => tadd_gives thO dblW p u)⟩
end Go.Rq

/- The reference's multiples: contracts. -/
namespace Go.Rq
open Go Go.Proofs

/-- Three outcomes. -/
def kTup3 {α β γ : Type} (A : Cod α) (B : Cod β) (C : Cod γ) (hA : ∀ x, flatA (A.enc x) = some (A.val x)) (hB : ∀ x, flatA (B.enc x) = some (B.val x)) (hC : ∀ x, flatA (C.enc x) = some (C.val x)) : Cod (α × β × γ) where
  enc x := .tup [A.enc x.1, B.enc x.2.1, C.enc x.2.2]
  dec a := match a with
    | .tup [a, b, c] => match A.dec a, B.dec b, C.dec c with
      | some x, some y, some z => some (x, y, z)
      | _, _, _ => none
    | _ => none
  val x := .tuple #[A.val x.1, B.val x.2.1, C.val x.2.2]
  h1 x := by simp [flat, flatsA, hA, hB, hC]
  h2 ρ a v x h r := by
    split at h
    · split at h
      · rename_i p q s hp hq hs
        simp at h; subst h
        obtain ⟨xs, rfl, hx⟩ := r.tup_iff
        obtain ⟨v0, y0, e0, h0, r0⟩ := hx.uncons
        obtain ⟨v1, y1, e1, h1, r1⟩ := r0.uncons
        obtain ⟨v2, y2, e2, h2, r2⟩ := r1.uncons
        have e3 := r2.unnil
        subst e3; subst e2; subst e1
        rw [A.h2 ρ _ _ _ hp h0, B.h2 ρ _ _ _ hq h1, C.h2 ρ _ _ _ hs h2] at e0
        have : xs = #[A.val p, B.val q, C.val s] := by apply Array.ext'; simpa using e0
        rw [this]
      · cases h
    · cases h

/-! The two elements. -/
def kT3 : Cod (D6 × D6 × Bool) := kTup3 c12.agg c12.agg kBool (fun _ => by kernel_rfl) (fun _ => by kernel_rfl) (fun _ => rfl)
theorem twoFlat (a b : D6) (o : Bool) : flat (.tup [c12.agg.enc a, c12.agg.enc b, .lit o]) = some (kT3.val (a, b, o)) := by kernel_rfl
def twT (t : RO) (i2 : D6 → D6) (mu : Th → D6 → D6 → D6) : PureTab := (182, fn3 cTh.agg c12.agg c12.agg c12.agg mu) :: (160, fn1 c12.agg c12.agg i2) :: roT t
def twP (mu : Th → D6 → D6 → D6) (p : Th) (z : D6) : D6 × D6 × Bool := (mu p p.x (mu p z z), mu p p.y (mu p (mu p z z) z), true)
def twA (mu : Th → D6 → D6 → D6) (p : Th) (z : D6) : AV := .tup [c12.agg.enc (twP mu p z).1, c12.agg.enc (twP mu p z).2.1, .lit true]
theorem two_run (t : RO) (i2 : D6 → D6) (mu : Th → D6 → D6 → D6) (p : Th) : (afunR PR (envOf eqsT (twT t i2 mu)) [10, 14] (fun _ => none) 40 146 [cTh.agg.enc p]).strict =
    .br (eqD p.z zeroD) (.leaf (.tup [c12.agg.enc zeroD, c12.agg.enc zeroD, .lit false])) (.br p.one (.leaf (twA mu p ⟨t.iv t.fp p.z.a, zeroW⟩)) (.leaf (twA mu p (i2 p.z)))) := by kernel_rfl
def twG (t : RO) (i2 : D6 → D6) (mu : Th → D6 → D6 → D6) (p : Th) : D6 × D6 × Bool := bif eqD p.z zeroD then (zeroD, zeroD, false) else bif p.one then twP mu p ⟨t.iv t.fp p.z.a, zeroW⟩ else twP mu p (i2 p.z)
theorem two_gives (t : RO) (i2 : D6 → D6) (mu : Th → D6 → D6 → D6) (p : Th) : Gives (afunR PR (envOf eqsT (twT t i2 mu)) [10, 14] (fun _ => none) 40 146 [cTh.agg.enc p]) (kT3.val (twG t i2 mu p)) :=
  givesOf (two_run t i2 mu p) (holds_br (B := kT3) (holds_leaf (twoFlat zeroD zeroD false)) (holds_br (B := kT3) (holds_leaf (twoFlat _ _ true)) (holds_leaf (twoFlat _ _ true))))
theorem two_ctx : Ctx PR (envOf eqsT (twT roO (rinv2G roO) thmW)) [10, 14] (fun _ => none) 40 146 :=
  ctx_of (envOf_ok eqsT_ok (TabPOk.cons thm_ok (TabPOk.cons rinv2_ok roT_ok))) mixed (fn := Try.f146) (by kernel_rfl) (by kernel_rfl) (by kernel_rfl) (tabOk_none _)
def twW : Th → D6 × D6 × Bool := twG roO (rinv2G roO) thmW
theorem two_ok : CallOk PR 146 (fn1 cTh.agg kT3 twW) :=
  .inl ⟨enters_of (fn := Try.f146) (by kernel_rfl) (by kernel_rfl) (by kernel_rfl), pure1 two_ctx (fun p => two_gives roO (rinv2G roO) thmW p)⟩

/-! By the bits of words. -/
structure MO where
  dbl : Th → Th
  ad : Th → Th → Th
def moT (t : MO) : PureTab := [(180, fn1 cTh.agg cTh.agg t.dbl), (181, fn2 cTh.agg cTh.agg cTh.agg t.ad)]
def moO : MO := ⟨dblW, taddW⟩
theorem moT_eq : [(180, fn1 cTh.agg cTh.agg dblW), (181, fn2 cTh.agg cTh.agg cTh.agg taddW)] = moT moO := by kernel_rfl
theorem moT_ok : TabPOk PR (moT moO) := Eq.subst (motive := TabPOk PR) moT_eq (TabPOk.cons dbl_ok (TabPOk.cons tadd_ok TabPOk.nil))
noncomputable def muE (t : MO) : Env := envL eqsT (moT t) [] [] true
theorem muE_ok : EnvOk PR (muE moO) := envL_ok eqsT_ok moT_ok TabHOk.nil TabLOk.nil
def muK : Keep := ⟨[1, 2, 4, 5, 6], [0, 1, 2, 6], 13⟩
@[irreducible] noncomputable def muX (t : MO) (p : Th) (w : W6) (len cap : Nat) : XS := entryOf PR (muE t) [15, 29] (fun _ => none) 10 145 [cTh.agg.enc p, .slc 0 0 len cap] (oneAH c6 47 w) 1 0 muK
@[irreducible] noncomputable def muI (t : MO) (p : Th) (w : W6) (len cap : Nat) (d : Int × Th) : XS := ((muX t p w len cap).setT 6 (.v (.int .i64 d.1))).setB 6 (cTh.enc d.2)
@[irreducible] noncomputable def muC : Code := roundOf PR 145 0

def muCond (z : Int) (len : Nat) : Bool := decide (0 ≤ Int.tmod z 64) && (decide (0 + (quo64 z).toNat * 1 < 6) && (decide (0 ≤ quo64 z ∧ quo64 z < (len : Int)) && true))
def muR (t : MO) (p : Th) (w : W6) (len : Nat) (I : Int × Th → XS) (z : Int) (o : Th) : Tree (AExit × XS) :=
    .br (decide (z ≥ 0))
      (.br (((w.get (0 + (quo64 z).toNat * 1) >>> Nat.min (Int.tmod z 64).toNat 64) &&& bitW true) == bitW true)
        (.need (muCond z len) (.leaf (.normal, I (IntKind.i64.wrap (z - 1), t.ad (t.dbl o) p))))
        (.need (muCond z len) (.leaf (.normal, I (IntKind.i64.wrap (z - 1), t.dbl o)))))
      (.leaf (.exit 0, I (z, o)))
set_option maxRecDepth 100000 in
theorem mu_round (t : MO) (p o : Th) (w : W6) (len cap : Nat) (z : Int) : Tree.but [2] 0 (roundT PR (muE t) [15, 29] (fun _ => none) 10 muK muK muK muC (muI t p w len cap (z, o))) = muR t p w len (muI t p w len cap) z o := by kernel_rfl

def multG (t : MO) (p : Th) (w : W6) : Nat → Th → Th
  | 0, o => o
  | k + 1, o => multG t p w k (bif w.bit k then t.ad (t.dbl o) p else t.dbl o)
def multW (p : Th) (w : W6) (len : Nat) : Th := multG moO p w (64 * len) (noneT p.one)

theorem mu_law (t : MO) (p : Th) (w : W6) (len : Nat) (hlen : len ≤ 6) (rt : XS → Tree (AExit × XS)) (I : Int × Th → XS) (hr : ∀ (z : Int) (o : Th), Tree.but [2] 0 (rt (I (z, o))) = muR t p w len I z o)
    {R : Th} {Q : AExit → XS → Prop} (hK : Q .normal (I (-1, R))) :
    ∀ d : Int × Th, (-1 ≤ d.1 ∧ d.1 < 64 * (len : Int) ∧ multG t p w (d.1 + 1).toNat d.2 = R) → (rt (I d)).holds (fun r => match r.1 with
      | .normal => ∃ j : Int × Th, (-1 ≤ j.1 ∧ j.1 < 64 * (len : Int) ∧ multG t p w (j.1 + 1).toNat j.2 = R) ∧ (j.1 + 1).toNat < (d.1 + 1).toNat ∧ r.2 = I j
      | .exit q => if q = 0 then Q .normal r.2 else Q (.exit q) r.2
      | .ret => Q .ret r.2) := by
  rintro ⟨z, o⟩ ⟨h0, h1, h2⟩
  simp only at h0 h1
  apply Tree.holds_but (l := [2]) (i := 0)
  rw [hr]
  unfold muR
  refine ⟨fun hz => ?_, fun hz => ?_⟩
  · have hz : 0 ≤ z := by simpa using hz
    have hq := quo64_eq (z := z) hz (by omega)
    have hm : Int.tmod z 64 = z % 64 := Int.tmod_eq_emod_of_nonneg hz
    have hw : IntKind.i64.wrap (z - 1) = z - 1 := wrap_id (by omega) (by omega)
    have hc : muCond z len = true := by
      unfold muCond
      rw [hq, hm]
      simp
      omega
    have hk : (z + 1).toNat = z.toNat + 1 := by omega
    have hg : (((w.get (0 + (quo64 z).toNat * 1) >>> Nat.min (Int.tmod z 64).toNat 64) &&& bitW true) == bitW true) = w.bit z.toNat := by
      have e1 : 0 + (quo64 z).toNat * 1 = z.toNat / 64 := by rw [hq]; omega
      have e2 : Nat.min (Int.tmod z 64).toNat 64 = z.toNat % 64 := by rw [hm]; show min _ _ = _; omega
      rw [e1, e2]
      rfl
    rw [hg]
    simp only at h2
    rw [hk] at h2
    simp only [multG] at h2
    have hk' : (z - 1 + 1).toNat = z.toNat := by omega
    refine ⟨fun hb => ⟨hc, ⟨z - 1, t.ad (t.dbl o) p⟩, ⟨by simp only; omega, by simp only; omega, ?_⟩, ?_, ?_⟩, fun hb => ⟨hc, ⟨z - 1, t.dbl o⟩, ⟨by simp only; omega, by simp only; omega, ?_⟩, ?_, ?_⟩⟩
    · rw [hb] at h2
      simp only [hk']
      exact h2
    · show (z - 1 + 1).toNat < (z + 1).toNat
      omega
    · rw [hw]
    · rw [hb] at h2
      simp only [hk']
      exact h2
    · show (z - 1 + 1).toNat < (z + 1).toNat
      omega
    · rw [hw]
  · have hz : z = -1 := by
      have : ¬ 0 ≤ z := by simpa using hz
      omega
    subst hz
    have h2 : o = R := h2
    show (if (0 : Nat) = 0 then Q .normal (I (-1, o)) else Q (.exit 0) (I (-1, o)))
    rw [if_pos rfl, h2]
    exact hK

@[irreducible] noncomputable def muB (t : MO) (p : Th) (w : W6) (len cap : Nat) (r : Th) : BEnt := ⟨muK.tm, muK.ids, muK.n, muX t p w len cap, .leaf (.normal, muI t p w len cap (-1, r))⟩
theorem muB_n (t : MO) (p : Th) (w : W6) (len cap : Nat) (r : Th) : (muB t p w len cap r).n = 13 ∧ (muB t p w len cap r).pre = muX t p w len cap ∧ (muB t p w len cap r).post = .leaf (.normal, muI t p w len cap (-1, r)) := by
  unfold muB
  exact ⟨rfl, rfl, rfl⟩
def afunT (P : Program) (E : Env) (sym : List Tmp) (tab : BTab) (lf f : Nat) (args : List AV) (h : AH) (n : Nat) : Tree AV := (afun P E sym tab lf f args h n).bind fun q => .leaf q.1
theorem givesT {P : Program} {E : Env} {sym : List Tmp} {tab : BTab} {lf f : Nat} {args : List AV} {h : AH} {n : Nat} {u : Tree AV} {v : Value} (e : (afunT P E sym tab lf f args h n).strict = u) (hu : u.holds (fun q => flat q = some v)) :
    GivesH (afun P E sym tab lf f args h n) v := ⟨Tree.holds_bind (Tree.holds_strict (by rw [show ((afun P E sym tab lf f args h n).bind fun q => Tree.leaf q.1).strict = u from e]; exact hu))⟩
set_option maxRecDepth 100000 in
theorem mu_run (t : MO) (p : Th) (w : W6) (len cap : Nat) (r : Th) : (afunT PR (muE t) [15, 29] (tabOf [(0, muB t p w len cap r)]) 10 145 [cTh.agg.enc p, .slc 0 0 len cap] (oneAH c6 47 w) 1).strict =
    .same (muX t p w len cap) (muX t p w len cap) (.leaf (cTh.agg.enc r)) := by kernel_rfl
set_option maxRecDepth 100000 in
theorem mu_head (t : MO) (p : Th) (w : W6) (len cap : Nat) : muX t p w len cap = muI t p w len cap (IntKind.i64.wrap (IntKind.i64.wrap (64 * (len : Int)) - 1), noneT p.one) := by kernel_rfl
theorem mu_blk : blkAll 0 (bodyOf PR 145) = [.loop muC] := by kernel_rfl
theorem mu_codeOk : codeOk (muE moO) muC = true := by kernel_rfl

theorem mu_start (p : Th) (w : W6) (len : Nat) (hlen : len ≤ 6) : ∀ d : Int × Th, d = (IntKind.i64.wrap (IntKind.i64.wrap (64 * (len : Int)) - 1), noneT p.one) → -1 ≤ d.1 ∧ d.1 < 64 * (len : Int) ∧ multG moO p w (d.1 + 1).toNat d.2 = multW p w len := by
  rintro d rfl
  have e1 : IntKind.i64.wrap (64 * (len : Int)) = 64 * (len : Int) := wrap_id (by omega) (by omega)
  have e2 : IntKind.i64.wrap (64 * (len : Int) - 1) = 64 * (len : Int) - 1 := wrap_id (by omega) (by omega)
  rw [e1, e2]
  refine ⟨by simp only; omega, by simp only; omega, ?_⟩
  show multG moO p w (64 * (len : Int) - 1 + 1).toNat (noneT p.one) = multG moO p w (64 * len) (noneT p.one)
  rw [show (64 * (len : Int) - 1 + 1).toNat = 64 * len by omega]

theorem mu_loop (p : Th) (w : W6) (len cap : Nat) (hlen : len ≤ 6) {Fr0 : Fr} {ds : List Deferred} {Q : AExit → XS → Prop} (hK : Q .normal (muI moO p w len cap (-1, multW p w len))) :
    Tri PR Fr0 ds 1 (.block 0 (.loop muC)) (muX moO p w len cap) Q :=
  Eq.subst (motive := fun y => Tri PR Fr0 ds 1 (.block 0 (.loop muC)) y Q) (mu_head moO p w len cap).symm <| blockLoop (m := 1) muE_ok mixed (sym := [15, 29]) (tab := fun _ => none) (lf := 10) (k := muK) (kx := muK) (kr := muK) (by decide) (by decide) (by decide) mu_codeOk (tabOk_none _)
    (muI moO p w len cap) (fun d => -1 ≤ d.1 ∧ d.1 < 64 * (len : Int) ∧ multG moO p w (d.1 + 1).toNat d.2 = multW p w len) (fun d => (d.1 + 1).toNat) _ (mu_start p w len hlen _ rfl)
    (mu_law moO p w len hlen _ (muI moO p w len cap) (fun z o => mu_round moO p o w len cap z) hK)
set_option maxRecDepth 100000
def le6 (n : Nat) : Bool := Nat.ble n 6
theorem mu_okH : HeapOk PR 145 (slv 47 cTh.agg c6 cTh.agg le6 multW) :=
  slv_ok (E := muE moO) (sym := [15, 29]) (lf := 10) (tab := fun p w len cap => tabOf [(0, muB moO p w len cap (multW p w len))]) muE_ok mixed (fn := Try.f145) (c := bodyOf PR 145) (by kernel_rfl) (by kernel_rfl) (by kernel_rfl)
    (fun p w len cap hk => tabOk_one (by rw [(muB_n moO p w len cap (multW p w len)).1]; decide) mu_blk fun Fr0 ds Q h => by
      obtain ⟨-, h2, h3⟩ := muB_n moO p w len cap (multW p w len)
      rw [h3] at h
      rw [h2]
      exact mu_loop p w len cap (Nat.le_of_ble_eq_true hk) h)
    (fun p w len cap _ => givesT (mu_run moO p w len cap (multW p w len)) ⟨rfl, cTh.agg.h1 _⟩)
theorem mu_ent : Enters PR 145 := enters_of (fn := Try.f145) (by kernel_rfl) (by kernel_rfl) (by kernel_rfl)
end Go.Rq

/- The reference's multiples of a point by a number: contracts; the law's own function. -/
namespace Go.Rq
open Go Go.Proofs

/-! A number's words, without noughts at the end. -/
def wdK (ln : W6 → Int) (n : W6) : Int := quo64 (IntKind.i64.wrap (ln n + 63))
def wdL (ln : W6 → Int) (n : W6) : Nat := (wdK ln n).toNat - 0
def wdCond (k : Int) : Bool := (decide (0 ≤ k ∧ k ≤ ((6 : Nat) : Int)) && decide ((0 : Int) ≤ 0 ∧ (0 : Int) ≤ k)) && true
def wdT (ln : W6 → Int) : PureTab := [(147, fn1 c6.agg (kInt .i64) ln)]
theorem words_run (ln : W6 → Int) (n : W6) : Tree.but [2] 0 (afunS PR (envOf eqsT (wdT ln)) [] 40 98 47 [c6.agg.enc n]) =
    .need (wdCond (wdK ln n)) (.leaf (.tup [.slc 0 0 (wdL ln n) 6, .agg (c6.enc n)])) := by kernel_rfl
theorem words_ctx : Ctx PR (envOf eqsT (wdT rlenI)) [] (fun _ => none) 40 98 :=
  ctx_of (envOf_ok eqsT_ok (TabPOk.cons rlen_ok TabPOk.nil)) mixed (fn := Try.f98) (by kernel_rfl) (by kernel_rfl) (by kernel_rfl) (tabOk_none _)
theorem wdK_eq (n : W6) : wdK rlenI n = (rlenI n + 63) / 64 := by
  have h := rlenI_le n
  unfold wdK quo64
  rw [wrap_id (n := rlenI n + 63) (by omega) (by omega), Int.tdiv_eq_ediv_of_nonneg (by omega), wrap_id (by omega) (by omega)]
theorem wdL_eq (n : W6) : wdL rlenI n = (rlenI n).toNat / 64 + (if (rlenI n).toNat % 64 = 0 then 0 else 1) := by
  have h := rlenI_le n
  unfold wdL
  rw [wdK_eq]
  split <;> omega
theorem wdL_le (n : W6) : wdL rlenI n ≤ 6 ∧ (rlenI n).toNat ≤ 64 * wdL rlenI n := by
  have h := rlenI_le n
  unfold wdL
  rw [wdK_eq]
  omega
theorem words_okL : LayOk PR 98 (layS c6.agg 47 c6 (wdL rlenI) 6 (fun n => n)) :=
  layS_ok words_ctx fun n => Tree.holds_but (l := [2]) (i := 0) (by
    rw [words_run]
    refine ⟨?_, rfl⟩
    have h := rlenI_le n
    unfold wdCond
    rw [wdK_eq]
    simp
    omega)
theorem words_ent : Enters PR 98 := enters_of (fn := Try.f98) (by kernel_rfl) (by kernel_rfl) (by kernel_rfl)

/-! A point by words. -/
def thOf (p : Ap W6) : Th := ⟨⟨p.x, zeroW⟩, ⟨p.y, zeroW⟩, ⟨numOne, zeroW⟩, true⟩
def maT (tw : Th → D6 × D6 × Bool) : PureTab := [(146, fn1 cTh.agg kT3 tw)]
noncomputable def maE (tw : Th → D6 × D6 × Bool) (ok : Nat → Bool) (mu : Th → W6 → Nat → Th) : Env := envL eqsT (maT tw) [(145, slv 47 cTh.agg c6 cTh.agg ok mu)] [] false
set_option maxRecDepth 100000 in
theorem many_run (tw : Th → D6 × D6 × Bool) (ok : Nat → Bool) (mu : Th → W6 → Nat → Th) (p : Ap W6) (w : W6) (len cap : Nat) : Tree.but [3] 0 (afunT PR (maE tw ok mu) [10, 33] (fun _ => none) 40 97 [aW.agg.enc p, .slc 0 0 len cap] (oneAH c6 47 w) 1) =
    .br p.zero (.leaf (aW.agg.enc p)) (.need (ok len && true) (.br (!(tw (mu (thOf p) w len)).2.2) (.leaf (apA ⟨zeroW, zeroW, true⟩ true)) (.leaf (apA ⟨(tw (mu (thOf p) w len)).1.a, (tw (mu (thOf p) w len)).2.1.a, false⟩ false)))) := by kernel_rfl
def manyG (tw : Th → D6 × D6 × Bool) (mu : Th → W6 → Nat → Th) (p : Ap W6) (w : W6) (len : Nat) : Ap W6 :=
  bif p.zero then p else bif !(tw (mu (thOf p) w len)).2.2 then ⟨zeroW, zeroW, true⟩ else ⟨(tw (mu (thOf p) w len)).1.a, (tw (mu (thOf p) w len)).2.1.a, false⟩
theorem givesU {P : Program} {E : Env} {sym : List Tmp} {tab : BTab} {lf f : Nat} {args : List AV} {h : AH} {n : Nat} {l : List Nat} {u : Tree AV} {v : Value} (e : Tree.but l 0 (afunT P E sym tab lf f args h n) = u) (hu : u.holds (fun q => flat q = some v)) :
    GivesH (afun P E sym tab lf f args h n) v := ⟨Tree.holds_bind (Tree.holds_but (l := l) (i := 0) (by rw [show Tree.but l 0 ((afun P E sym tab lf f args h n).bind fun q => Tree.leaf q.1) = u from e]; exact hu))⟩
theorem many_gives (tw : Th → D6 × D6 × Bool) (ok : Nat → Bool) (mu : Th → W6 → Nat → Th) (p : Ap W6) (w : W6) (len cap : Nat) (hk : ok len = true) :
    GivesH (afun PR (maE tw ok mu) [10, 33] (fun _ => none) 40 97 [aW.agg.enc p, .slc 0 0 len cap] (oneAH c6 47 w) 1) (aW.agg.val (manyG tw mu p w len)) :=
  givesU (many_run tw ok mu p w len cap) (holds_br (B := aW.agg) (holds_leaf (aW.agg.h1 _)) ⟨by rw [hk]; rfl, holds_br (B := aW.agg) (holds_leaf (apA_flat _ _ rfl)) (holds_leaf (apA_flat _ _ rfl))⟩)
theorem maE_ok : EnvOk PR (maE twW le6 multW) := envL_ok eqsT_ok (TabPOk.cons two_ok TabPOk.nil) (TabHOk.cons mu_ent mu_okH TabHOk.nil) TabLOk.nil
def manyW : Ap W6 → W6 → Nat → Ap W6 := manyG twW multW
theorem many_okH : HeapOk PR 97 (slv 47 aW.agg c6 aW.agg le6 manyW) :=
  slv_ok (E := maE twW le6 multW) (sym := [10, 33]) (lf := 40) (tab := fun _ _ _ _ => fun _ => none) maE_ok mixed (fn := Try.f97) (c := bodyOf PR 97) (by kernel_rfl) (by kernel_rfl) (by kernel_rfl)
    (fun _ _ _ _ _ => tabOk_none _) (fun p w len cap hk => many_gives twW le6 multW p w len cap hk)
theorem many_ent : Enters PR 97 := enters_of (fn := Try.f97) (by kernel_rfl) (by kernel_rfl) (by kernel_rfl)

/-! A point by a number. -/
noncomputable def mlE (ok : Nat → Bool) (ma : Ap W6 → W6 → Nat → Ap W6) (L : W6 → Nat) : Env :=
  envL eqsT [] [(97, slv 47 aW.agg c6 aW.agg ok ma)] [(98, layS c6.agg 47 c6 L 6 (fun n => n))] false
theorem mul1_run (ok : Nat → Bool) (ma : Ap W6 → W6 → Nat → Ap W6) (L : W6 → Nat) (p : Ap W6) (n : W6) : Tree.but [1] 0 (afunR PR (mlE ok ma L) [] (fun _ => none) 40 41 [aW.agg.enc p, c6.agg.enc n]) =
    .need (ok (L n) && true) (.leaf (aW.agg.enc (ma p n (L n)))) := by kernel_rfl
theorem mlE_ok : EnvOk PR (mlE le6 manyW (wdL rlenI)) := envL_ok eqsT_ok TabPOk.nil (TabHOk.cons many_ent many_okH TabHOk.nil) (TabLOk.cons words_ent words_okL TabLOk.nil)
theorem mul1_ctx : Ctx PR (mlE le6 manyW (wdL rlenI)) [] (fun _ => none) 40 41 :=
  ctx_of mlE_ok mixed (fn := Try.f41) (by kernel_rfl) (by kernel_rfl) (by kernel_rfl) (tabOk_none _)
theorem givesB {t u : Tree AV} {v : Value} {l : List Nat} (e : Tree.but l 0 t = u) (hu : u.holds (fun q => flat q = some v)) : Gives t v := ⟨Tree.holds_but (l := l) (i := 0) (by rw [e]; exact hu)⟩
theorem mul1_gives (ok : Nat → Bool) (ma : Ap W6 → W6 → Nat → Ap W6) (L : W6 → Nat) (p : Ap W6) (n : W6) (h : ok (L n) = true) : Gives (afunR PR (mlE ok ma L) [] (fun _ => none) 40 41 [aW.agg.enc p, c6.agg.enc n]) (aW.agg.val (ma p n (L n))) :=
  givesB (mul1_run ok ma L p n) ⟨by rw [h]; rfl, aW.agg.h1 _⟩
def rmul1 (p : Ap W6) (n : W6) : Ap W6 := manyW p n (wdL rlenI n)
theorem rmul1_ok : CallOk PR 41 (fn2 aW.agg c6.agg aW.agg rmul1) :=
  .inl ⟨enters_of (fn := Try.f41) (by kernel_rfl) (by kernel_rfl) (by kernel_rfl), pure2 mul1_ctx (fun p n => mul1_gives le6 manyW (wdL rlenI) p n (Nat.ble_eq_true_of_le (wdL_le n).1))⟩

/-! Is it of the group? -/
def rinT1 (ck : Ap W6 → Bool) (od : W6) (ml : Ap W6 → W6 → Ap W6) : PureTab := [(29, fn1 aW.agg kBool ck), (89, fn0 c6.agg od), (41, fn2 aW.agg c6.agg aW.agg ml)]
theorem rin1_run (ck : Ap W6 → Bool) (od : W6) (ml : Ap W6 → W6 → Ap W6) (p : Ap W6) : (afunR PR (envOf eqsT (rinT1 ck od ml)) [5] (fun _ => none) 40 32 [aW.agg.enc p]).strict =
    .br (ck p) (.leaf (kBool.enc (ml p od).zero)) (.leaf (.lit false)) := by kernel_rfl
def rin1G (ck : Ap W6 → Bool) (od : W6) (ml : Ap W6 → W6 → Ap W6) (p : Ap W6) : Bool := bif ck p then (ml p od).zero else false
theorem rin1_gives (ck : Ap W6 → Bool) (od : W6) (ml : Ap W6 → W6 → Ap W6) (p : Ap W6) : Gives (afunR PR (envOf eqsT (rinT1 ck od ml)) [5] (fun _ => none) 40 32 [aW.agg.enc p]) (kBool.val (rin1G ck od ml p)) :=
  givesOf (rin1_run ck od ml p) (holds_br (B := kBool) (holds_leaf (kBool.h1 _)) (holds_leaf (a := .lit false) (v := kBool.val false) rfl))
def rin1 : Ap W6 → Bool := rin1G rcheck1 orderW rmul1
theorem rin1_ctx : Ctx PR (envOf eqsT (rinT1 rcheck1 orderW rmul1)) [5] (fun _ => none) 40 32 :=
  ctx_of (envOf_ok eqsT_ok (TabPOk.cons rck_ok (TabPOk.cons rorder_ok (TabPOk.cons rmul1_ok TabPOk.nil)))) mixed (fn := Try.f32) (by kernel_rfl) (by kernel_rfl) (by kernel_rfl) (tabOk_none _)
theorem rin1_ok : CallOk PR 32 (fn1 aW.agg kBool rin1) :=
  .inl ⟨enters_of (fn := Try.f32) (by kernel_rfl) (by kernel_rfl) (by kernel_rfl), pure1 rin1_ctx (fun p => rin1_gives rcheck1 orderW rmul1 p)⟩

/-! Is what is told the wanted one? -/
def fn4 {α γ δ ε β : Type} (A : Cod α) (C : Cod γ) (D : Cod δ) (E : Cod ε) (B : Cod β) (F : α → γ → δ → ε → β) : List AV → Option (Bool × AV)
  | [a, c, d, e] => match A.dec a, C.dec c, D.dec d, E.dec e with
    | some x, some y, some z, some u => some (true, B.enc (F x y z u))
    | _, _, _, _ => none
  | _ => none
theorem pure4 {P : Program} {E : Env} {sym : List Tmp} {tab : BTab} {lf f : Nat} {α β γ δ ε : Type} {A : Cod α} {B : Cod β} {C : Cod γ} {D : Cod δ} {D' : Cod ε} (X : Ctx P E sym tab lf f) {F : α → γ → δ → ε → β}
    (h : ∀ x y z u, Gives (afunR P E sym tab lf f [A.enc x, C.enc y, D.enc z, D'.enc u]) (B.val (F x y z u))) : PureOk P f (fn4 A C D D' B F) := by
  refine pure_core X fun args r hg => ?_
  unfold fn4 at hg
  split at hg
  · rename_i a c d e
    split at hg
    · rename_i x y z u hx hy hz hu
      simp at hg; subst hg
      refine ⟨[A.enc x, C.enc y, D.enc z, D'.enc u], [A.val x, C.val y, D.val z, D'.val u], fun ρ xs hxs => ?_, by simp [flatL, A.h1, C.h1, D.h1, D'.h1], _, B.h1 _, (h x y z u).out⟩
      obtain ⟨v0, y0, rfl, h0, r0⟩ := hxs.uncons
      obtain ⟨v1, y1, rfl, h1, r1⟩ := r0.uncons
      obtain ⟨v2, y2, rfl, h2, r2⟩ := r1.uncons
      obtain ⟨v3, y3, rfl, h3, r3⟩ := r2.uncons
      rw [r3.unnil, A.h2 ρ _ _ _ hx h0, C.h2 ρ _ _ _ hy h1, D.h2 ρ _ _ _ hz h2, D'.h2 ρ _ _ _ hu h3]
    · cases hg
  · cases hg
def noneP : Ap W6 := ⟨zeroW, zeroW, false⟩
theorem onl1_run (p : Ap W6) (e : Int) (f : Bool) (w : Ap W6) : (afunR PR (envOf eqsT []) [10, 14, 21] (fun _ => none) 40 38 [aW.agg.enc p, (kInt .i64).enc e, kBool.enc f, aW.agg.enc w]).strict =
    .br (!f) (.br (eqP13 p noneP) (.leaf (kBool.enc (e == 5))) (.leaf (.lit false))) (.br (eqP13 p w) (.leaf (kBool.enc (e == 0))) (.leaf (.lit false))) := by kernel_rfl
def oneG (p : Ap W6) (e : Int) (f : Bool) (w : Ap W6) : Bool := bif !f then (bif eqP13 p noneP then e == 5 else false) else (bif eqP13 p w then e == 0 else false)
theorem onl1_ctx : Ctx PR (envOf eqsT []) [10, 14, 21] (fun _ => none) 40 38 :=
  ctx_of (envOf_ok eqsT_ok TabPOk.nil) mixed (fn := Try.f38) (by kernel_rfl) (by kernel_rfl) (by kernel_rfl) (tabOk_none _)
theorem onl1_ok : CallOk PR 38 (fn4 aW.agg (kInt .i64) kBool aW.agg kBool oneG) :=
  .inl ⟨enters_of (fn := Try.f38) (by kernel_rfl) (by kernel_rfl) (by kernel_rfl), pure4 onl1_ctx (fun p e f w => givesOf (onl1_run p e f w)
    (holds_br (B := kBool) (holds_br (B := kBool) (holds_leaf (kBool.h1 _)) (holds_leaf (a := .lit false) (v := kBool.val false) rfl)) (holds_br (B := kBool) (holds_leaf (kBool.h1 _)) (holds_leaf (a := .lit false) (v := kBool.val false) rfl))))⟩
end Go.Rq

/- The curves' negations, and the second group's tests: kernel checks. Written by a program of ours. -/
namespace Go.Rq
open Go Go.Proofs

set_option maxRecDepth 100000 in
theorem below2_run (l : W6 → Bool) (p : Ap D6) : (afunR PR (envOf eqsT [(130, fn1 c6.agg kBool l)]) [7, 13, 19] (fun _ => none) 40 101 [aD.agg.enc p]).strict =
    .br (l p.x.a) (.br (l p.x.b) (.br (l p.y.a) (.leaf (kBool.enc (l p.y.b))) (.leaf (.lit false))) (.leaf (.lit false))) (.leaf (.lit false)) := by kernel_rfl


set_option maxRecDepth 100000 in
theorem neg1_run (ck : Ap W6 → Bool) (fi : Fl W6) (inn ou : Ap W6 → Ap W6) (ne : Fl W6 → Ap W6 → Ap W6) (p : Ap W6) :
    (afunR PR (envOf eqsT [(30, fn1 aW.agg kBool ck), (85, fn0 flW.agg fi), (87, fn1 aW.agg aW.agg inn), (91, fn1 aW.agg aW.agg ou), (92, fn2 flW.agg aW.agg aW.agg ne)]) [6] (fun _ => none) 40 35 [aW.agg.enc p]).strict =
    .br (!(ck p)) (.leaf (.tup [.agg (c6.enc zeroW ++ (c6.enc zeroW ++ [.lit false])), .v (.int .i64 5)])) (.leaf (.tup [aW.agg.enc (ou (ne fi (inn p))), .v (.int .i64 0)])) := by kernel_rfl


set_option maxRecDepth 100000 in
theorem neg2_run (ck : Ap D6 → Bool) (fi : Fl D6) (inn ou : Ap D6 → Ap D6) (ne : Fl D6 → Ap D6 → Ap D6) (p : Ap D6) :
    (afunR PR (envOf eqsT [(43, fn1 aD.agg kBool ck), (102, fn0 flD.agg fi), (104, fn1 aD.agg aD.agg inn), (106, fn1 aD.agg aD.agg ou), (107, fn2 flD.agg aD.agg aD.agg ne)]) [6] (fun _ => none) 40 48 [aD.agg.enc p]).strict =
    .br (!(ck p)) (.leaf (.tup [.agg (c12.enc zero2 ++ (c12.enc zero2 ++ [.lit false])), .v (.int .i64 5)])) (.leaf (.tup [aD.agg.enc (ou (ne fi (inn p))), .v (.int .i64 0)])) := by kernel_rfl

end Go.Rq

/- The curves' negations, and the second group's tests: contracts. Written by a program of ours. -/
namespace Go.Rq
open Go Go.Proofs

def kPW : Cod (Ap W6 × Int) := kTup aW.agg (kInt .i64) (fun _ => by kernel_rfl) (fun _ => rfl)
def kPD : Cod (Ap D6 × Int) := kTup aD.agg (kInt .i64) (fun _ => by kernel_rfl) (fun _ => rfl)
theorem noneFlatW : flat (.tup [.agg (c6.enc zeroW ++ (c6.enc zeroW ++ [.lit false])), .v (.int .i64 5)]) = some (kPW.val (⟨zeroW, zeroW, false⟩, 5)) := by kernel_rfl
theorem noneFlatD : flat (.tup [.agg (c12.enc zero2 ++ (c12.enc zero2 ++ [.lit false])), .v (.int .i64 5)]) = some (kPD.val (⟨zero2, zero2, false⟩, 5)) := by kernel_rfl
def belowP2 (p : Ap D6) : Bool := bif belowI p.x.a then (bif belowI p.x.b then (bif belowI p.y.a then belowI p.y.b else false) else false) else false
def checkP2 (p : Ap D6) : Bool := bif belowP2 p then onE fD eqD fld2 (inP2 p) else false
def inGroup2 (p : Ap D6) : Bool := bif belowP2 p then inED fld2 (inP2 p) else false

def tt_belowp2 : PureTab := [(130, fn1 c6.agg kBool belowI)]
theorem tt_belowp2_ok : TabPOk PR tt_belowp2 := TabPOk.cons below_ok (TabPOk.nil)
theorem belowp2_ctx : Ctx PR (envOf eqsT tt_belowp2) [7, 13, 19] (fun _ => none) 40 101 :=
  ctx_of (envOf_ok eqsT_ok tt_belowp2_ok) mixed (fn := Try.f101) (by kernel_rfl) (by kernel_rfl) (by kernel_rfl) (tabOk_none _)
theorem belowp2_ok : CallOk PR 101 (fn1 aD.agg kBool belowP2) :=
  .inl ⟨enters_of (fn := Try.f101) (by kernel_rfl) (by kernel_rfl) (by kernel_rfl), pure1 belowp2_ctx (fun p => givesOf (below2_run belowI p) (holds_br (B := kBool) (holds_br (B := kBool) (holds_br (B := kBool) (holds_leaf (kBool.h1 _)) (holds_leaf (a := .lit false) (v := kBool.val false) rfl)) (holds_leaf (a := .lit false) (v := kBool.val false) rfl)) (holds_leaf (a := .lit false) (v := kBool.val false) rfl)))⟩

def tt_checkp2 : PureTab := [(101, fn1 aD.agg kBool belowP2), (102, fn0 flD.agg fld2), (104, fn1 aD.agg aD.agg inP2), (103, fn2 flD.agg aD.agg kBool (onE fD eqD))]
theorem tt_checkp2_ok : TabPOk PR tt_checkp2 := TabPOk.cons belowp2_ok (TabPOk.cons second_ok (TabPOk.cons inp2_ok (TabPOk.cons onD_ok (TabPOk.nil))))
theorem checkp2_ctx : Ctx PR (envOf eqsT tt_checkp2) [5] (fun _ => none) 40 43 :=
  ctx_of (envOf_ok eqsT_ok tt_checkp2_ok) mixed (fn := Try.f43) (by kernel_rfl) (by kernel_rfl) (by kernel_rfl) (tabOk_none _)
theorem checkp2_ok : CallOk PR 43 (fn1 aD.agg kBool checkP2) :=
  .inl ⟨enters_of (fn := Try.f43) (by kernel_rfl) (by kernel_rfl) (by kernel_rfl), pure1 checkp2_ctx (fun p => givesOf (check2_run belowP2 fld2 inP2 (onE fD eqD) p) (holds_br (B := kBool) (holds_leaf (kBool.h1 _)) (holds_leaf (a := .lit false) (v := kBool.val false) rfl)))⟩

def tt_isinp2 : PureTab := [(101, fn1 aD.agg kBool belowP2), (102, fn0 flD.agg fld2), (104, fn1 aD.agg aD.agg inP2), (105, fn2 flD.agg aD.agg kBool inED)]
theorem tt_isinp2_ok : TabPOk PR tt_isinp2 := TabPOk.cons belowp2_ok (TabPOk.cons second_ok (TabPOk.cons inp2_ok (TabPOk.cons isD_ok (TabPOk.nil))))
theorem isinp2_ctx : Ctx PR (envOf eqsT tt_isinp2) [5] (fun _ => none) 40 44 :=
  ctx_of (envOf_ok eqsT_ok tt_isinp2_ok) mixed (fn := Try.f44) (by kernel_rfl) (by kernel_rfl) (by kernel_rfl) (tabOk_none _)
theorem isinp2_ok : CallOk PR 44 (fn1 aD.agg kBool inGroup2) :=
  .inl ⟨enters_of (fn := Try.f44) (by kernel_rfl) (by kernel_rfl) (by kernel_rfl), pure1 isinp2_ctx (fun p => givesOf (isin2_run belowP2 fld2 inP2 inED p) (holds_br (B := kBool) (holds_leaf (kBool.h1 _)) (holds_leaf (a := .lit false) (v := kBool.val false) rfl)))⟩

def negP1 (p : Ap W6) : Ap W6 × Int := bif !(checkP1 p) then (⟨zeroW, zeroW, false⟩, 5) else (outP1 (negE fW (inP1 p)), 0)

def negFW : Fl W6 → Ap W6 → Ap W6 := fun _ p => negE fW p
theorem negFW_ok : CallOk PR 92 (fn2 flW.agg aW.agg aW.agg negFW) := neW_ok

def tt_negp1 : PureTab := [(30, fn1 aW.agg kBool checkP1), (85, fn0 flW.agg fld1), (87, fn1 aW.agg aW.agg inP1), (91, fn1 aW.agg aW.agg outP1), (92, fn2 flW.agg aW.agg aW.agg negFW)]
theorem tt_negp1_ok : TabPOk PR tt_negp1 := TabPOk.cons checkp1_ok (TabPOk.cons first_ok (TabPOk.cons inp1_ok (TabPOk.cons outp1_ok (TabPOk.cons negFW_ok (TabPOk.nil)))))
theorem negp1_ctx : Ctx PR (envOf eqsT tt_negp1) [6] (fun _ => none) 40 35 :=
  ctx_of (envOf_ok eqsT_ok tt_negp1_ok) mixed (fn := Try.f35) (by kernel_rfl) (by kernel_rfl) (by kernel_rfl) (tabOk_none _)
theorem negp1_ok : CallOk PR 35 (fn1 aW.agg kPW negP1) :=
  .inl ⟨enters_of (fn := Try.f35) (by kernel_rfl) (by kernel_rfl) (by kernel_rfl), pure1 negp1_ctx (fun p => givesOf (neg1_run checkP1 fld1 inP1 outP1 negFW p) (holds_br (B := kPW) (holds_leaf noneFlatW) (holds_leaf (kPW.h1 (outP1 (negE fW (inP1 p)), 0)))))⟩

def negP2 (p : Ap D6) : Ap D6 × Int := bif !(checkP2 p) then (⟨zero2, zero2, false⟩, 5) else (outP2 (negE fD (inP2 p)), 0)

def negFD : Fl D6 → Ap D6 → Ap D6 := fun _ p => negE fD p
theorem negFD_ok : CallOk PR 107 (fn2 flD.agg aD.agg aD.agg negFD) := neD_ok

def tt_negp2 : PureTab := [(43, fn1 aD.agg kBool checkP2), (102, fn0 flD.agg fld2), (104, fn1 aD.agg aD.agg inP2), (106, fn1 aD.agg aD.agg outP2), (107, fn2 flD.agg aD.agg aD.agg negFD)]
theorem tt_negp2_ok : TabPOk PR tt_negp2 := TabPOk.cons checkp2_ok (TabPOk.cons second_ok (TabPOk.cons inp2_ok (TabPOk.cons outp2_ok (TabPOk.cons negFD_ok (TabPOk.nil)))))
theorem negp2_ctx : Ctx PR (envOf eqsT tt_negp2) [6] (fun _ => none) 40 48 :=
  ctx_of (envOf_ok eqsT_ok tt_negp2_ok) mixed (fn := Try.f48) (by kernel_rfl) (by kernel_rfl) (by kernel_rfl) (tabOk_none _)
theorem negp2_ok : CallOk PR 48 (fn1 aD.agg kPD negP2) :=
  .inl ⟨enters_of (fn := Try.f48) (by kernel_rfl) (by kernel_rfl) (by kernel_rfl), pure1 negp2_ctx (fun p => givesOf (neg2_run checkP2 fld2 inP2 outP2 negFD p) (holds_br (B := kPD) (holds_leaf noneFlatD) (holds_leaf (kPD.h1 (outP2 (negE fD (inP2 p)), 0)))))⟩

end Go.Rq
