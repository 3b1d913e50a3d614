/- Points as bytes: the bytes of a number, flags. -/
import Derived.Test.YtdbcjiggimppdaaGreatRq19
import Derived.Test.YtdbcjiggimppdaaGreatRq11
import Derived.Test.YtdbcjiggimppdaaGreatRq17
import Derived.Test.YtdbcjiggimppdaaGreatRq14
namespace Go.Rq
open Go Go.Proofs

/-- The byte of a number at a place, the greatest first. -/
def byW (x : W6) (i : Nat) : Int := IntKind.u8.wrap (Int.ofNat ((x.get ((47 - i) / 8)) >>> (8 * ((47 - i) % 8))).toNat)
noncomputable def byE : Env := envA eqsT [] [] [] [] [] [] true []
theorem byE_ok : EnvOk PR byE := envA_ok eqsT_ok TabPOk.nil TabHOk.nil TabLOk.nil TabAOk.nil
theorem by_ctx : Ctx PR byE [] (fun _ => none) 60 40 :=
  ctx_of byE_ok mixed (fn := Tryz.f40) (by kernel_rfl) (by kernel_rfl) (by kernel_rfl) (tabOk_none _)
set_option maxRecDepth 1000000 in
theorem by_run (x : W6) : (afunN PR byE [] 60 40 5 [c6.agg.enc x]).strict = .leaf (.tup [.slc 0 0 48 48, .agg ((cBy 48).enc (byW x))]) := by kernel_rfl
theorem by_ent : Enters PR 40 := enters_of (fn := Tryz.f40) (by kernel_rfl) (by kernel_rfl) (by kernel_rfl)
theorem by_okL : LayOk PR 40 (layN c6.agg 5 (cBy 48) (fun _ => true) (.slc 0 0 48 48) byW) :=
  layN_ok by_ctx (fun x _ => Tree.holds_strict (by rw [by_run]; rfl))

/-! Flags. -/
def or8 (x y : Int) : Int := IntKind.u8.wrap (((BitVec.ofInt IntKind.u8.bits x ||| BitVec.ofInt IntKind.u8.bits y).toNat : Nat) : Int)
def flag (z u : Bool) (x : Int) : Int := bif z then or8 (or8 x 128) 64 else bif u then or8 (or8 x 128) 32 else or8 x 128
def mkB (p : Bool × Bool) (b : Nat → Int) (i : Nat) : Int := match i with
  | 0 => flag p.1 p.2 (b 0)
  | i + 1 => b (i + 1)
def mkLeaf (s : SlA) (x : Int) (b : Nat → Int) (n : Nat) : Tree AV := .leaf (.tup [s.at 0, .agg (.v (.int .u8 x) :: bytL b 1 n)])
def mkTree (s : SlA) (z u : Bool) (b : Nat → Int) (n : Nat) : Tree AV := .br z (mkLeaf s (or8 (or8 (b 0) 128) 64) b n) (.br u (mkLeaf s (or8 (or8 (b 0) 128) 32) b n) (mkLeaf s (or8 (b 0) 128) b n))
theorem bytL_congr {b c : Nat → Int} : ∀ (n j : Nat), (∀ i, j ≤ i → b i = c i) → bytL b j n = bytL c j n
  | 0, j, _ => rfl
  | n + 1, j, h => by
    simp only [bytL]
    rw [h j (Nat.le_refl _), bytL_congr n (j + 1) (fun i hi => h i (by omega))]
theorem mk_enc (p : Bool × Bool) (b : Nat → Int) (n : Nat) : (cBy (n + 1)).enc (mkB p b) = .v (.int .u8 (flag p.1 p.2 (b 0))) :: bytL b 1 n := by
  show .v (.int .u8 (flag p.1 p.2 (b 0))) :: bytL (mkB p b) 1 n = _
  rw [bytL_congr n 1 (b := mkB p b) (c := b) (fun i hi => by
    match i, hi with
    | i + 1, _ => rfl)]
theorem mkTree_ok (s : SlA) (z u : Bool) (b : Nat → Int) (n : Nat) : (mkTree s z u b n).holds (fun a => a = .tup [s.at 0, .agg ((cBy (n + 1)).enc (mkB (z, u) b))]) := by
  unfold mkTree mkLeaf
  refine ⟨fun hz => ?_, fun hz => ⟨fun hu => ?_, fun hu => ?_⟩⟩
  · rw [mk_enc, hz]; rfl
  · rw [mk_enc, hz, hu]; rfl
  · rw [mk_enc, hz, hu]; rfl
set_option maxRecDepth 1000000 in
theorem mk1_run (b : Nat → Int) (z u : Bool) : (afunW PR byE [12, 19] 60 39 5 [(SlA.slc 48).at 0, kBool.enc z, kBool.enc u] ((cBy 48).enc b)).strict = mkTree (.slc 48) z u b 47 := by kernel_rfl
set_option maxRecDepth 1000000 in
theorem mk2_run (b : Nat → Int) (z u : Bool) : (afunW PR byE [12, 19] 60 39 5 [(SlA.own 1 96).at 0, kBool.enc z, kBool.enc u] ((cBy 96).enc b)).strict = mkTree (.own 1 96) z u b 95 := by kernel_rfl
theorem mk_ent : Enters PR 39 := enters_of (fn := Tryz.f39) (by kernel_rfl) (by kernel_rfl) (by kernel_rfl)
theorem mk1_ok : HeapOk PR 39 (wrS (.slc 48) 5 (cBy 48) (mc2 kBool kBool) mkB) :=
  wrS_ok byE_ok mixed (sym := [12, 19]) (lf := 60) (fn := Tryz.f39) (c := bodyOf PR 39) (by kernel_rfl) (by kernel_rfl) (by kernel_rfl)
    (fun z w => Tree.holds_strict (by
      have h := mk1_run w z.1 z.2
      rw [show (mc2 kBool kBool).enc z = [kBool.enc z.1, kBool.enc z.2] from rfl, h]
      exact mkTree_ok (.slc 48) z.1 z.2 w 47))
theorem mk2_ok : HeapOk PR 39 (wrS (.own 1 96) 5 (cBy 96) (mc2 kBool kBool) mkB) :=
  wrS_ok byE_ok mixed (sym := [12, 19]) (lf := 60) (fn := Tryz.f39) (c := bodyOf PR 39) (by kernel_rfl) (by kernel_rfl) (by kernel_rfl)
    (fun z w => Tree.holds_strict (by
      have h := mk2_run w z.1 z.2
      rw [show (mc2 kBool kBool).enc z = [kBool.enc z.1, kBool.enc z.2] from rfl, h]
      exact mkTree_ok (.own 1 96) z.1 z.2 w 95))

/-! Which of two roots. -/
def halfW : W6 := ⟨0xdcff7fffffffd555#64, 0x0f55ffff58a9ffff#64, 0xb39869507b587b12#64, 0xb23ba5c279c2895f#64, 0x258dd3db21a5d66b#64, 0x0d0088f51cbff34d#64⟩
def shr1 (a : W6) : W6 := ⟨a.w1 <<< 63 ||| a.w0 >>> 1, a.w2 <<< 63 ||| a.w1 >>> 1, a.w3 <<< 63 ||| a.w2 >>> 1, a.w4 <<< 63 ||| a.w3 >>> 1, a.w5 <<< 63 ||| a.w4 >>> 1, 0#64 ||| a.w5 >>> 1⟩
set_option maxRecDepth 100000 in
theorem shr1_run (a : W6) : (afunR PR (envOf eqsT []) [] (fun _ => none) 40 44 [c6.agg.enc a, (kInt .i64).enc (-1)]).strict = .leaf (c6.agg.enc (shr1 a)) := by kernel_rfl
theorem shr1_ok : CallOk PR 44 (fn2 c6.agg (kAt .i64 (-1)) c6.agg (fun a _ => shr1 a)) :=
  .inl ⟨enters_of (fn := Tryz.f44) (by kernel_rfl) (by kernel_rfl) (by kernel_rfl), pure2 (C := kAt .i64 (-1)) shift_ctx (fun a _ => leafVal (B := c6.agg) (y := shr1 a) (shr1_run a))⟩
def abT (C : W6 → W6 → Int) : PureTab := [(49, fn2 c6.agg c6.agg (kInt .i64) C), (50, fn0 c6.agg primeW), (44, fn2 c6.agg (kAt .i64 (-1)) c6.agg (fun a _ => shr1 a))]
noncomputable def abE (C : W6 → W6 → Int) : Env := envOf eqsT (abT C)
set_option maxRecDepth 1000000 in
theorem above_run (C : W6 → W6 → Int) (x : W6) : (afunR PR (abE C) [] (fun _ => none) 40 69 [c6.agg.enc x]).strict = .leaf (kBool.enc (decide (C x (shr1 primeW) > 0))) := by kernel_rfl
def aboveW (x : W6) : Bool := decide (chainV (cmpL x (shr1 primeW)) 0 > 0)
theorem abE_ok : EnvOk PR (abE fun a b => chainV (cmpL a b) 0) := envOf_ok eqsT_ok (TabPOk.cons cmp_ok (TabPOk.cons base_ok (TabPOk.cons shr1_ok TabPOk.nil)))
theorem above_ctx : Ctx PR (abE fun a b => chainV (cmpL a b) 0) [] (fun _ => none) 40 69 :=
  ctx_of abE_ok mixed (fn := Tryz.f69) (by kernel_rfl) (by kernel_rfl) (by kernel_rfl) (tabOk_none _)
theorem above_ok : CallOk PR 69 (fn1 c6.agg kBool aboveW) :=
  .inl ⟨enters_of (fn := Tryz.f69) (by kernel_rfl) (by kernel_rfl) (by kernel_rfl), pure1 above_ctx (fun x => leafVal (B := kBool) (y := aboveW x) (above_run (fun a b => chainV (cmpL a b) 0) x))⟩
end Go.Rq

/- Points as bytes: Bytes1 and Bytes2. -/
namespace Go.Rq
open Go Go.Proofs

def above2G (ab : W6 → Bool) (x : D6) : Bool := bif ab x.b then true else bif eqW x.b zeroW then ab x.a else false
noncomputable def ab2E (ab : W6 → Bool) : Env := envOf eqsT [(69, fn1 c6.agg kBool ab)]
theorem above2_run (ab : W6 → Bool) (x : D6) : (afunR PR (ab2E ab) [6, 11] (fun _ => none) 40 41 [c12.agg.enc x]).strict =
    .br (ab x.b) (.leaf (.lit true)) (.br (eqW x.b zeroW) (.leaf (kBool.enc (ab x.a))) (.leaf (.lit false))) := by kernel_rfl
theorem ab2E_ok : EnvOk PR (ab2E aboveW) := envOf_ok eqsT_ok (TabPOk.cons above_ok TabPOk.nil)
theorem above2_ctx : Ctx PR (ab2E aboveW) [6, 11] (fun _ => none) 40 41 :=
  ctx_of ab2E_ok mixed (fn := Tryz.f41) (by kernel_rfl) (by kernel_rfl) (by kernel_rfl) (tabOk_none _)
theorem above2_ok : CallOk PR 41 (fn1 c12.agg kBool (above2G aboveW)) :=
  .inl ⟨enters_of (fn := Tryz.f41) (by kernel_rfl) (by kernel_rfl) (by kernel_rfl), pure1 above2_ctx (fun x => givesOf (above2_run aboveW x)
    (holds_br (B := kBool) (holds_leaf (a := .lit true) (v := kBool.val true) rfl) (holds_br (B := kBool) (holds_leaf (kBool.h1 _)) (holds_leaf (a := .lit false) (v := kBool.val false) rfl))))⟩

/-! The bytes of a point. -/
def bytI (b : Nat → Int) : Nat → Nat → List Int
  | _, 0 => []
  | i, n + 1 => b i :: bytI b (i + 1) n
/-- Bytes that are read again: so many, and one behind the other. -/
def asF (b : Nat → Int) (i : Nat) : Int := (bytI b 0 48).getD i 0
def catF (b c : Nat → Int) (i : Nat) : Int := (bytI b 0 48 ++ bytI c 0 48).getD i 0
def b1T (ck : Ap W6 → Bool) (ab : W6 → Bool) : PureTab := [(34, fn1 aW.agg kBool ck), (69, fn1 c6.agg kBool ab)]
noncomputable def b1E (ck : Ap W6 → Bool) (ab : W6 → Bool) (b : W6 → Nat → Int) (m : Bool × Bool → (Nat → Int) → Nat → Int) : Env :=
  envA eqsT (b1T ck ab) [(39, wrS (.slc 48) 5 (cBy 48) (mc2 kBool kBool) m)] [(40, layN c6.agg 5 (cBy 48) (fun _ => true) (.slc 0 0 48 48) b)] [] [] [] true []
def bR1 : AV := .tup [.slc 0 0 48 48, .v (.int .i64 0)]
set_option maxRecDepth 1000000 in
theorem b1_run (ck : Ap W6 → Bool) (ab : W6 → Bool) (b : W6 → Nat → Int) (m : Bool × Bool → (Nat → Int) → Nat → Int) (p : Ap W6) : (afunN PR (b1E ck ab b m) [5] 60 21 5 [aW.agg.enc p]).strict =
    .br (ck p) (.leaf (.tup [bR1, .agg ((cBy 48).enc (m (p.zero, ab p.y) (asF (b p.x))))])) (.leaf .any) := by kernel_rfl
def byP1 (p : Ap W6) : Nat → Int := mkB (p.zero, aboveW p.y) (asF (byW p.x))
theorem b1E_ok : EnvOk PR (b1E checkP1 aboveW byW mkB) := envA_ok eqsT_ok (TabPOk.cons checkp1_ok (TabPOk.cons above_ok TabPOk.nil)) (TabHOk.cons mk_ent mk1_ok TabHOk.nil) (TabLOk.cons by_ent by_okL TabLOk.nil) TabAOk.nil
theorem b1_ctx : Ctx PR (b1E checkP1 aboveW byW mkB) [5] (fun _ => none) 60 21 :=
  ctx_of b1E_ok mixed (fn := Tryz.f21) (by kernel_rfl) (by kernel_rfl) (by kernel_rfl) (tabOk_none _)
theorem b1_ent : Enters PR 21 := enters_of (fn := Tryz.f21) (by kernel_rfl) (by kernel_rfl) (by kernel_rfl)
theorem br_ok {c : Bool} {x y : AV} {K : AV → Prop} (hc : c = true) (h : K x) : (Tree.br c (.leaf x) (.leaf y)).holds K := ⟨fun _ => h, fun hf => by rw [hc] at hf; cases hf⟩
theorem b1_okL : LayOk PR 21 (layN aW.agg 5 (cBy 48) checkP1 bR1 byP1) :=
  layN_ok b1_ctx (fun p hp => Tree.holds_strict (by rw [b1_run]; exact br_ok hp rfl))

def b2T (ck : Ap D6 → Bool) (ab : D6 → Bool) : PureTab := [(35, fn1 aD.agg kBool ck), (41, fn1 c12.agg kBool ab)]
noncomputable def b2E (ck : Ap D6 → Bool) (ab : D6 → Bool) (b : W6 → Nat → Int) (m : Bool × Bool → (Nat → Int) → Nat → Int) : Env :=
  envA eqsT (b2T ck ab) [(39, wrS (.own 1 96) 5 (cBy 96) (mc2 kBool kBool) m)] [(40, layN c6.agg 5 (cBy 48) (fun _ => true) (.slc 0 0 48 48) b)] [] [] [] true []
def bR2 : AV := .tup [.own 0 1 0 96, .v (.int .i64 0)]
set_option maxRecDepth 1000000 in
theorem b2_run (ck : Ap D6 → Bool) (ab : D6 → Bool) (b : W6 → Nat → Int) (m : Bool × Bool → (Nat → Int) → Nat → Int) (p : Ap D6) : (afunN PR (b2E ck ab b m) [5] 60 10 5 [aD.agg.enc p]).strict =
    .br (ck p) (.leaf (.tup [bR2, .agg ((cBy 96).enc (m (p.zero, ab p.y) (catF (b p.x.b) (b p.x.a))))])) (.leaf .any) := by kernel_rfl
def byP2 (p : Ap D6) : Nat → Int := mkB (p.zero, above2G aboveW p.y) (catF (byW p.x.b) (byW p.x.a))
theorem b2E_ok : EnvOk PR (b2E checkP2 (above2G aboveW) byW mkB) := envA_ok eqsT_ok (TabPOk.cons checkp2_ok (TabPOk.cons above2_ok TabPOk.nil)) (TabHOk.cons mk_ent mk2_ok TabHOk.nil) (TabLOk.cons by_ent by_okL TabLOk.nil) TabAOk.nil
theorem b2_ctx : Ctx PR (b2E checkP2 (above2G aboveW) byW mkB) [5] (fun _ => none) 60 10 :=
  ctx_of b2E_ok mixed (fn := Tryz.f10) (by kernel_rfl) (by kernel_rfl) (by kernel_rfl) (tabOk_none _)
theorem b2_ent : Enters PR 10 := enters_of (fn := Tryz.f10) (by kernel_rfl) (by kernel_rfl) (by kernel_rfl)
theorem b2_okL : LayOk PR 10 (layN aD.agg 5 (cBy 96) checkP2 bR2 byP2) :=
  layN_ok b2_ctx (fun p hp => Tree.holds_strict (by rw [b2_run]; exact br_ok hp rfl))
end Go.Rq

/- The reference's points of the second curve: contracts. Written by a program of ours. -/
namespace Go.Rq
open Go Go.Proofs

/-- The reference's elements of two parts, left open. -/
structure DO where
  mu : D6 → D6 → D6
  ad : D6 → D6 → D6
  sb : D6 → D6 → D6
  iv : D6 → D6
  ne : D6 → D6
def doT (t : DO) : PureTab := [(37, fn2 c12.agg c12.agg c12.agg t.mu), (95, fn2 c12.agg c12.agg c12.agg t.ad), (188, fn2 c12.agg c12.agg c12.agg t.sb), (161, fn1 c12.agg c12.agg t.iv), (57, fn1 c12.agg c12.agg t.ne)]
def doO : DO := ⟨rmul2G roO, radd2G roO, rsub2G roO, rinv2G roO, rneg2G roO⟩
theorem doT_eq : [(37, fn2 c12.agg c12.agg c12.agg (rmul2G roO)), (95, fn2 c12.agg c12.agg c12.agg (radd2G roO)), (188, fn2 c12.agg c12.agg c12.agg (rsub2G roO)), (161, fn1 c12.agg c12.agg (rinv2G roO)), (57, fn1 c12.agg c12.agg (rneg2G roO))] = doT doO := by kernel_rfl
theorem doT_ok : TabPOk PR (doT doO) := Eq.subst (motive := TabPOk PR) doT_eq (TabPOk.cons rmul2_ok (TabPOk.cons radd2_ok (TabPOk.cons rsub2_ok (TabPOk.cons rinv2_ok (TabPOk.cons rneg2_ok TabPOk.nil)))))

/-! What is added in the equation. -/
def fourD : D6 := ⟨ofW 4#64, ofW 4#64⟩
theorem rfour_ctx : Ctx PR (envOf eqsT []) [] (fun _ => none) 10 96 :=
  ctx_of (envOf_ok eqsT_ok TabPOk.nil) mixed (fn := Tryz.f96) (by kernel_rfl) (by kernel_rfl) (by kernel_rfl) (tabOk_none _)
theorem rfour_run : (afunR PR (envOf eqsT []) [] (fun _ => none) 10 96 []).strict = .leaf (c12.agg.enc fourD) := by kernel_rfl
theorem rfour_ok : CallOk PR 96 (fn0 c12.agg fourD) :=
  .inl ⟨enters_of (fn := Tryz.f96) (by kernel_rfl) (by kernel_rfl) (by kernel_rfl), pure0 rfour_ctx (leafVal (B := c12.agg) (y := fourD) rfour_run)⟩

def rside2G (t : DO) (four : D6) (x : D6) : D6 := t.ad (t.mu (t.mu x x) x) four
def rsd2T (t : DO) (four : D6) : PureTab := (96, fn0 c12.agg four) :: doT t
theorem rside2_run (t : DO) (four : D6) (x : D6) : (afunR PR (envOf eqsT (rsd2T t four)) [] (fun _ => none) 40 38 [c12.agg.enc x]).strict = .leaf (c12.agg.enc (rside2G t four x)) := by kernel_rfl
theorem rside2_ctx : Ctx PR (envOf eqsT (rsd2T doO fourD)) [] (fun _ => none) 40 38 :=
  ctx_of (envOf_ok eqsT_ok (TabPOk.cons rfour_ok doT_ok)) mixed (fn := Tryz.f38) (by kernel_rfl) (by kernel_rfl) (by kernel_rfl) (tabOk_none _)
theorem rside2_ok : CallOk PR 38 (fn1 c12.agg c12.agg (rside2G doO fourD)) :=
  .inl ⟨enters_of (fn := Tryz.f38) (by kernel_rfl) (by kernel_rfl) (by kernel_rfl), pure1 rside2_ctx (fun a => leafVal (B := c12.agg) (y := rside2G doO fourD a) (rside2_run doO fourD a))⟩

/-! Is it a point? -/
set_option maxRecDepth 100000
def rck2T (t : DO) (bl : W6 → Bool) (sd : D6 → D6) : PureTab := (36, fn1 c6.agg kBool bl) :: (38, fn1 c12.agg c12.agg sd) :: doT t
theorem rck2_run (t : DO) (bl : W6 → Bool) (sd : D6 → D6) (p : Ap D6) : (afunR PR (envOf eqsT (rck2T t bl sd)) [4, 9, 19, 25, 31, 37] (fun _ => none) 40 9 [aD.agg.enc p]).strict =
    .br p.zero (.br (eqD p.x zeroD) (.leaf (kBool.enc (eqD p.y zeroD))) (.leaf (.lit false)))
      (.br (bl p.x.a) (.br (bl p.x.b) (.br (bl p.y.a) (.br (bl p.y.b) (.leaf (kBool.enc (eqD (t.mu p.y p.y) (sd p.x)))) (.leaf (.lit false))) (.leaf (.lit false))) (.leaf (.lit false))) (.leaf (.lit false))) := by kernel_rfl
def rcheck2G (t : DO) (bl : W6 → Bool) (sd : D6 → D6) (p : Ap D6) : Bool := bif p.zero then (bif eqD p.x zeroD then eqD p.y zeroD else false) else
  bif bl p.x.a then (bif bl p.x.b then (bif bl p.y.a then (bif bl p.y.b then eqD (t.mu p.y p.y) (sd p.x) else false) else false) else false) else false
theorem noHolds : (Tree.leaf (AV.lit false)).holds (fun q => flat q = some (kBool.val false)) := holds_leaf (a := .lit false) (v := kBool.val false) rfl
theorem rck2_gives (t : DO) (bl : W6 → Bool) (sd : D6 → D6) (p : Ap D6) : Gives (afunR PR (envOf eqsT (rck2T t bl sd)) [4, 9, 19, 25, 31, 37] (fun _ => none) 40 9 [aD.agg.enc p]) (kBool.val (rcheck2G t bl sd p)) :=
  givesOf (rck2_run t bl sd p)
    (holds_br (B := kBool) (holds_br (B := kBool) (holds_leaf (kBool.h1 _)) noHolds) (holds_br (B := kBool) (holds_br (B := kBool) (holds_br (B := kBool) (holds_br (B := kBool) (holds_leaf (kBool.h1 _)) noHolds) noHolds) noHolds) noHolds))
def rcheck2 : Ap D6 → Bool := rcheck2G doO belowI (rside2G doO fourD)
theorem rck2_ctx : Ctx PR (envOf eqsT (rck2T doO belowI (rside2G doO fourD))) [4, 9, 19, 25, 31, 37] (fun _ => none) 40 9 :=
  ctx_of (envOf_ok eqsT_ok (TabPOk.cons rbelow_ok (TabPOk.cons rside2_ok doT_ok))) mixed (fn := Tryz.f9) (by kernel_rfl) (by kernel_rfl) (by kernel_rfl) (tabOk_none _)
theorem rck2_ok : CallOk PR 9 (fn1 aD.agg kBool rcheck2) :=
  .inl ⟨enters_of (fn := Tryz.f9) (by kernel_rfl) (by kernel_rfl) (by kernel_rfl), pure1 rck2_ctx (fun p => rck2_gives doO belowI (rside2G doO fourD) p)⟩

/-! The negated one. -/
def rneg2P (t : DO) (p : Ap D6) : Ap D6 := ⟨p.x, t.ne p.y, p.zero⟩
/-! The sum by the slope. -/
def eqP25 (a b : Ap D6) : Bool := (a.x.a.w0 == b.x.a.w0) && ((a.x.a.w1 == b.x.a.w1) && ((a.x.a.w2 == b.x.a.w2) && ((a.x.a.w3 == b.x.a.w3) && ((a.x.a.w4 == b.x.a.w4) && ((a.x.a.w5 == b.x.a.w5) && ((a.x.b.w0 == b.x.b.w0) && ((a.x.b.w1 == b.x.b.w1) && ((a.x.b.w2 == b.x.b.w2) && ((a.x.b.w3 == b.x.b.w3) && ((a.x.b.w4 == b.x.b.w4) && ((a.x.b.w5 == b.x.b.w5) && ((a.y.a.w0 == b.y.a.w0) && ((a.y.a.w1 == b.y.a.w1) && ((a.y.a.w2 == b.y.a.w2) && ((a.y.a.w3 == b.y.a.w3) && ((a.y.a.w4 == b.y.a.w4) && ((a.y.a.w5 == b.y.a.w5) && ((a.y.b.w0 == b.y.b.w0) && ((a.y.b.w1 == b.y.b.w1) && ((a.y.b.w2 == b.y.b.w2) && ((a.y.b.w3 == b.y.b.w3) && ((a.y.b.w4 == b.y.b.w4) && ((a.y.b.w5 == b.y.b.w5) && ((a.zero == b.zero) && true))))))))))))))))))))))))
def rslopeA (t : DO) (a : Ap D6) : D6 := t.mu (t.ad (t.ad (t.mu a.x a.x) (t.mu a.x a.x)) (t.mu a.x a.x)) (t.iv (t.ad a.y a.y))
def rslopeB (t : DO) (a b : Ap D6) : D6 := t.mu (t.sb b.y a.y) (t.iv (t.sb b.x a.x))
def rslope (t : DO) (a b : Ap D6) : D6 := bif eqP25 a b then rslopeA t a else rslopeB t a b
def rchord2 (t : DO) (a b : Ap D6) (m : D6) : Ap D6 :=
  let x := t.sb (t.sb (t.mu m m) a.x) b.x
  ⟨x, t.sb (t.mu m (t.sb a.x x)) a.y, false⟩
def apD (p : Ap D6) (z : Bool) : AV := .agg (c12.enc p.x ++ (c12.enc p.y ++ [.lit z]))
theorem apD_flat (p : Ap D6) (z : Bool) (h : p.zero = z) : flat (apD p z) = some (aD.agg.val p) := by
  obtain ⟨x, y, w⟩ := p
  simp at h; subst h
  exact apFlatD x y w
def rad2G (t : DO) (N : Ap D6 → Ap D6) (S : Ap D6 → Ap D6 → D6) (a b : Ap D6) : Ap D6 := bif a.zero then b else bif b.zero then a else bif eqP25 a (N b) then ⟨zeroD, zeroD, true⟩ else rchord2 t a b (S a b)
def rad2 : Ap D6 → Ap D6 → Ap D6 := rad2G doO (rneg2P doO) (rslope doO)
/-! The generator. -/
def rgen2P : Ap D6 := ⟨⟨⟨0xd48056c8c121bdb8#64, 0x0bac0326a805bbef#64, 0xb4510b647ae3d177#64, 0xc6e47ad4fa403b02#64, 0x260805272dc51051#64, 0x024aa2b2f08f0a91#64⟩, ⟨0xe5ac7d055d042b7e#64, 0x334cf11213945d57#64, 0xb5da61bbdc7f5049#64, 0x596bd0d09920b61a#64, 0x7dacd3a088274f65#64, 0x13e02b6052719f60#64⟩⟩,
  ⟨⟨0xe193548608b82801#64, 0x923ac9cc3baca289#64, 0x6d429a695160d12c#64, 0xadfd9baa8cbdd3a7#64, 0x8cc9cdc6da2e351a#64, 0x0ce5d527727d6e11#64⟩, ⟨0xaaa9075ff05f79be#64, 0x3f370d275cec1da1#64, 0x267492ab572e99ab#64, 0xcb3e287e85a763af#64, 0x32acd2b02bc28b99#64, 0x0606c4a02ea734cc#64⟩⟩, false⟩
/-! A point by words, and by a number. -/
def thOf2 (p : Ap D6) : Th := ⟨p.x, p.y, ⟨numOne, zeroW⟩, false⟩
theorem many2_run (tw : Th → D6 × D6 × Bool) (ok : Nat → Bool) (mu : Th → W6 → Nat → Th) (p : Ap D6) (w : W6) (len cap : Nat) : Tree.but [3] 0 (afunT PR (maE tw ok mu) [10, 29] (fun _ => none) 40 66 [aD.agg.enc p, .slc 0 0 len cap] (oneAH c6 24 w) 1) =
    .br p.zero (.leaf (aD.agg.enc p)) (.need (ok len && true) (.br (!(tw (mu (thOf2 p) w len)).2.2) (.leaf (apD ⟨zeroD, zeroD, true⟩ true)) (.leaf (apD ⟨(tw (mu (thOf2 p) w len)).1, (tw (mu (thOf2 p) w len)).2.1, false⟩ false)))) := by kernel_rfl
def many2G (tw : Th → D6 × D6 × Bool) (mu : Th → W6 → Nat → Th) (p : Ap D6) (w : W6) (len : Nat) : Ap D6 :=
  bif p.zero then p else bif !(tw (mu (thOf2 p) w len)).2.2 then ⟨zeroD, zeroD, true⟩ else ⟨(tw (mu (thOf2 p) w len)).1, (tw (mu (thOf2 p) w len)).2.1, false⟩
theorem many2_gives (tw : Th → D6 × D6 × Bool) (ok : Nat → Bool) (mu : Th → W6 → Nat → Th) (p : Ap D6) (w : W6) (len cap : Nat) (hk : ok len = true) :
    GivesH (afun PR (maE tw ok mu) [10, 29] (fun _ => none) 40 66 [aD.agg.enc p, .slc 0 0 len cap] (oneAH c6 24 w) 1) (aD.agg.val (many2G tw mu p w len)) :=
  givesU (many2_run tw ok mu p w len cap) (holds_br (B := aD.agg) (holds_leaf (aD.agg.h1 _)) ⟨by rw [hk]; rfl, holds_br (B := aD.agg) (holds_leaf (apD_flat _ _ rfl)) (holds_leaf (apD_flat _ _ rfl))⟩)
def many2W : Ap D6 → W6 → Nat → Ap D6 := many2G twW multW
theorem many2_okH : HeapOk PR 66 (slv 24 aD.agg c6 aD.agg le6 many2W) :=
  slv_ok (E := maE twW le6 multW) (sym := [10, 29]) (lf := 40) (tab := fun _ _ _ _ => fun _ => none) maE_ok mixed (fn := Tryz.f66) (c := bodyOf PR 66) (by kernel_rfl) (by kernel_rfl) (by kernel_rfl)
    (fun _ _ _ _ _ => tabOk_none _) (fun p w len cap hk => many2_gives twW le6 multW p w len cap hk)
theorem many2_ent : Enters PR 66 := enters_of (fn := Tryz.f66) (by kernel_rfl) (by kernel_rfl) (by kernel_rfl)
noncomputable def ml2E (ok : Nat → Bool) (ma : Ap D6 → W6 → Nat → Ap D6) (L : W6 → Nat) : Env :=
  envL eqsT [] [(66, slv 24 aD.agg c6 aD.agg ok ma)] [(156, layS c6.agg 24 c6 L 6 (fun n => n))] false
theorem rml2_run (ok : Nat → Bool) (ma : Ap D6 → W6 → Nat → Ap D6) (L : W6 → Nat) (p : Ap D6) (n : W6) : Tree.but [1] 0 (afunR PR (ml2E ok ma L) [] (fun _ => none) 40 105 [aD.agg.enc p, c6.agg.enc n]) =
    .need (ok (L n) && true) (.leaf (aD.agg.enc (ma p n (L n)))) := by kernel_rfl
theorem ml2E_ok : EnvOk PR (ml2E le6 many2W (wdL rlenI)) := envL_ok eqsT_ok TabPOk.nil (TabHOk.cons many2_ent many2_okH TabHOk.nil) (TabLOk.cons words_ent words_okL TabLOk.nil)
theorem rml2_ctx : Ctx PR (ml2E le6 many2W (wdL rlenI)) [] (fun _ => none) 40 105 :=
  ctx_of (ml2E_ok) mixed (fn := Tryz.f105) (by kernel_rfl) (by kernel_rfl) (by kernel_rfl) (tabOk_none _)
theorem rml2_gives (ok : Nat → Bool) (ma : Ap D6 → W6 → Nat → Ap D6) (L : W6 → Nat) (p : Ap D6) (n : W6) (h : ok (L n) = true) : Gives (afunR PR (ml2E ok ma L) [] (fun _ => none) 40 105 [aD.agg.enc p, c6.agg.enc n]) (aD.agg.val (ma p n (L n))) :=
  givesB (rml2_run ok ma L p n) ⟨by rw [h]; rfl, aD.agg.h1 _⟩
def rml2 (p : Ap D6) (n : W6) : Ap D6 := many2W p n (wdL rlenI n)
theorem rml2_ok : CallOk PR 105 (fn2 aD.agg c6.agg aD.agg rml2) :=
  .inl ⟨enters_of (fn := Tryz.f105) (by kernel_rfl) (by kernel_rfl) (by kernel_rfl), pure2 rml2_ctx (fun p n => rml2_gives le6 many2W (wdL rlenI) p n (Nat.ble_eq_true_of_le (wdL_le n).1))⟩

/-! Is it of the group? -/
def rinT2 (ck : Ap D6 → Bool) (od : W6) (ml : Ap D6 → W6 → Ap D6) : PureTab := [(9, fn1 aD.agg kBool ck), (106, fn0 c6.agg od), (105, fn2 aD.agg c6.agg aD.agg ml)]
theorem rin2_run (ck : Ap D6 → Bool) (od : W6) (ml : Ap D6 → W6 → Ap D6) (p : Ap D6) : (afunR PR (envOf eqsT (rinT2 ck od ml)) [5] (fun _ => none) 40 58 [aD.agg.enc p]).strict =
    .br (ck p) (.leaf (kBool.enc (ml p od).zero)) (.leaf (.lit false)) := by kernel_rfl
def rin2G (ck : Ap D6 → Bool) (od : W6) (ml : Ap D6 → W6 → Ap D6) (p : Ap D6) : Bool := bif ck p then (ml p od).zero else false
theorem rin2_gives (ck : Ap D6 → Bool) (od : W6) (ml : Ap D6 → W6 → Ap D6) (p : Ap D6) : Gives (afunR PR (envOf eqsT (rinT2 ck od ml)) [5] (fun _ => none) 40 58 [aD.agg.enc p]) (kBool.val (rin2G ck od ml p)) :=
  givesOf (rin2_run ck od ml p) (holds_br (B := kBool) (holds_leaf (kBool.h1 _)) noHolds)
def rin2 : Ap D6 → Bool := rin2G rcheck2 orderW rml2
theorem rin2_ctx : Ctx PR (envOf eqsT (rinT2 rcheck2 orderW rml2)) [5] (fun _ => none) 40 58 :=
  ctx_of (envOf_ok eqsT_ok (TabPOk.cons rck2_ok (TabPOk.cons rorder_ok (TabPOk.cons rml2_ok TabPOk.nil)))) mixed (fn := Tryz.f58) (by kernel_rfl) (by kernel_rfl) (by kernel_rfl) (tabOk_none _)
theorem rin2_ok : CallOk PR 58 (fn1 aD.agg kBool rin2) :=
  .inl ⟨enters_of (fn := Tryz.f58) (by kernel_rfl) (by kernel_rfl) (by kernel_rfl), pure1 rin2_ctx (fun p => rin2_gives rcheck2 orderW rml2 p)⟩

/-! Is what is told the wanted one? -/
def nonePD : Ap D6 := ⟨zeroD, zeroD, false⟩
def twoLG (p : Ap D6) (e : Int) (f : Bool) (w : Ap D6) : Bool := bif !f then (bif eqP25 p nonePD then e == 5 else false) else (bif eqP25 p w then e == 0 else false)
end Go.Rq

/- The law CurveSecond, gone through: what is called left open. -/
namespace Go.Rq
open Go Go.Proofs

end Go.Rq

/- The laws CurveGroup1 and CurveGroup2, gone through: what is called left open. -/
namespace Go.Rq
open Go Go.Proofs

structure GP (K : Type) where
  ck : Ap K → Bool
  ad : Ap K → Ap K → Ap K × Int
  ne : Ap K → Ap K × Int

def grT : Tree AV := .leaf (kBool.enc true)
def grF : Tree AV := .leaf (.lit false)
def grpEnd {K : Type} (eqP : Ap K → Ap K → Bool) (zp : Ap K) (t : GP K) (a b c : Ap K) : Tree AV :=
  .br (eqP (t.ad a b).1 (t.ad b a).1) (.br (eqP (t.ad (t.ad a b).1 c).1 (t.ad a (t.ad b c).1).1) (.br (eqP (t.ad a (t.ne a).1).1 zp) (.br (eqP (t.ad a zp).1 a) (.leaf (kBool.enc (t.ck (t.ad (t.ad a b).1 c).1))) grF) grF) grF) grF
def grpTree {K : Type} (eqP : Ap K → Ap K → Bool) (zp : Ap K) (t : GP K) (a b c : Ap K) : Tree AV :=
  .br (!t.ck a) grT (.br (!t.ck b) grT (.br (!t.ck c) grT
    (.br ((t.ad a b).2 == 0) (.br ((t.ad b a).2 == 0) (.br ((t.ad b c).2 == 0) (.br ((t.ad (t.ad a b).1 c).2 == 0) (.br ((t.ad a (t.ad b c).1).2 == 0) (.br ((t.ne a).2 == 0) (.br ((t.ad a (t.ne a).1).2 == 0) (.br ((t.ad a zp).2 == 0)
      (grpEnd eqP zp t a b c) grF)
      (.br false (grpEnd eqP zp t a b c) grF)) (.br false (grpEnd eqP zp t a b c) grF)) (.br false (grpEnd eqP zp t a b c) grF)) (.br false (grpEnd eqP zp t a b c) grF)) (.br false (grpEnd eqP zp t a b c) grF)) (.br false (grpEnd eqP zp t a b c) grF)) (.br false (grpEnd eqP zp t a b c) grF))))

def zeroP1 : Ap W6 := ⟨zeroW, zeroW, true⟩
def zeroP2 : Ap D6 := ⟨zeroD, zeroD, true⟩
/-- What makes the laws true. -/
structure GPOk {K : Type} (eqP : Ap K → Ap K → Bool) (zp : Ap K) (t : GP K) : Prop where
  refl : ∀ p, eqP p p = true
  ad : ∀ p q, t.ck p = true → t.ck q = true → (t.ad p q).2 = 0 ∧ t.ck (t.ad p q).1 = true
  ne : ∀ p, t.ck p = true → (t.ne p).2 = 0 ∧ t.ck (t.ne p).1 = true
  zc : t.ck zp = true
  comm : ∀ p q, t.ck p = true → t.ck q = true → (t.ad p q).1 = (t.ad q p).1
  assoc : ∀ p q r, t.ck p = true → t.ck q = true → t.ck r = true → (t.ad (t.ad p q).1 r).1 = (t.ad p (t.ad q r).1).1
  neg : ∀ p, t.ck p = true → (t.ad p (t.ne p).1).1 = zp
  zero : ∀ p, t.ck p = true → (t.ad p zp).1 = p

theorem grT_ok : grT.holds (fun q => flat q = some (.bool true)) := rfl
theorem go_on {c : Bool} {x y : Tree AV} (hc : c = true) (h : x.holds (fun q => flat q = some (.bool true))) : (Tree.br c x y).holds (fun q => flat q = some (.bool true)) := ⟨fun _ => h, fun hf => by rw [hc] at hf; cases hf⟩
theorem eq_zero {z : Int} (h : z = 0) : (z == 0) = true := by rw [h]; rfl
theorem grpTree_true {K : Type} {eqP : Ap K → Ap K → Bool} {zp : Ap K} {t : GP K} (h : GPOk eqP zp t) (a b c : Ap K) : (grpTree eqP zp t a b c).holds (fun q => flat q = some (.bool true)) := by
  unfold grpTree grpEnd
  refine ⟨fun _ => grT_ok, fun ha => ⟨fun _ => grT_ok, fun hb => ⟨fun _ => grT_ok, fun hc => ?_⟩⟩⟩
  have ha : t.ck a = true := by simpa using ha
  have hb : t.ck b = true := by simpa using hb
  have hc : t.ck c = true := by simpa using hc
  obtain ⟨e1, k1⟩ := h.ad a b ha hb
  obtain ⟨e2, k2⟩ := h.ad b a hb ha
  obtain ⟨e3, k3⟩ := h.ad b c hb hc
  obtain ⟨e4, k4⟩ := h.ad _ c k1 hc
  obtain ⟨e5, k5⟩ := h.ad a _ ha k3
  obtain ⟨e6, k6⟩ := h.ne a ha
  obtain ⟨e7, k7⟩ := h.ad a _ ha k6
  obtain ⟨e8, k8⟩ := h.ad a zp ha h.zc
  refine go_on (eq_zero e1) (go_on (eq_zero e2) (go_on (eq_zero e3) (go_on (eq_zero e4) (go_on (eq_zero e5) (go_on (eq_zero e6) (go_on (eq_zero e7) (go_on (eq_zero e8) (go_on ?_ (go_on ?_ (go_on ?_ (go_on ?_ ?_)))))))))))
  · rw [h.comm a b ha hb]; exact h.refl _
  · rw [h.assoc a b c ha hb hc]; exact h.refl _
  · rw [h.neg a ha]; exact h.refl _
  · rw [h.zero a ha]; exact h.refl _
  · rw [k4]; rfl
end Go.Rq

/- The law PointSigns, gone through: what is called left open. -/
namespace Go.Rq
open Go Go.Proofs

/-! Are two slices' bytes the same? -/
noncomputable def sbE : Env := envS eqsT [] [] [9]
theorem sbE_ok : EnvOk PR sbE := envS_ok eqsT_ok TabPOk.nil TabHOk.nil
theorem sb_ctx : Ctx PR sbE [] (fun _ => none) 40 17 :=
  ctx_of sbE_ok mixed (fn := Tryz.f17) (by kernel_rfl) (by kernel_rfl) (by kernel_rfl) (tabOk_none _)
theorem sb_ent : Enters PR 17 := enters_of (fn := Tryz.f17) (by kernel_rfl) (by kernel_rfl) (by kernel_rfl)
noncomputable def sbV : List AV → AH → Option (Bool × AV × AH) := viewG PR sbE [] 40 17
theorem sbV_ok : HeapOk PR 17 sbV := view_ok sb_ctx

structure SG where
  ne1 : Ap W6 → Ap W6 × Int
  ok1 : Ap W6 → Bool
  by1 : Ap W6 → Nat → Int
  ne2 : Ap D6 → Ap D6 × Int
  ok2 : Ap D6 → Bool
  by2 : Ap D6 → Nat → Int

def sgT (t : SG) : PureTab := [(30, fn0 kBool true), (72, fn1 aW.agg kPW t.ne1), (51, fn1 aD.agg kPD t.ne2)]
noncomputable def sgE (t : SG) : Env := envA eqsT (sgT t) [(17, sbV)]
  [(21, layN aW.agg 5 (cBy 48) t.ok1 bR1 t.by1), (10, layN aD.agg 5 (cBy 96) t.ok2 bR2 t.by2)] [] [] [] true [17]
def xor8 (x y : Int) : Int := IntKind.u8.wrap (((BitVec.ofInt IntKind.u8.bits x ^^^ BitVec.ofInt IntKind.u8.bits y).toNat : Nat) : Int)
/-- Bytes as a string. -/
def strB (l : List Int) : ByteArray := l.foldl (fun r n => r.push (UInt8.ofNat n.toNat)) ByteArray.empty
/-- Are two strings the same, as the model tells it? -/
def strEq (a b : ByteArray) : Bool := a.toList == b.toList
theorem strEq_refl (a : ByteArray) : strEq a a = true := by
  unfold strEq
  exact beq_self_eq_true _
def sgEnd : Tree AV := .need true grT
def sgBad : Tree AV := .need true (.need true grF)
def sgPart {V : Type} (ne : Ap V → Ap V × Int) (y0 : Ap V → Bool) (p : Ap V) (no yes : Tree AV) : Tree AV :=
  .br ((ne p).2 == 0) (.br p.zero no (.br (!y0 p) yes no)) no
def sgIn {V : Type} (ne : Ap V → Ap V × Int) (ok : Ap V → Bool) (bs : Ap V → Nat → Int) (n : Nat) (p : Ap V) (K : Tree AV) : Tree AV :=
  .need (ok p && true) (.need (ok (ne p).1 && true) (.br (xor8 (bs p 0) (bs (ne p).1 0) != 32) sgBad (.br (strEq (strB (bytI (bs p) 1 n)) (strB (bytI (bs (ne p).1) 1 n))) (.need true K) sgBad)))
def sgTree (t : SG) (p : Ap W6) (q : Ap D6) : Tree AV :=
  sgPart t.ne1 (fun p => eqW p.y zeroW) p (sgPart t.ne2 (fun q => eqD q.y zero2) q (.need true sgEnd) (.need true (sgIn t.ne2 t.ok2 t.by2 95 q sgEnd)))
    (sgIn t.ne1 t.ok1 t.by1 47 p (sgPart t.ne2 (fun q => eqD q.y zero2) q (.need true sgEnd) (.need true (sgIn t.ne2 t.ok2 t.by2 95 q sgEnd))))
end Go.Rq

/- What the examples of points as bytes come to. -/
namespace Go.Rq
open Go Go.Proofs

/-! A root. -/
def shr2 (a : W6) : W6 := ⟨a.w1 <<< 62 ||| a.w0 >>> 2, a.w2 <<< 62 ||| a.w1 >>> 2, a.w3 <<< 62 ||| a.w2 >>> 2, a.w4 <<< 62 ||| a.w3 >>> 2, a.w5 <<< 62 ||| a.w4 >>> 2, 0#64 ||| a.w5 >>> 2⟩
set_option maxRecDepth 100000 in
theorem shr2_run (a : W6) : (afunR PR (envOf eqsT []) [] (fun _ => none) 40 44 [c6.agg.enc a, (kInt .i64).enc (-2)]).strict = .leaf (c6.agg.enc (shr2 a)) := by kernel_rfl
theorem shr2_ok : CallOk PR 44 (fn2 c6.agg (kAt .i64 (-2)) c6.agg (fun a _ => shr2 a)) :=
  .inl ⟨enters_of (fn := Tryz.f44) (by kernel_rfl) (by kernel_rfl) (by kernel_rfl), pure2 (C := kAt .i64 (-2)) shift_ctx (fun a _ => leafVal (B := c6.agg) (y := shr2 a) (shr2_run a))⟩

noncomputable def hMul : List AV → AH → Option (Bool × AV × AH) := rdp 148 cFa (mc2 c6.agg c6.agg) c6.agg (tabM eqW2 tMul qmulF)
noncomputable def hAdd : List AV → AH → Option (Bool × AV × AH) := rdp 148 cFa (mc2 c6.agg c6.agg) c6.agg (tabM eqW2 tAdd qaddF)
noncomputable def hRed : List AV → AH → Option (Bool × AV × AH) := rdp 148 cFa (mc1 c6.agg) c6.agg (tabM eqW tRed moRedW)
noncomputable def hNeg : List AV → AH → Option (Bool × AV × AH) := rdp 148 cFa (mc1 c6.agg) c6.agg (tabM eqW tNeg qnegF)
noncomputable def hPow : List AV → AH → Option (Bool × AV × AH) := rdp 148 cMP (mc2 c6.agg c6.agg) c6.agg (fun u => tabF eqW2 tPow (powF u))
theorem qmul_okF : HeapOk PR 117 (rdp 148 cFa (mc2 c6.agg c6.agg) c6.agg qmulF) := qmul_ok
theorem qadd_okF : HeapOk PR 78 (rdp 148 cFa (mc2 c6.agg c6.agg) c6.agg qaddF) := qadd_ok
theorem qneg_okF : HeapOk PR 166 (rdp 148 cFa (mc1 c6.agg) c6.agg qnegF) := qneg_ok
theorem hMul_ok : HeapOk PR 117 hMul := by
  unfold hMul
  rw [tabM_eq (F := qmulF) eqW2_ok tMul_ok]
  exact qmul_okF
theorem hAdd_ok : HeapOk PR 78 hAdd := by
  unfold hAdd
  rw [tabM_eq (F := qaddF) eqW2_ok tAdd_ok]
  exact qadd_okF
theorem hRed_ok : HeapOk PR 77 hRed := by
  unfold hRed
  rw [tabM_eq (F := moRedW) eqW_ok tRed_ok]
  exact mred_ok
theorem hNeg_ok : HeapOk PR 166 hNeg := by
  unfold hNeg
  rw [tabM_eq (F := qnegF) eqW_ok tNeg_ok]
  exact qneg_okF
theorem hPow_ok : HeapOk PR 165 hPow := by
  have e : (fun u => tabF eqW2 tPow (powF u)) = powF := by
    funext u
    cases u
    exact tabF_eq eqW2_ok tPow_ok
  unfold hPow
  rw [e]
  exact pow_okH

def rtT : PureTab := [(126, fn2 c6.agg c6.agg kWB wAddW), (44, fn2 c6.agg (kAt .i64 (-2)) c6.agg (fun a _ => shr2 a)), (49, fn2 c6.agg c6.agg (kInt .i64) fun a b => chainV (cmpL a b) 0), (31, fn1 kU c6.agg ofW)]
noncomputable def rtH : HeapTab := [(124, rdp 148 cFa mc0 kBool (fun m _ => moNone m)), (165, hPow), (117, hMul), (77, hRed), (166, hNeg)]
noncomputable def rtE : Env := envA eqsT rtT rtH [] [] [] [] true [124, 165, 117, 77, 166]
theorem rtE_ok : EnvOk PR rtE := envA_ok eqsT_ok (TabPOk.cons wadd_ok (TabPOk.cons shr2_ok (TabPOk.cons cmp_ok (TabPOk.cons of_ok TabPOk.nil))))
  (TabHOk.cons mn_ent mn_ok (TabHOk.cons pow_ent hPow_ok (TabHOk.cons qmul_ent hMul_ok (TabHOk.cons mred_ent hRed_ok (TabHOk.cons qneg_ent hNeg_ok TabHOk.nil))))) TabLOk.nil TabAOk.nil
theorem rt_ctx : Ctx PR rtE [] (fun _ => none) 10 116 :=
  ctx_of rtE_ok mixed (fn := Tryz.f116) (by kernel_rfl) (by kernel_rfl) (by kernel_rfl) (tabOk_none _)
theorem rt_ent : Enters PR 116 := enters_of (fn := Tryz.f116) (by kernel_rfl) (by kernel_rfl) (by kernel_rfl)
noncomputable def rtV : List AV → AH → Option (Bool × AV × AH) := viewG PR rtE [] 10 116
theorem rtV_ok : HeapOk PR 116 rtV := view_ok rt_ctx
set_option maxRecDepth 1000000 in
theorem rt_at : rtV [.ptr 3 0, c6.agg.enc gV3] [(3, some ⟨true, 148, cFa.enc modP⟩)] = some (true, .tup [c6.agg.enc gC, .v (.int .i64 0)], []) := by kernel_rfl

/-! The base's modulus. -/
noncomputable def bsE : Env := envA eqsT [(50, fn0 c6.agg primeW)] [] [(123, layP kPri 148 cFa 0 (fun _ => modP))] [] [] [] true []
theorem bsE_ok : EnvOk PR bsE := envA_ok eqsT_ok (TabPOk.cons base_ok TabPOk.nil) TabHOk.nil (TabLOk.cons nw_ent newP_okL TabLOk.nil) TabAOk.nil
theorem bs_ctx : Ctx PR bsE [] (fun _ => none) 10 76 :=
  ctx_of bsE_ok mixed (fn := Tryz.f76) (by kernel_rfl) (by kernel_rfl) (by kernel_rfl) (tabOk_none _)
theorem bs_ent : Enters PR 76 := enters_of (fn := Tryz.f76) (by kernel_rfl) (by kernel_rfl) (by kernel_rfl)
noncomputable def bsV : List AV → AH → Nat → Option (Bool × AV × AH) := actG PR bsE [] 10 76
theorem bsV_ok : ActOk PR 76 bsV := act_ok bs_ctx
theorem bs_at : bsV [] [] 7 = some (true, .ptr 7 0, [(7, some ⟨true, 148, cFa.enc modP⟩)]) := by kernel_rfl

/-! The point with an X. -/
noncomputable def atE : Env := envA eqsT [(31, fn1 kU c6.agg ofW)] [(117, hMul), (78, hAdd), (116, rtV)] [] [(76, bsV)] [] [] true
  [117, 78, 116]
theorem atE_ok : EnvOk PR atE := envA_ok eqsT_ok (TabPOk.cons of_ok TabPOk.nil) (TabHOk.cons qmul_ent hMul_ok (TabHOk.cons qadd_ent hAdd_ok (TabHOk.cons rt_ent rtV_ok TabHOk.nil))) TabLOk.nil (TabAOk.cons bs_ent bsV_ok TabAOk.nil)
theorem at_ctx : Ctx PR atE [] (fun _ => none) 10 71 :=
  ctx_of atE_ok mixed (fn := Tryz.f71) (by kernel_rfl) (by kernel_rfl) (by kernel_rfl) (tabOk_none _)
theorem at_ent : Enters PR 71 := enters_of (fn := Tryz.f71) (by kernel_rfl) (by kernel_rfl) (by kernel_rfl)
noncomputable def atV : List AV → AH → Option (Bool × AV × AH) := viewG PR atE [] 10 71
theorem atV_ok : HeapOk PR 71 atV := view_ok at_ctx
end Go.Rq

/- What the chapter's example of points as bytes comes to: awake. -/
namespace Go.Rq
open Go Go.Proofs

/-! Bytes without flags; a number out of bytes; bytes that are the same. -/
noncomputable def clE : Env := envA eqsT [] [] [] [] [] [] true []
theorem clE_ok : EnvOk PR clE := envA_ok eqsT_ok TabPOk.nil TabHOk.nil TabLOk.nil TabAOk.nil
theorem cl_ctx : Ctx PR clE [] (fun _ => none) 60 100 :=
  ctx_of clE_ok mixed (fn := Tryz.f100) (by kernel_rfl) (by kernel_rfl) (by kernel_rfl) (tabOk_none _)
theorem cl_ent : Enters PR 100 := enters_of (fn := Tryz.f100) (by kernel_rfl) (by kernel_rfl) (by kernel_rfl)
noncomputable def clV : List AV → AH → Nat → Option (Bool × AV × AH) := actG PR clE [] 60 100
theorem clV_ok : ActOk PR 100 clV := act_ok cl_ctx
noncomputable def brE : Env := envA eqsT [] [] [] [(100, clV)] [] [] true []
theorem brE_ok : EnvOk PR brE := envA_ok eqsT_ok TabPOk.nil TabHOk.nil TabLOk.nil (TabAOk.cons cl_ent clV_ok TabAOk.nil)
theorem bre_ctx : Ctx PR brE [] (fun _ => none) 60 47 :=
  ctx_of brE_ok mixed (fn := Tryz.f47) (by kernel_rfl) (by kernel_rfl) (by kernel_rfl) (tabOk_none _)
theorem bre_ent : Enters PR 47 := enters_of (fn := Tryz.f47) (by kernel_rfl) (by kernel_rfl) (by kernel_rfl)
noncomputable def brV : List AV → AH → Nat → Option (Bool × AV × AH) := actG PR brE [] 60 47
theorem brV_ok : ActOk PR 47 brV := act_ok bre_ctx
theorem rd_ctx : Ctx PR clE [] (fun _ => none) 60 46 :=
  ctx_of clE_ok mixed (fn := Tryz.f46) (by kernel_rfl) (by kernel_rfl) (by kernel_rfl) (tabOk_none _)
theorem rd_ent : Enters PR 46 := enters_of (fn := Tryz.f46) (by kernel_rfl) (by kernel_rfl) (by kernel_rfl)
noncomputable def rdV : List AV → AH → Option (Bool × AV × AH) := viewG PR clE [] 60 46
theorem rdV_ok : HeapOk PR 46 rdV := view_ok rd_ctx
theorem eq_ctx : Ctx PR sbE [] (fun _ => none) 40 52 :=
  ctx_of sbE_ok mixed (fn := Tryz.f52) (by kernel_rfl) (by kernel_rfl) (by kernel_rfl) (tabOk_none _)
theorem eq_ent : Enters PR 52 := enters_of (fn := Tryz.f52) (by kernel_rfl) (by kernel_rfl) (by kernel_rfl)
noncomputable def eqV : List AV → AH → Option (Bool × AV × AH) := viewG PR sbE [] 40 52
theorem eqV_ok : HeapOk PR 52 eqV := view_ok eq_ctx

/-! The bytes of the generator. -/
theorem layN_weaken {P : Program} {f : Nat} {α γ : Type} {A : Cod α} {t : TypeId} {C : CC γ} {ok ok' : α → Bool} {R : AV} {F : α → γ} (h : ∀ x, ok' x = true → ok x = true) (k : LayOk P f (layN A t C ok R F)) : LayOk P f (layN A t C ok' R F) := by
  constructor
  intro F' ρ args xs hh z r B w hg hx hw hz
  refine k.run F' ρ args xs hh z r B w ?_ hx hw hz
  unfold layN at hg ⊢
  split at hg
  · split at hg
    · cases hg
    · rename_i x hd
      simp only [Option.some.injEq, Prod.mk.injEq] at hg
      obtain ⟨h1, h2, h3⟩ := hg
      simp only [h x h1, h2, h3]
  · cases hg
noncomputable def gbL : List AV → Nat → Option (Bool × AV × Blk) := layN aW.agg 5 (cBy 48) (fun p => eqAp p gen1P) bR1 byP1
theorem gbL_ok : LayOk PR 21 gbL := by
  unfold gbL
  exact layN_weaken (fun x h => by rw [eqAp_ok _ _ h]; exact check_gen) b1_okL

/-! The point of bytes. -/
def r1T : PureTab := [(49, fn2 c6.agg c6.agg (kInt .i64) fun a b => chainV (cmpL a b) 0), (50, fn0 c6.agg primeW), (32, fnT1 aW.agg kBool eqAp tIn1)]
noncomputable def r1E : Env := envA eqsT r1T [(52, eqV), (46, rdV), (71, atV)] [(21, gbL)] [(47, brV)] [] [] true [52, 46, 71]
theorem r1E_ok : EnvOk PR r1E := envA_ok eqsT_ok (TabPOk.cons cmp_ok (TabPOk.cons base_ok (TabPOk.cons (callT1 eqAp_ok tIn1_ok isinp1_ok) TabPOk.nil)))
  (TabHOk.cons eq_ent eqV_ok (TabHOk.cons rd_ent rdV_ok (TabHOk.cons at_ent atV_ok TabHOk.nil))) (TabLOk.cons b1_ent gbL_ok TabLOk.nil) (TabAOk.cons bre_ent brV_ok TabAOk.nil)
theorem r1_ctx : Ctx PR r1E [] (fun _ => none) 60 23 :=
  ctx_of r1E_ok mixed (fn := Tryz.f23) (by kernel_rfl) (by kernel_rfl) (by kernel_rfl) (tabOk_none _)
theorem r1_ent : Enters PR 23 := enters_of (fn := Tryz.f23) (by kernel_rfl) (by kernel_rfl) (by kernel_rfl)
noncomputable def r1V : List AV → AH → Option (Bool × AV × AH) := viewG PR r1E [] 60 23
theorem r1V_ok : HeapOk PR 23 r1V := view_ok r1_ctx

/-! The examples. -/
noncomputable def a5E : Env := envA eqsT [(83, fn0 aW.agg gen1P)] [(23, r1V)] [(21, gbL)] [] [] [] true [23]
theorem a5E_ok : EnvOk PR a5E := envA_ok eqsT_ok (TabPOk.cons gen1_ok TabPOk.nil) (TabHOk.cons r1_ent r1V_ok TabHOk.nil) (TabLOk.cons b1_ent gbL_ok TabLOk.nil) TabAOk.nil
theorem a5_ctx : Ctx PR a5E [] (fun _ => none) 10 30 :=
  ctx_of a5E_ok mixed (fn := Tryz.f30) (by kernel_rfl) (by kernel_rfl) (by kernel_rfl) (tabOk_none _)
set_option maxRecDepth 1000000 in
theorem a5_run : (afunR PR a5E [] (fun _ => none) 10 30 []).strict = .leaf (.v (.bool true)) := by kernel_rfl
theorem aw5_ok : CallOk PR 30 (fn0 kBool true) :=
  .inl ⟨enters_of (fn := Tryz.f30) (by kernel_rfl) (by kernel_rfl) (by kernel_rfl), pure0 a5_ctx (givesOf a5_run (holds_leaf (v := kBool.val true) rfl))⟩
end Go.Rq

/- What the functions come to at the chapter's examples of points as bytes. Written by a program of ours. -/
namespace Go.Rq
open Go Go.Proofs

def clS : ByteArray := ⟨#[51, 57, 54, 99, 56, 99, 48, 48, 53, 53, 53, 53, 101, 49, 53, 54, 56, 99, 48, 48, 97, 97, 97, 98, 48, 48, 48, 48, 97, 97, 97, 98]⟩
def clN : W6 := ⟨0x8c00aaab0000aaab#64, 0x396c8c005555e156#64, 0x0#64, 0x0#64, 0x0#64, 0x0#64⟩
def clP : Ap W6 := ⟨zeroW, zeroW, true⟩
def zeroD2 : Ap D6 := ⟨zero2, zero2, true⟩
set_option maxRecDepth 1000000 in
theorem cl_parse : (afunR PR (envOf eqsT parseT) [] (fun _ => none) 110 97 [kStr.enc clS]).strict = .leaf (kNE.enc (clN, 0)) := by kernel_rfl
set_option maxRecDepth 1000000 in
theorem mul_cl : sumP1W oddP clN = (clP, 0) := mul1_of below_odd (by kernel_rfl)
set_option maxRecDepth 1000000 in
theorem in_cl : inGroup1 clP = true := by
  rw [in1_of]; kernel_rfl
set_option maxRecDepth 1000000 in
theorem in_zero : inGroup1 zeroP = true := by
  rw [in1_of]; kernel_rfl
set_option maxRecDepth 1000000 in
theorem check_zero2 : checkP2 zeroD2 = true := by
  rw [check2_of]; kernel_rfl
end Go.Rq

/- The law PointKnown, gone through. -/
namespace Go.Rq
open Go Go.Proofs

def tParse : List (ByteArray × (W6 × Int)) := [(clS, (clN, 0))]
theorem parse_okT : CallOk PR 97 (fnT1 kStr kNE eqStr tParse) :=
  .inl ⟨enters_of (fn := Tryz.f97) (by kernel_rfl) (by kernel_rfl) (by kernel_rfl), tabT1 (B := kNE) parse_ctx eqStr_ok (fun p hp => by
    simp only [tParse, List.mem_cons, List.not_mem_nil, or_false] at hp
    rw [hp]
    exact leafVal (B := kNE) cl_parse)⟩
def tNum : List (ByteArray × W6) := [(clS, clN)]
noncomputable def pnE : Env := envOf eqsT [(97, fnT1 kStr kNE eqStr tParse)]
theorem pnE_ok : EnvOk PR pnE := envOf_ok eqsT_ok (TabPOk.cons parse_okT TabPOk.nil)
theorem pn_ctx : Ctx PR pnE [] (fun _ => none) 10 43 :=
  ctx_of pnE_ok mixed (fn := Tryz.f43) (by kernel_rfl) (by kernel_rfl) (by kernel_rfl) (tabOk_none _)
theorem pn_run : (afunR PR pnE [] (fun _ => none) 10 43 [kStr.enc clS]).strict = .leaf (c6.agg.enc clN) := by kernel_rfl
theorem pnum_ok : CallOk PR 43 (fnT1 kStr c6.agg eqStr tNum) :=
  .inl ⟨enters_of (fn := Tryz.f43) (by kernel_rfl) (by kernel_rfl) (by kernel_rfl), tabT1 (B := c6.agg) pn_ctx eqStr_ok (fun p hp => by
    simp only [tNum, List.mem_cons, List.not_mem_nil, or_false] at hp
    rw [hp]
    exact leafVal (B := c6.agg) pn_run)⟩

/-! The cleared point, the point near. -/
def tMulC : List ((Ap W6 × W6) × (Ap W6 × Int)) := [((oddP, clN), (clP, 0))]
theorem tMulC_ok : ∀ p ∈ tMulC, sumP1W p.1.1 p.1.2 = p.2 := fun p hp => by
  simp only [tMulC, List.mem_cons, List.not_mem_nil, or_false] at hp
  rw [hp]
  exact mul_cl
noncomputable def ceE : Env := envA eqsT [(70, fnT2 aW.agg c6.agg kPW eqAp eqW tMulC), (43, fnT1 kStr c6.agg eqStr tNum)] [] [] [] [] [] true []
theorem ceE_ok : EnvOk PR ceE := envA_ok eqsT_ok (TabPOk.cons (callT2 eqAp_ok eqW_ok tMulC_ok mulp1_ok) (TabPOk.cons pnum_ok TabPOk.nil)) TabHOk.nil TabLOk.nil TabAOk.nil
theorem ce_ctx : Ctx PR ceE [] (fun _ => none) 10 22 :=
  ctx_of ceE_ok mixed (fn := Tryz.f22) (by kernel_rfl) (by kernel_rfl) (by kernel_rfl) (tabOk_none _)
theorem ce_ent : Enters PR 22 := enters_of (fn := Tryz.f22) (by kernel_rfl) (by kernel_rfl) (by kernel_rfl)
noncomputable def ceV : List AV → AH → Option (Bool × AV × AH) := viewG PR ceE [] 10 22
theorem ceV_ok : HeapOk PR 22 ceV := view_ok ce_ctx
noncomputable def neE : Env := envA eqsT [(31, fn1 kU c6.agg ofW)] [(77, hRed), (78, hAdd), (71, atV)] [] [(76, bsV)] [] [] true
  [77, 78, 71]
theorem neE_ok : EnvOk PR neE := envA_ok eqsT_ok (TabPOk.cons of_ok TabPOk.nil) (TabHOk.cons mred_ent hRed_ok (TabHOk.cons qadd_ent hAdd_ok (TabHOk.cons at_ent atV_ok TabHOk.nil))) TabLOk.nil (TabAOk.cons bs_ent bsV_ok TabAOk.nil)
theorem near_ctx : Ctx PR neE [] (fun _ => none) 10 25 :=
  ctx_of neE_ok mixed (fn := Tryz.f25) (by kernel_rfl) (by kernel_rfl) (by kernel_rfl) (tabOk_none _)
theorem near_ent : Enters PR 25 := enters_of (fn := Tryz.f25) (by kernel_rfl) (by kernel_rfl) (by kernel_rfl)
noncomputable def neV : List AV → AH → Option (Bool × AV × AH) := viewG PR neE [] 10 25
theorem neV_ok : HeapOk PR 25 neV := view_ok near_ctx

/-! Bytes of the listed points, and the points of bytes. -/
def ok3 (p : Ap W6) : Bool := bif eqAp p gen1P then true else bif eqAp p zeroP then true else eqAp p oddP
theorem ok3_check (p : Ap W6) (h : ok3 p = true) : checkP1 p = true := by
  unfold ok3 at h
  cases h1 : eqAp p gen1P with
  | true => rw [eqAp_ok _ _ h1]; exact check_gen
  | false =>
    cases h2 : eqAp p zeroP with
    | true => rw [eqAp_ok _ _ h2]; exact check_zero
    | false =>
      rw [h1, h2] at h
      rw [eqAp_ok _ _ h]; exact check_odd
noncomputable def gbL2 : List AV → Nat → Option (Bool × AV × Blk) := layN aW.agg 5 (cBy 48) ok3 bR1 byP1
theorem gbL2_ok : LayOk PR 21 gbL2 := by
  unfold gbL2
  exact layN_weaken ok3_check b1_okL
def ok2D (p : Ap D6) : Bool := bif eqAd p gen2P then true else eqAd p zeroD2
theorem ok2D_check (p : Ap D6) (h : ok2D p = true) : checkP2 p = true := by
  unfold ok2D at h
  cases h1 : eqAd p gen2P with
  | true => rw [eqAd_ok _ _ h1]; exact check_gen2
  | false =>
    rw [h1] at h
    rw [eqAd_ok _ _ h]; exact check_zero2
noncomputable def gbD : List AV → Nat → Option (Bool × AV × Blk) := layN aD.agg 5 (cBy 96) ok2D bR2 byP2
theorem gbD_ok : LayOk PR 10 gbD := by
  unfold gbD
  exact layN_weaken ok2D_check b2_okL
def tIn3 : List (Ap W6 × Bool) := [(gen1P, true), (oddP, false), (zeroP, true)]
theorem tIn3_ok : ∀ p ∈ tIn3, inGroup1 p.1 = p.2 := fun p hp => by
  simp only [tIn3, List.mem_cons, List.not_mem_nil, or_false] at hp
  rcases hp with rfl | rfl | rfl
  · exact in_gen
  · exact in_odd
  · exact in_zero
def r3T : PureTab := [(49, fn2 c6.agg c6.agg (kInt .i64) fun a b => chainV (cmpL a b) 0), (50, fn0 c6.agg primeW), (32, fnT1 aW.agg kBool eqAp tIn3)]
noncomputable def r3E : Env := envA eqsT r3T [(52, eqV), (46, rdV), (71, atV)] [(21, gbL2)] [(47, brV)] [] [] true [52, 46, 71]
theorem r3E_ok : EnvOk PR r3E := envA_ok eqsT_ok (TabPOk.cons cmp_ok (TabPOk.cons base_ok (TabPOk.cons (callT1 eqAp_ok tIn3_ok isinp1_ok) TabPOk.nil)))
  (TabHOk.cons eq_ent eqV_ok (TabHOk.cons rd_ent rdV_ok (TabHOk.cons at_ent atV_ok TabHOk.nil))) (TabLOk.cons b1_ent gbL2_ok TabLOk.nil) (TabAOk.cons bre_ent brV_ok TabAOk.nil)
theorem r3_ctx : Ctx PR r3E [] (fun _ => none) 60 23 :=
  ctx_of r3E_ok mixed (fn := Tryz.f23) (by kernel_rfl) (by kernel_rfl) (by kernel_rfl) (tabOk_none _)
noncomputable def r3V : List AV → AH → Option (Bool × AV × AH) := viewG PR r3E [] 60 23
theorem r3V_ok : HeapOk PR 23 r3V := view_ok r3_ctx

/-! The law. -/
def pkT : PureTab := [(30, fn0 kBool true), (29, fn0 aD.agg gen2P), (31, fn1 kU c6.agg ofW), (32, fnT1 aW.agg kBool eqAp tIn3)]
noncomputable def pkE : Env := envA eqsT pkT [(23, r3V), (25, neV), (22, ceV)] [(21, gbL2), (10, gbD)] [] [] [] true [23, 25, 22]
theorem pkE_ok : EnvOk PR pkE := envA_ok eqsT_ok (TabPOk.cons aw5_ok (TabPOk.cons gen2_ok (TabPOk.cons of_ok (TabPOk.cons (callT1 eqAp_ok tIn3_ok isinp1_ok) TabPOk.nil))))
  (TabHOk.cons r1_ent r3V_ok (TabHOk.cons near_ent neV_ok (TabHOk.cons ce_ent ceV_ok TabHOk.nil))) (TabLOk.cons b1_ent gbL2_ok (TabLOk.cons b2_ent gbD_ok TabLOk.nil)) TabAOk.nil
theorem pk_ctx : Ctx PR pkE [] (fun _ => none) 60 5 :=
  ctx_of pkE_ok mixed (fn := Tryz.f5) (by kernel_rfl) (by kernel_rfl) (by kernel_rfl) (tabOk_none _)
set_option maxRecDepth 1000000 in
theorem pk_run : (afunR PR pkE [] (fun _ => none) 60 5 []).strict = .leaf (.v (.bool true)) := by kernel_rfl
end Go.Rq
