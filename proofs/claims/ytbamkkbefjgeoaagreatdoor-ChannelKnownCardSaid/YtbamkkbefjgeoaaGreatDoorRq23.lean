/- The little curves' powers, inverses, slopes, sums, multiples: contracts. -/
import Derived.Test.YtbamkkbefjgeoaaGreatDoorRq13
import Derived.Test.YtbamkkbefjgeoaaGreatDoorRq07
import Derived.Test.YtbamkkbefjgeoaaGreatDoorRq20
import Derived.Test.YtbamkkbefjgeoaaGreatDoorRq22
import Derived.Test.YtbamkkbefjgeoaaGreatDoorRq09
import Derived.Test.YtbamkkbefjgeoaaGreatDoorRq18
namespace Go.Rq.Sm
open Go Go.Proofs Go.Rq

/-! Powers. -/
def lpwT (M : Op2) (L : BitVec 64 → Int) : PureTab := [(169, fn3 kCv kU kU kU M), (117, fn1 kU (kInt .i64) L)]
def blI (x : BitVec 64) : Int := ((bl x.toNat : Nat) : Int)
theorem lpwT_ok : TabPOk PR (lpwT lMul blI) := TabPOk.cons lm_ok (TabPOk.cons len64_ok TabPOk.nil)
def pwK : Keep := ⟨[1, 2, 3, 7, 8], [0], 6⟩
@[irreducible] noncomputable def pwX (M : Op2) (L : BitVec 64 → Int) (s : Su) (a n : BitVec 64) : XS := entryOf PR (envOf eqsT (lpwT M L)) [13, 24] (fun _ => none) 10 204 [kCv.enc s, kU.enc a, kU.enc n] [] 0 0 pwK
@[irreducible] noncomputable def pwI (M : Op2) (L : BitVec 64 → Int) (s : Su) (a n : BitVec 64) (d : Int × BitVec 64) : XS := ((pwX M L s a n).setT 8 (.v (.int .i64 d.1))).setT 7 (.u d.2)
@[irreducible] noncomputable def pwC : Code := roundOf PR 204 0
set_option maxRecDepth 1000000 in
theorem pw_round (M : Op2) (L : BitVec 64 → Int) (s : Su) (a n : BitVec 64) (z : Int) (out : BitVec 64) : Tree.but [2] 0 (roundT PR (envOf eqsT (lpwT M L)) [13, 24] (fun _ => none) 10 pwK pwK pwK pwC (pwI M L s a n (z, out))) =
    .br (decide (z ≥ 0))
      (.br (bitU n z)
        (.need (notNeg z) (.leaf (.normal, pwI M L s a n (IntKind.i64.wrap (z - 1), M s (M s out out) a))))
        (.need (notNeg z) (.leaf (.normal, pwI M L s a n (IntKind.i64.wrap (z - 1), M s out out)))))
      (.leaf (.exit 0, pwI M L s a n (z, out))) := by cases s <;> kernel_rfl
set_option maxRecDepth 1000000 in
theorem pw_head (M : Op2) (L : BitVec 64 → Int) (s : Su) (a n : BitVec 64) : (pwX M L s a n).setT 7 (.u (bitW true)) = pwI M L s a n (IntKind.i64.wrap (L n - 1), bitW true) := by cases s <;> kernel_rfl
set_option maxRecDepth 1000000 in
theorem pw_bit (M : Op2) (L : BitVec 64 → Int) (s : Su) (a n : BitVec 64) : (pwX M L s a n).s.tm[7]? = some (.bit true) := by cases s <;> kernel_rfl
theorem pw_blk : blkAll 0 (bodyOf PR 204) = [.loop pwC] := by kernel_rfl
@[irreducible] noncomputable def pwB (M : Op2) (L : BitVec 64 → Int) (s : Su) (a n r : BitVec 64) : BEnt := ⟨pwK.tm, pwK.ids, pwK.n, pwX M L s a n, .leaf (.normal, pwI M L s a n (-1, r))⟩
theorem pwB_n (M : Op2) (L : BitVec 64 → Int) (s : Su) (a n r : BitVec 64) : (pwB M L s a n r).n = 6 ∧ (pwB M L s a n r).pre = pwX M L s a n ∧ (pwB M L s a n r).post = .leaf (.normal, pwI M L s a n (-1, r)) := by
  unfold pwB
  exact ⟨rfl, rfl, rfl⟩
set_option maxRecDepth 1000000 in
theorem pw_run (M : Op2) (L : BitVec 64 → Int) (s : Su) (a n r : BitVec 64) : (afunR PR (envOf eqsT (lpwT M L)) [13, 24] (tabOf [(0, pwB M L s a n r)]) 10 204 [kCv.enc s, kU.enc a, kU.enc n]).strict =
    .same (pwX M L s a n) (pwX M L s a n) (.leaf (kU.enc r)) := by cases s <;> kernel_rfl
theorem pw_codeOk : codeOk (envOf eqsT (lpwT lMul blI)) pwC = true := by kernel_rfl
theorem blI_le (n : BitVec 64) : 0 ≤ blI n ∧ blI n ≤ 64 := by
  have : bl n.toNat ≤ 64 := bl_spec.2 n.isLt
  unfold blI
  omega
def pwR (s : Su) (a n : BitVec 64) : BitVec 64 := sqB (fun u => lMul s u u) (fun u => lMul s u a) (bitU n) (bl n.toNat) (bitW true)
theorem pw_start (s : Su) (a n : BitVec 64) : ∀ d : Int × BitVec 64, d = (IntKind.i64.wrap (blI n - 1), bitW true) → -1 ≤ d.1 ∧ d.1 ≤ 63 ∧ sqB (fun u => lMul s u u) (fun u => lMul s u a) (bitU n) (d.1 + 1).toNat d.2 = pwR s a n := by
  rintro d rfl
  have hl := blI_le n
  have hw : IntKind.i64.wrap (blI n - 1) = blI n - 1 := wrap_id (n := blI n - 1) (by omega) (by omega)
  rw [hw]
  refine ⟨?_, ?_, ?_⟩
  · show -1 ≤ blI n - 1
    omega
  · show blI n - 1 ≤ 63
    omega
  · show sqB _ _ _ (blI n - 1 + 1).toNat _ = _
    rw [show (blI n - 1 + 1).toNat = bl n.toNat by unfold blI; omega]
    rfl
theorem pw_loop (s : Su) (a n : BitVec 64) {Fr0 : Fr} {ds : List Deferred} {Q : AExit → XS → Prop} (hK : Q .normal (pwI lMul blI s a n (-1, pwR s a n))) :
    Tri PR Fr0 ds 0 (.block 0 (.loop pwC)) (pwX lMul blI s a n) Q :=
  Tri.asU (pw_bit lMul blI s a n) <| Eq.subst (motive := fun y => Tri PR Fr0 ds 0 (.block 0 (.loop pwC)) y Q) (pw_head lMul blI s a n).symm <|
    blockLoop (m := 0) (envOf_ok eqsT_ok lpwT_ok) mixed (sym := [13, 24]) (tab := fun _ => none) (lf := 10) (k := pwK) (kx := pwK) (kr := pwK) (by decide) (by decide) (by decide) pw_codeOk (tabOk_none _)
    (pwI lMul blI s a n) (fun d => -1 ≤ d.1 ∧ d.1 ≤ 63 ∧ sqB (fun u => lMul s u u) (fun u => lMul s u a) (bitU n) (d.1 + 1).toNat d.2 = pwR s a n) (fun d => (d.1 + 1).toNat) _ (pw_start s a n _ rfl)
    (sqB_law (by decide) (fun u => lMul s u u) (fun u => lMul s u a) (bitU n) notNeg notNeg_ok _ (pwI lMul blI s a n) (pw_round lMul blI s a n) hK)
theorem pw_tab (s : Su) (a n : BitVec 64) : TabOk PR 0 (tabOf [(0, pwB lMul blI s a n (pwR s a n))]) (bodyOf PR 204) :=
  tabOk_one (by rw [(pwB_n lMul blI s a n (pwR s a n)).1]; decide) pw_blk fun Fr0 ds Q h => by
    obtain ⟨-, h2, h3⟩ := pwB_n lMul blI s a n (pwR s a n)
    rw [h3] at h
    rw [h2]
    exact pw_loop s a n h
theorem pw_ctx (s : Su) (a n : BitVec 64) : Ctx PR (envOf eqsT (lpwT lMul blI)) [13, 24] (tabOf [(0, pwB lMul blI s a n (pwR s a n))]) 10 204 :=
  ctx_of (envOf_ok eqsT_ok lpwT_ok) mixed (fn := Tryz.f204) (by kernel_rfl) (by kernel_rfl) (by kernel_rfl) (pw_tab s a n)
theorem pwR_eq (s : Su) (a n : BitVec 64) : pwR s a n = lPow s a n := (sqF_eq (frc := frcU) (fun x f => frcU_eq x f) _ _ _ _ _).symm
theorem pw_ok : CallOk PR 204 (fn3 kCv kU kU kU lPow) :=
  .inl ⟨enters_of (fn := Tryz.f204) (by kernel_rfl) (by kernel_rfl) (by kernel_rfl), pure3X fun s a n => .of (pw_ctx s a n) (sameVal (B := kU) (by rw [← pwR_eq]; exact pw_run lMul blI s a n (pwR s a n)))⟩

/-! Inverses, slopes, sums. -/
theorem lv_ctx : Ctx PR (envOf eqsT (lvT lPow)) [] (fun _ => none) 10 192 :=
  ctx_of (envOf_ok eqsT_ok (TabPOk.cons pw_ok TabPOk.nil)) mixed (fn := Tryz.f192) (by kernel_rfl) (by kernel_rfl) (by kernel_rfl) (tabOk_none _)
theorem lv_ok : CallOk PR 192 (fn2 kCv kU kU lInv) :=
  .inl ⟨enters_of (fn := Tryz.f192) (by kernel_rfl) (by kernel_rfl) (by kernel_rfl), pure2 lv_ctx fun s x => leafVal (B := kU) (y := lInv s x) (lv_run lPow s x)⟩
noncomputable def lq0 : LQ := ⟨lMul, lAdd, lSub, lrF, lInv, fun _ _ _ => (0#64, false), fun _ p _ => p⟩
theorem lsl_ctx : Ctx PR (envOf eqsT (lsT lq0)) [13, 35, 39] (fun _ => none) 10 171 :=
  ctx_of (envOf_ok eqsT_ok (TabPOk.cons lm_ok (TabPOk.cons la_ok (TabPOk.cons ls_ok (TabPOk.cons lv_ok TabPOk.nil))))) mixed (fn := Tryz.f171) (by kernel_rfl) (by kernel_rfl) (by kernel_rfl) (tabOk_none _)
theorem lsl_ok : CallOk PR 171 (fn3 kCv cLp.agg cLp.agg kUb lSlope) :=
  .inl ⟨enters_of (fn := Tryz.f171) (by kernel_rfl) (by kernel_rfl) (by kernel_rfl), pure3 lsl_ctx fun s p q => lsl_gives lq0 s p q⟩
noncomputable def lq1 : LQ := ⟨lMul, lAdd, lSub, lrF, lInv, lSlope, fun _ p _ => p⟩
theorem lSum_eq (s : Su) (p q : Lp) : sumG lq1 s p q = lSum s p q := by
  unfold lSum sumG
  rw [frcB_eq, frcU_eq, frcU_eq]
  rfl
theorem lsm_ctx : Ctx PR (envOf eqsT (lsmT lq1)) [10, 14, 26] (fun _ => none) 10 126 :=
  ctx_of (envOf_ok eqsT_ok (TabPOk.cons lm_ok (TabPOk.cons ls_ok (TabPOk.cons lsl_ok TabPOk.nil)))) mixed (fn := Tryz.f126) (by kernel_rfl) (by kernel_rfl) (by kernel_rfl) (tabOk_none _)
theorem lsm_ok : CallOk PR 126 (fn3 kCv cLp.agg cLp.agg cLp.agg lSum) :=
  .inl ⟨enters_of (fn := Tryz.f126) (by kernel_rfl) (by kernel_rfl) (by kernel_rfl), pure3 lsm_ctx fun s p q => by rw [← lSum_eq]; exact lsm_gives lq1 s p q⟩

/-! Multiples. -/
def ltmT (S : Su → Lp → Lp → Lp) (L : BitVec 64 → Int) : PureTab := [(126, fn3 kCv cLp.agg cLp.agg cLp.agg S), (117, fn1 kU (kInt .i64) L)]
theorem ltmT_ok : TabPOk PR (ltmT lSum blI) := TabPOk.cons lsm_ok (TabPOk.cons len64_ok TabPOk.nil)
def tmK : Keep := ⟨[2, 3, 4, 6, 7, 8], [0, 1, 2, 4], 9⟩
@[irreducible] noncomputable def tmX (S : Su → Lp → Lp → Lp) (L : BitVec 64 → Int) (s : Su) (p : Lp) (n : BitVec 64) : XS := entryOf PR (envOf eqsT (ltmT S L)) [14, 25] (fun _ => none) 10 82 [kCv.enc s, cLp.agg.enc p, kU.enc n] [] 0 0 tmK
@[irreducible] noncomputable def tmI (S : Su → Lp → Lp → Lp) (L : BitVec 64 → Int) (s : Su) (p : Lp) (n : BitVec 64) (d : Int × Lp) : XS := ((tmX S L s p n).setT 8 (.v (.int .i64 d.1))).setB 4 (cLp.enc d.2)
@[irreducible] noncomputable def tmC : Code := roundOf PR 82 0
set_option maxRecDepth 1000000 in
theorem tm_round (S : Su → Lp → Lp → Lp) (L : BitVec 64 → Int) (s : Su) (p : Lp) (n : BitVec 64) (z : Int) (out : Lp) : Tree.but [2] 0 (roundT PR (envOf eqsT (ltmT S L)) [14, 25] (fun _ => none) 10 tmK tmK tmK tmC (tmI S L s p n (z, out))) =
    .br (decide (z ≥ 0))
      (.br (bitU n z)
        (.need (notNeg z) (.leaf (.normal, tmI S L s p n (IntKind.i64.wrap (z - 1), S s (S s out out) p))))
        (.need (notNeg z) (.leaf (.normal, tmI S L s p n (IntKind.i64.wrap (z - 1), S s out out)))))
      (.leaf (.exit 0, tmI S L s p n (z, out))) := by cases s <;> kernel_rfl
set_option maxRecDepth 1000000 in
theorem tm_head (S : Su → Lp → Lp → Lp) (L : BitVec 64 → Int) (s : Su) (p : Lp) (n : BitVec 64) : (tmX S L s p n).setB 4 (cLp.enc lp0) = tmI S L s p n (IntKind.i64.wrap (L n - 1), lp0) := by cases s <;> kernel_rfl
set_option maxRecDepth 1000000 in
theorem tm_cell (S : Su → Lp → Lp → Lp) (L : BitVec 64 → Int) (s : Su) (p : Lp) (n : BitVec 64) : (tmX S L s p n).s.h.get 4 = some ⟨true, 32, [.u 0#64, .u 0#64, .lit true]⟩ := by cases s <;> kernel_rfl
theorem tm_blk : blkAll 0 (bodyOf PR 82) = [.loop tmC] := by kernel_rfl
@[irreducible] noncomputable def tmB (S : Su → Lp → Lp → Lp) (L : BitVec 64 → Int) (s : Su) (p : Lp) (n : BitVec 64) (r : Lp) : BEnt := ⟨tmK.tm, tmK.ids, tmK.n, tmX S L s p n, .leaf (.normal, tmI S L s p n (-1, r))⟩
theorem tmB_n (S : Su → Lp → Lp → Lp) (L : BitVec 64 → Int) (s : Su) (p : Lp) (n : BitVec 64) (r : Lp) : (tmB S L s p n r).n = 9 ∧ (tmB S L s p n r).pre = tmX S L s p n ∧ (tmB S L s p n r).post = .leaf (.normal, tmI S L s p n (-1, r)) := by
  unfold tmB
  exact ⟨rfl, rfl, rfl⟩
set_option maxRecDepth 1000000 in
theorem tm_run (S : Su → Lp → Lp → Lp) (L : BitVec 64 → Int) (s : Su) (p : Lp) (n : BitVec 64) (r : Lp) : (afunR PR (envOf eqsT (ltmT S L)) [14, 25] (tabOf [(0, tmB S L s p n r)]) 10 82 [kCv.enc s, cLp.agg.enc p, kU.enc n]).strict =
    .same (tmX S L s p n) (tmX S L s p n) (.leaf (cLp.agg.enc r)) := by cases s <;> kernel_rfl
theorem tm_codeOk : codeOk (envOf eqsT (ltmT lSum blI)) tmC = true := by kernel_rfl
noncomputable def tmR (s : Su) (p : Lp) (n : BitVec 64) : Lp := sqB (fun u => lSum s u u) (fun u => lSum s u p) (bitU n) (bl n.toNat) lp0
theorem tm_start (s : Su) (p : Lp) (n : BitVec 64) : ∀ d : Int × Lp, d = (IntKind.i64.wrap (blI n - 1), lp0) → -1 ≤ d.1 ∧ d.1 ≤ 63 ∧ sqB (fun u => lSum s u u) (fun u => lSum s u p) (bitU n) (d.1 + 1).toNat d.2 = tmR s p n := by
  rintro d rfl
  have hl := blI_le n
  have hw : IntKind.i64.wrap (blI n - 1) = blI n - 1 := wrap_id (n := blI n - 1) (by omega) (by omega)
  rw [hw]
  refine ⟨?_, ?_, ?_⟩
  · show -1 ≤ blI n - 1
    omega
  · show blI n - 1 ≤ 63
    omega
  · show sqB _ _ _ (blI n - 1 + 1).toNat _ = _
    rw [show (blI n - 1 + 1).toNat = bl n.toNat by unfold blI; omega]
    rfl
theorem cells3 {ρ : Ren} {i : Nat} {a c : AV} {x : Value} (ha : ([.u 0#64, .u 0#64, .lit true] : List AV)[i]? = some a) (hc : (cLp.enc lp0)[i]? = some c) (h : Rv ρ a x) : Rv ρ c x := by
  have e : cLp.enc lp0 = [.u 0#64, .u 0#64, .v (.bool true)] := rfl
  rw [e] at hc
  match i with
  | 0 => simp at ha hc; subst ha; subst hc; exact h
  | 1 => simp at ha hc; subst ha; subst hc; exact h
  | 2 => simp at ha hc; subst ha; subst hc; exact h.other rfl rfl
  | n + 3 => simp at ha
theorem tm_loop (s : Su) (p : Lp) (n : BitVec 64) {Fr0 : Fr} {ds : List Deferred} {Q : AExit → XS → Prop} (hK : Q .normal (tmI lSum blI s p n (-1, tmR s p n))) :
    Tri PR Fr0 ds 0 (.block 0 (.loop tmC)) (tmX lSum blI s p n) Q :=
  Tri.asC (cs := cLp.enc lp0) (tm_cell lSum blI s p n) rfl (fun ρ i a c x ha hc h => cells3 ha hc h) <| Eq.subst (motive := fun y => Tri PR Fr0 ds 0 (.block 0 (.loop tmC)) y Q) (tm_head lSum blI s p n).symm <|
    blockLoop (m := 0) (envOf_ok eqsT_ok ltmT_ok) mixed (sym := [14, 25]) (tab := fun _ => none) (lf := 10) (k := tmK) (kx := tmK) (kr := tmK) (by decide) (by decide) (by decide) tm_codeOk (tabOk_none _)
    (tmI lSum blI s p n) (fun d => -1 ≤ d.1 ∧ d.1 ≤ 63 ∧ sqB (fun u => lSum s u u) (fun u => lSum s u p) (bitU n) (d.1 + 1).toNat d.2 = tmR s p n) (fun d => (d.1 + 1).toNat) _ (tm_start s p n _ rfl)
    (sqB_law (by decide) (fun u => lSum s u u) (fun u => lSum s u p) (bitU n) notNeg notNeg_ok _ (tmI lSum blI s p n) (tm_round lSum blI s p n) hK)
theorem tm_tab (s : Su) (p : Lp) (n : BitVec 64) : TabOk PR 0 (tabOf [(0, tmB lSum blI s p n (tmR s p n))]) (bodyOf PR 82) :=
  tabOk_one (by rw [(tmB_n lSum blI s p n (tmR s p n)).1]; decide) tm_blk fun Fr0 ds Q h => by
    obtain ⟨-, h2, h3⟩ := tmB_n lSum blI s p n (tmR s p n)
    rw [h3] at h
    rw [h2]
    exact tm_loop s p n h
theorem tm_ctx (s : Su) (p : Lp) (n : BitVec 64) : Ctx PR (envOf eqsT (ltmT lSum blI)) [14, 25] (tabOf [(0, tmB lSum blI s p n (tmR s p n))]) 10 82 :=
  ctx_of (envOf_ok eqsT_ok ltmT_ok) mixed (fn := Tryz.f82) (by kernel_rfl) (by kernel_rfl) (by kernel_rfl) (tm_tab s p n)
theorem tmR_eq (s : Su) (p : Lp) (n : BitVec 64) : tmR s p n = lTimes s p n := (sqF_eq (frc := frcLp) (fun x f => frcLp_eq x f) _ _ _ _ _).symm
theorem tm_ok : CallOk PR 82 (fn3 kCv cLp.agg kU cLp.agg lTimes) :=
  .inl ⟨enters_of (fn := Tryz.f82) (by kernel_rfl) (by kernel_rfl) (by kernel_rfl), pure3X fun s p n => .of (tm_ctx s p n) (sameVal (B := cLp.agg) (by rw [← tmR_eq]; exact tm_run lSum blI s p n (tmR s p n)))⟩

/-! Whether a point is one of the group. -/
def linT (O : Su → Lp → Bool) (T : Su → Lp → BitVec 64 → Lp) : PureTab := [(125, fn2 kCv cLp.agg kBool O), (82, fn3 kCv cLp.agg kU cLp.agg T)]
theorem lin_run (O : Su → Lp → Bool) (T : Su → Lp → BitVec 64 → Lp) (s : Su) (p : Lp) : (afunR PR (envOf eqsT (linT O T)) [8] (fun _ => none) 10 143 [kCv.enc s, cLp.agg.enc p]).strict =
    .br (O s p) (.leaf (.v (.bool (T s p (suR s)).2.2))) (.leaf (.lit false)) := by cases s <;> kernel_rfl
theorem lin_ctx : Ctx PR (envOf eqsT (linT onF lTimes)) [8] (fun _ => none) 10 143 :=
  ctx_of (envOf_ok eqsT_ok (TabPOk.cons lo_ok (TabPOk.cons tm_ok TabPOk.nil))) mixed (fn := Tryz.f143) (by kernel_rfl) (by kernel_rfl) (by kernel_rfl) (tabOk_none _)
theorem lin_ok : CallOk PR 143 (fn2 kCv cLp.agg kBool inF) :=
  .inl ⟨enters_of (fn := Tryz.f143) (by kernel_rfl) (by kernel_rfl) (by kernel_rfl), pure2 lin_ctx fun s p => givesOf (lin_run onF lTimes s p) (holds_br (B := kBool) (holds_leaf rfl) (holds_leaf rfl))⟩
end Go.Rq.Sm

/- What closed runs lean on. -/
namespace Go.Rq.Cl
open Go Go.Proofs Go.Rq Go.Rq.Sm
end Go.Rq.Cl

/- Functions that hand back constant bytes. Written by a program of ours. -/
namespace Go.Rq.Cl
open Go Go.Proofs Go.Rq Go.Rq.Sm
end Go.Rq.Cl

/- Multiples of points of the little curves: tables. -/
namespace Go.Rq.Cl
open Go Go.Proofs Go.Rq Go.Rq.Sm

/-- A multiple: the suite, the point, the number, what comes. -/
structure TmE where
  s : Su
  x : Nat
  y : Nat
  z : Bool
  n : Nat
  rx : Nat
  ry : Nat
  rz : Bool
def TmE.p (e : TmE) : Lp := (BitVec.ofNat 64 e.x, BitVec.ofNat 64 e.y, e.z)
def TmE.r (e : TmE) : Lp := (BitVec.ofNat 64 e.rx, BitVec.ofNat 64 e.ry, e.rz)
def TmE.fact (e : TmE) : Prop := lTimes e.s e.p (BitVec.ofNat 64 e.n) = e.r
def eqSu : Su → Su → Bool
  | .lit, .lit => true
  | .mid, .mid => true
  | _, _ => false
theorem eqSu_ok {a b : Su} (h : eqSu a b = true) : a = b := by cases a <;> cases b <;> first | rfl | cases h
def eqU (a : BitVec 64) (n : Nat) : Bool := Nat.beq a.toNat (BitVec.ofNat 64 n).toNat
theorem eqU_ok {a : BitVec 64} {n : Nat} (h : eqU a n = true) : a = BitVec.ofNat 64 n := BitVec.eq_of_toNat_eq (Nat.eq_of_beq_eq_true h)
def eqBl (a b : Bool) : Bool := bif a then b else !b
theorem eqBl_ok {a b : Bool} (h : eqBl a b = true) : a = b := by cases a <;> cases b <;> first | rfl | cases h
def lookTm : List TmE → Su → Lp → BitVec 64 → Option Lp
  | [], _, _, _ => none
  | e :: t, s, p, n => bif eqU p.1 e.x then (bif eqU n e.n then (bif eqU p.2.1 e.y && (eqBl p.2.2 e.z && eqSu s e.s) then some e.r else lookTm t s p n) else lookTm t s p n) else lookTm t s p n
def TmOk (T : List TmE) : Prop := ∀ e ∈ T, e.fact
theorem TmOk.nil : TmOk [] := fun _ h => by cases h
theorem TmOk.cons {e : TmE} {T : List TmE} (h : e.fact) (t : TmOk T) : TmOk (e :: T) := fun d hd => by
  rcases List.mem_cons.1 hd with rfl | hd
  · exact h
  · exact t d hd
theorem lookTm_ok : ∀ {T : List TmE} {s : Su} {p : Lp} {n : BitVec 64} {r : Lp}, TmOk T → lookTm T s p n = some r → lTimes s p n = r
  | [], _, _, _, _, _, h => by cases h
  | e :: t, s, p, n, r, ok, h => by
    have rest : lookTm t s p n = some r → lTimes s p n = r := lookTm_ok (fun d hd => ok d (List.mem_cons_of_mem _ hd))
    simp only [lookTm] at h
    cases h1 : eqU p.1 e.x with
    | false => rw [h1] at h; exact rest h
    | true =>
      cases h2 : eqU n e.n with
      | false => rw [h1, h2] at h; exact rest h
      | true =>
        cases h3 : (eqU p.2.1 e.y && (eqBl p.2.2 e.z && eqSu s e.s)) with
        | false => rw [h1, h2, h3] at h; exact rest h
        | true =>
          rw [h1, h2, h3] at h
          simp only [cond_true, Option.some.injEq] at h
          simp only [Bool.and_eq_true] at h3
          obtain ⟨h3, h4, h5⟩ := h3
          have hp : p = e.p := by
            obtain ⟨a, b, c⟩ := p
            show (a, b, c) = _
            unfold TmE.p
            rw [← eqU_ok h1, ← eqU_ok h3, ← eqBl_ok h4]
          rw [hp, eqU_ok h2, eqSu_ok h5, ← h]
          exact ok e (List.mem_cons_self)
noncomputable def lTimesT (T : List TmE) (s : Su) (p : Lp) (n : BitVec 64) : Lp := match lookTm T s p n with
  | some r => r
  | none => lTimes s p n
theorem lTimesT_eq {T : List TmE} (h : TmOk T) : lTimesT T = lTimes := by
  funext s p n
  unfold lTimesT
  split
  · rename_i r hr; exact (lookTm_ok h hr).symm
  · rfl
noncomputable def inFT (T : List TmE) (s : Su) (p : Lp) : Bool := bif onF s p then (lTimesT T s p (suR s)).2.2 else false
theorem inFT_eq {T : List TmE} (h : TmOk T) : inFT T = inF := by
  funext s p
  unfold inFT inF
  rw [lTimesT_eq h]
end Go.Rq.Cl

/- Multiples of points of the little curves, each reckoned once. Written by a program of ours. -/
namespace Go.Rq.Cl
open Go Go.Proofs Go.Rq Go.Rq.Sm
def tme0 : TmE := ⟨.lit, 0, 0, true, 65521, 0, 0, true⟩
theorem tmf0 : lTimes tme0.s tme0.p (BitVec.ofNat 64 tme0.n) = tme0.r := by kernel_rfl
def tme1 : TmE := ⟨.lit, 140810, 235378, false, 65521, 0, 0, true⟩
theorem tmf1 : lTimes tme1.s tme1.p (BitVec.ofNat 64 tme1.n) = tme1.r := by kernel_rfl
def tme2 : TmE := ⟨.lit, 208957, 682018, false, 11, 260218, 412545, false⟩
theorem tmf2 : lTimes tme2.s tme2.p (BitVec.ofNat 64 tme2.n) = tme2.r := by kernel_rfl
def tme3 : TmE := ⟨.lit, 208957, 682018, false, 65521, 0, 0, true⟩
theorem tmf3 : lTimes tme3.s tme3.p (BitVec.ofNat 64 tme3.n) = tme3.r := by kernel_rfl
def tme4 : TmE := ⟨.lit, 208957, 682018, false, 7, 655008, 53940, false⟩
theorem tmf4 : lTimes tme4.s tme4.p (BitVec.ofNat 64 tme4.n) = tme4.r := by kernel_rfl
def tme5 : TmE := ⟨.lit, 227013, 574401, false, 65521, 0, 0, true⟩
theorem tmf5 : lTimes tme5.s tme5.p (BitVec.ofNat 64 tme5.n) = tme5.r := by kernel_rfl
def tme6 : TmE := ⟨.lit, 235929, 424835, false, 11, 227013, 574401, false⟩
theorem tmf6 : lTimes tme6.s tme6.p (BitVec.ofNat 64 tme6.n) = tme6.r := by kernel_rfl
def tme7 : TmE := ⟨.lit, 235929, 424835, false, 65521, 0, 0, true⟩
theorem tmf7 : lTimes tme7.s tme7.p (BitVec.ofNat 64 tme7.n) = tme7.r := by kernel_rfl
def tme8 : TmE := ⟨.lit, 235929, 424835, false, 7, 140810, 235378, false⟩
theorem tmf8 : lTimes tme8.s tme8.p (BitVec.ofNat 64 tme8.n) = tme8.r := by kernel_rfl
def tme9 : TmE := ⟨.lit, 260218, 412545, false, 65521, 0, 0, true⟩
theorem tmf9 : lTimes tme9.s tme9.p (BitVec.ofNat 64 tme9.n) = tme9.r := by kernel_rfl
def tme10 : TmE := ⟨.lit, 286073, 714627, false, 5, 227013, 574401, false⟩
theorem tmf10 : lTimes tme10.s tme10.p (BitVec.ofNat 64 tme10.n) = tme10.r := by kernel_rfl
def tme11 : TmE := ⟨.lit, 286073, 714627, false, 65521, 0, 0, true⟩
theorem tmf11 : lTimes tme11.s tme11.p (BitVec.ofNat 64 tme11.n) = tme11.r := by kernel_rfl
def tme12 : TmE := ⟨.lit, 286073, 714627, false, 9, 260218, 412545, false⟩
theorem tmf12 : lTimes tme12.s tme12.p (BitVec.ofNat 64 tme12.n) = tme12.r := by kernel_rfl
def tme13 : TmE := ⟨.lit, 489674, 271737, false, 5, 140810, 235378, false⟩
theorem tmf13 : lTimes tme13.s tme13.p (BitVec.ofNat 64 tme13.n) = tme13.r := by kernel_rfl
def tme14 : TmE := ⟨.lit, 489674, 271737, false, 65521, 0, 0, true⟩
theorem tmf14 : lTimes tme14.s tme14.p (BitVec.ofNat 64 tme14.n) = tme14.r := by kernel_rfl
def tme15 : TmE := ⟨.lit, 489674, 271737, false, 9, 655008, 53940, false⟩
theorem tmf15 : lTimes tme15.s tme15.p (BitVec.ofNat 64 tme15.n) = tme15.r := by kernel_rfl
def tme16 : TmE := ⟨.lit, 655008, 53940, false, 65521, 0, 0, true⟩
theorem tmf16 : lTimes tme16.s tme16.p (BitVec.ofNat 64 tme16.n) = tme16.r := by kernel_rfl
def tme17 : TmE := ⟨.lit, 9723, 164643, false, 11, 286073, 714627, false⟩
theorem tmf17 : lTimes tme17.s tme17.p (BitVec.ofNat 64 tme17.n) = tme17.r := by kernel_rfl
def tme18 : TmE := ⟨.lit, 9723, 164643, false, 5, 235929, 424835, false⟩
theorem tmf18 : lTimes tme18.s tme18.p (BitVec.ofNat 64 tme18.n) = tme18.r := by kernel_rfl
def tme19 : TmE := ⟨.lit, 9723, 164643, false, 65521, 0, 0, true⟩
theorem tmf19 : lTimes tme19.s tme19.p (BitVec.ofNat 64 tme19.n) = tme19.r := by kernel_rfl
def tme20 : TmE := ⟨.lit, 9723, 164643, false, 7, 489674, 271737, false⟩
theorem tmf20 : lTimes tme20.s tme20.p (BitVec.ofNat 64 tme20.n) = tme20.r := by kernel_rfl
def tme21 : TmE := ⟨.lit, 9723, 164643, false, 9, 208957, 682018, false⟩
theorem tmf21 : lTimes tme21.s tme21.p (BitVec.ofNat 64 tme21.n) = tme21.r := by kernel_rfl
end Go.Rq.Cl

/- The table of multiples. Written by a program of ours. -/
namespace Go.Rq.Cl
open Go Go.Proofs Go.Rq Go.Rq.Sm
def tmAll : List TmE := [tme0, tme1, tme2, tme3, tme4, tme5, tme6, tme7, tme8, tme9, tme10, tme11, tme12, tme13, tme14, tme15, tme16, tme17, tme18, tme19, tme20, tme21]
theorem tmAll_ok : TmOk tmAll := (TmOk.cons tmf0 (TmOk.cons tmf1 (TmOk.cons tmf2 (TmOk.cons tmf3 (TmOk.cons tmf4 (TmOk.cons tmf5 (TmOk.cons tmf6 (TmOk.cons tmf7 (TmOk.cons tmf8 (TmOk.cons tmf9 (TmOk.cons tmf10 (TmOk.cons tmf11 (TmOk.cons tmf12 (TmOk.cons tmf13 (TmOk.cons tmf14 (TmOk.cons tmf15 (TmOk.cons tmf16 (TmOk.cons tmf17 (TmOk.cons tmf18 (TmOk.cons tmf19 (TmOk.cons tmf20 (TmOk.cons tmf21 TmOk.nil))))))))))))))))))))))
theorem tmT_ok : CallOk PR 82 (fn3 kCv cLp.agg kU cLp.agg (lTimesT tmAll)) := by rw [lTimesT_eq tmAll_ok]; exact tm_ok
theorem linT_ok : CallOk PR 143 (fn2 kCv cLp.agg kBool (inFT tmAll)) := by rw [inFT_eq tmAll_ok]; exact lin_ok
end Go.Rq.Cl

/- SHA-256's block, reckoned by numbers where they are told. -/
namespace Go.Rq.Cl
open Go Go.Proofs Go.Rq Go.Rq.Sm

def allW : List Int → Bool
  | [] => true
  | .ofNat n :: t => Nat.blt n 4294967296 && allW t
  | _ => false
theorem allW_is : ∀ {l : List Int}, allW l = true → l = (natsOf l).map Int.ofNat ∧ ∀ x ∈ natsOf l, x < 4294967296
  | [], _ => ⟨rfl, fun x h => by simp [natsOf] at h⟩
  | .ofNat n :: t, h => by
    simp only [allW, Bool.and_eq_true] at h
    obtain ⟨h1, h2⟩ := allW_is h.2
    refine ⟨?_, fun x hx => ?_⟩
    · show Int.ofNat n :: t = Int.ofNat n :: (natsOf t).map Int.ofNat
      rw [← h1]
    · simp only [natsOf, List.mem_cons] at hx
      rcases hx with rfl | hx
      · exact Nat.le_of_ble_eq_true h.1
      · exact h2 x hx
  | .negSucc n :: t, h => by simp [allW] at h
theorem natsOf_len : ∀ (l : List Int), (natsOf l).length = l.length
  | [] => rfl
  | _ :: t => by simp only [natsOf, List.length_cons, natsOf_len t]
noncomputable def shaQ {γ : Type} (s b : List Int) (k : (Nat → Int) → γ) : γ :=
  bif (allW s && Nat.beq s.length 8) && (allBy b && Nat.beq b.length 64) then
    frcL frcN (nSha (natsOf s) (natsOf b)) fun z => k fun i => bif Nat.blt i 8 then Int.ofNat (z.getD i 0) else shaF (fnL s) (fnL b) i
  else k (shaF (fnL s) (fnL b))
theorem shaN_at {s b : List Int} (h1 : allW s = true) (h2 : s.length = 8) (h3 : allBy b = true) (h4 : b.length = 64) (i : Nat) (hi : i < 8) :
    Int.ofNat ((nSha (natsOf s) (natsOf b)).getD i 0) = shaF (fnL s) (fnL b) i := by
  obtain ⟨es, ls⟩ := allW_is h1
  obtain ⟨eb, lb⟩ := allBy_is h3
  have l8 : (natsOf s).length = 8 := by rw [natsOf_len]; exact h2
  have l64 : (natsOf b).length = 64 := by rw [natsOf_len]; exact h4
  generalize natsOf s = ns at es ls l8 ⊢
  generalize natsOf b = nb at eb lb l64 ⊢
  subst es
  subst eb
  match ns, l8, ls with
  | [a, c, d, e, f, g, h, j], _, ls =>
    have hv : V8 (fnL ([a, c, d, e, f, g, h, j].map Int.ofNat)) a c d e f g h j :=
      ⟨⟨rfl, ls _ (by simp)⟩, ⟨rfl, ls _ (by simp)⟩, ⟨rfl, ls _ (by simp)⟩, ⟨rfl, ls _ (by simp)⟩, ⟨rfl, ls _ (by simp)⟩, ⟨rfl, ls _ (by simp)⟩, ⟨rfl, ls _ (by simp)⟩, ⟨rfl, ls _ (by simp)⟩⟩
    obtain ⟨a', c', d', e', f', g', h', i', r1, r2⟩ := nSha_ok (s := fnL ([a, c, d, e, f, g, h, j].map Int.ofNat)) (b := fnL (nb.map Int.ofNat)) hv l64 (fun q hq => by
      rw [fnL_map (by rw [l64]; exact hq)]
      refine ⟨rfl, ?_⟩
      have hlt : q < nb.length := by rw [l64]; exact hq
      have : nb.getD q 0 ∈ nb := by
        rw [List.getD_eq_getElem?_getD, List.getElem?_eq_getElem hlt]
        exact List.getElem_mem hlt
      have := lb _ this
      omega)
    rw [r1]
    match i, hi with
    | 0, _ => exact r2.a.1.symm
    | 1, _ => exact r2.b.1.symm
    | 2, _ => exact r2.c.1.symm
    | 3, _ => exact r2.d.1.symm
    | 4, _ => exact r2.e.1.symm
    | 5, _ => exact r2.f.1.symm
    | 6, _ => exact r2.g.1.symm
    | 7, _ => exact r2.h.1.symm
theorem shaQ_eq {γ : Type} (s b : List Int) (k : (Nat → Int) → γ) : shaQ s b k = k (shaF (fnL s) (fnL b)) := by
  unfold shaQ
  cases hc : (allW s && Nat.beq s.length 8) && (allBy b && Nat.beq b.length 64) with
  | false => rw [cond_false]
  | true =>
    rw [cond_true, frcL_eq frcN_eq]
    obtain ⟨h1, h2⟩ := and_parts hc
    obtain ⟨h1, h3⟩ := and_parts h1
    obtain ⟨h2, h4⟩ := and_parts h2
    refine congrArg k (funext fun i => ?_)
    cases hi : Nat.blt i 8 with
    | false => rw [cond_false]
    | true =>
      rw [cond_true]
      exact shaN_at h1 (Nat.eq_of_beq_eq_true h3) h2 (Nat.eq_of_beq_eq_true h4) i (Nat.le_of_ble_eq_true hi)
noncomputable def specAN : AH → Nat → Option (AV × AH)
  | [(i, some ⟨wr, ty, cs⟩)], n => bif Nat.beq i 0 && (wr && (Nat.beq ty 258 && Nat.beq n 1)) then
      (match u32D 8 (cs.take 8), bytD 64 ((cs.drop 8).take 64), tailH (cs.drop 72) with
      | some s, some b, some (n, md) => shaQ s b fun z => some (.tup [], bpHeap2 z (fnL b) (.hash n md))
      | _, _, _ => none) else none
  | _, _ => none
noncomputable def specRN (h : AH) (n : Nat) : Option (AV × AH) := match rowH h n with
  | some (cs, wb, ds) => match u32D 8 cs with
    | some s => match bytD 64 ds with
      | some b => shaQ s b fun z => some (.tup [], bpHeap2 z (fnL b) (.row wb))
      | none => match bytD 64 (ds.take 64), bytD 64 (ds.drop 64) with
        | some b, some q => shaQ s b fun z => some (.tup [], bpHeap2 z (fnL b) (.low wb (fnL q)))
        | _, _ => none
    | none => none
  | none => none
noncomputable def specHN (h : AH) (n : Nat) : Option (AV × AH) := match rowH h n with
  | some (cs, wb, ds) => match u32D 8 cs with
    | some s => match bytD 64 (ds.take 64), bytD 64 (ds.drop 64) with
      | some q, some b => shaQ s b fun z => some (.tup [], bpHeap2 z (fnL b) (.high wb (fnL q)))
      | _, _ => none
    | none => none
  | none => none
noncomputable def bkSpecN (args : List AV) (h : AH) (n : Nat) : Option (AV × AH) :=
  bif isA args then specAN h n else bif isB 0 args then specRN h n else bif isB 64 args then specHN h n else none
theorem specAN_eq : specAN = specA shaF := by
  funext h n
  unfold specAN
  simp only [shaQ_eq]
  rfl
theorem specRN_eq : specRN = specR shaF := by
  funext h n
  unfold specRN
  simp only [shaQ_eq]
  rfl
theorem specHN_eq : specHN = specH shaF := by
  funext h n
  unfold specHN
  simp only [shaQ_eq]
  rfl
theorem bkSpecN_eq : bkSpecN = bkSpec shaF := by
  funext args h n
  unfold bkSpecN bkSpec
  rw [specAN_eq, specRN_eq, specHN_eq]
noncomputable def bkN : List AV → AH → Nat → Option (Bool × AV × AH) := deepS bkSpecN 4096 false
theorem bkN_ok : ActOk PR 4096 207 bkN := by
  unfold bkN
  rw [bkSpecN_eq]
  exact bk_ok 4096
end Go.Rq.Cl

/- A closed law's functions, each gone through where it is called. Written by a program of ours. -/
namespace Go.Rq.Cl
open Go Go.Proofs Go.Rq Go.Rq.Sm

/-! reliquary/modulus.Base -/
noncomputable def e141 : Env := envD eqsT [] [] [] [] [9] false []
theorem e141_ok : EnvOk PR e141 := envD_ok eqsT_ok TabPOk.nil TabHOk.nil TabLOk.nil TabDOk.nil
theorem cx141 : Ctx PR e141 [] (fun _ => none) 2000 141 := ctx_of e141_ok mixed (fn := Go.Proofs.Tryz.f141) (by kernel_rfl) (by kernel_rfl) (by kernel_rfl) (tabOk_none _)
theorem n141 : Enters PR 141 := enters_of (fn := Go.Proofs.Tryz.f141) (by kernel_rfl) (by kernel_rfl) (by kernel_rfl)
noncomputable def g141 : List AV → Option (Bool × AV) := (inlineC PR e141 1 2000 141)
theorem g141_ok : CallOk PR 141 g141 := (.inl ⟨n141, inlineC_ok cx141 rfl rfl⟩)

/-! reliquary/curve.below -/
noncomputable def e156 : Env := envD eqsT [(45, (fn2 c6.agg c6.agg (kInt .i64) fun a b => chainV (cmpL a b) 0)), (141, g141)] [] [] [] [9] false []
theorem e156_ok : EnvOk PR e156 := envD_ok eqsT_ok (TabPOk.cons cmp_ok (TabPOk.cons g141_ok TabPOk.nil)) TabHOk.nil TabLOk.nil TabDOk.nil
theorem cx156 : Ctx PR e156 [] (fun _ => none) 2000 156 := ctx_of e156_ok mixed (fn := Go.Proofs.Tryz.f156) (by kernel_rfl) (by kernel_rfl) (by kernel_rfl) (tabOk_none _)
theorem n156 : Enters PR 156 := enters_of (fn := Go.Proofs.Tryz.f156) (by kernel_rfl) (by kernel_rfl) (by kernel_rfl)
noncomputable def g156 : List AV → Option (Bool × AV) := (inlineC PR e156 3 2000 156)
theorem g156_ok : CallOk PR 156 g156 := (.inl ⟨n156, inlineC_ok cx156 rfl rfl⟩)

/-! reliquary/curve.below1 -/
noncomputable def e120 : Env := envD eqsT [(156, g156)] [] [] [] [9] false []
theorem e120_ok : EnvOk PR e120 := envD_ok eqsT_ok (TabPOk.cons g156_ok TabPOk.nil) TabHOk.nil TabLOk.nil TabDOk.nil
theorem cx120 : Ctx PR e120 [] (fun _ => none) 2000 120 := ctx_of e120_ok mixed (fn := Go.Proofs.Tryz.f120) (by kernel_rfl) (by kernel_rfl) (by kernel_rfl) (tabOk_none _)
theorem n120 : Enters PR 120 := enters_of (fn := Go.Proofs.Tryz.f120) (by kernel_rfl) (by kernel_rfl) (by kernel_rfl)
noncomputable def g120 : List AV → Option (Bool × AV) := (inlineC PR e120 4 2000 120)
theorem g120_ok : CallOk PR 120 g120 := (.inl ⟨n120, inlineC_ok cx120 rfl rfl⟩)

/-! reliquary/mont.prime -/
noncomputable def e187 : Env := envD eqsT [] [] [] [] [9] false []
theorem e187_ok : EnvOk PR e187 := envD_ok eqsT_ok TabPOk.nil TabHOk.nil TabLOk.nil TabDOk.nil
theorem cx187 : Ctx PR e187 [] (fun _ => none) 2000 187 := ctx_of e187_ok mixed (fn := Go.Proofs.Tryz.f187) (by kernel_rfl) (by kernel_rfl) (by kernel_rfl) (tabOk_none _)
theorem n187 : Enters PR 187 := enters_of (fn := Go.Proofs.Tryz.f187) (by kernel_rfl) (by kernel_rfl) (by kernel_rfl)
noncomputable def g187 : List AV → Option (Bool × AV) := (inlineC PR e187 1 2000 187)
theorem g187_ok : CallOk PR 187 g187 := (.inl ⟨n187, inlineC_ok cx187 rfl rfl⟩)

/-! reliquary/mont.less -/
noncomputable def e186 : Env := envD eqsT [(118, (fn3 kU kU kBit kUB sub64)), (187, g187)] [] [] [] [9] false []
theorem e186_ok : EnvOk PR e186 := envD_ok eqsT_ok (TabPOk.cons sub64_ok (TabPOk.cons g187_ok TabPOk.nil)) TabHOk.nil TabLOk.nil TabDOk.nil
theorem cx186 : Ctx PR e186 [] (fun _ => none) 2000 186 := ctx_of e186_ok mixed (fn := Go.Proofs.Tryz.f186) (by kernel_rfl) (by kernel_rfl) (by kernel_rfl) (tabOk_none _)
theorem n186 : Enters PR 186 := enters_of (fn := Go.Proofs.Tryz.f186) (by kernel_rfl) (by kernel_rfl) (by kernel_rfl)
noncomputable def g186 : List AV → Option (Bool × AV) := (inlineC PR e186 5 2000 186)
theorem g186_ok : CallOk PR 186 g186 := (.inl ⟨n186, inlineC_ok cx186 rfl rfl⟩)

/-! reliquary/mont.Mul -/
noncomputable def e160 : Env := envD eqsT [(128, (fn2 kU kU kUU mul64)), (129, (fn3 kU kU kBit kUB add64)), (186, g186), (187, g187)] [] [] [] [9] false []
theorem e160_ok : EnvOk PR e160 := envD_ok eqsT_ok (TabPOk.cons mul64_ok (TabPOk.cons add64_ok (TabPOk.cons g186_ok (TabPOk.cons g187_ok TabPOk.nil)))) TabHOk.nil TabLOk.nil TabDOk.nil
theorem cx160 : Ctx PR e160 [] (fun _ => none) 2000 160 := ctx_of e160_ok mixed (fn := Go.Proofs.Tryz.f160) (by kernel_rfl) (by kernel_rfl) (by kernel_rfl) (tabOk_none _)
theorem n160 : Enters PR 160 := enters_of (fn := Go.Proofs.Tryz.f160) (by kernel_rfl) (by kernel_rfl) (by kernel_rfl)
noncomputable def g160 : List AV → Option (Bool × AV) := (inlineC PR e160 8 2000 160)
theorem g160_ok : CallOk PR 160 g160 := (.inl ⟨n160, inlineC_ok cx160 rfl rfl⟩)

/-! reliquary/mont.wide -/
noncomputable def e185 : Env := envD eqsT [] [] [] [] [9] false []
theorem e185_ok : EnvOk PR e185 := envD_ok eqsT_ok TabPOk.nil TabHOk.nil TabLOk.nil TabDOk.nil
theorem cx185 : Ctx PR e185 [] (fun _ => none) 2000 185 := ctx_of e185_ok mixed (fn := Go.Proofs.Tryz.f185) (by kernel_rfl) (by kernel_rfl) (by kernel_rfl) (tabOk_none _)
theorem n185 : Enters PR 185 := enters_of (fn := Go.Proofs.Tryz.f185) (by kernel_rfl) (by kernel_rfl) (by kernel_rfl)
noncomputable def g185 : List AV → Option (Bool × AV) := (inlineC PR e185 1 2000 185)
theorem g185_ok : CallOk PR 185 g185 := (.inl ⟨n185, inlineC_ok cx185 rfl rfl⟩)

/-! reliquary/mont.To -/
noncomputable def e157 : Env := envD eqsT [(160, g160), (185, g185)] [] [] [] [9] false []
theorem e157_ok : EnvOk PR e157 := envD_ok eqsT_ok (TabPOk.cons g160_ok (TabPOk.cons g185_ok TabPOk.nil)) TabHOk.nil TabLOk.nil TabDOk.nil
theorem cx157 : Ctx PR e157 [] (fun _ => none) 2000 157 := ctx_of e157_ok mixed (fn := Go.Proofs.Tryz.f157) (by kernel_rfl) (by kernel_rfl) (by kernel_rfl) (tabOk_none _)
theorem n157 : Enters PR 157 := enters_of (fn := Go.Proofs.Tryz.f157) (by kernel_rfl) (by kernel_rfl) (by kernel_rfl)
noncomputable def g157 : List AV → Option (Bool × AV) := (inlineC PR e157 3 2000 157)
theorem g157_ok : CallOk PR 157 g157 := (.inl ⟨n157, inlineC_ok cx157 rfl rfl⟩)

/-! reliquary/curve.in1 -/
noncomputable def e121 : Env := envD eqsT [(157, g157)] [] [] [] [9] false []
theorem e121_ok : EnvOk PR e121 := envD_ok eqsT_ok (TabPOk.cons g157_ok TabPOk.nil) TabHOk.nil TabLOk.nil TabDOk.nil
theorem cx121 : Ctx PR e121 [] (fun _ => none) 2000 121 := ctx_of e121_ok mixed (fn := Go.Proofs.Tryz.f121) (by kernel_rfl) (by kernel_rfl) (by kernel_rfl) (tabOk_none _)
theorem n121 : Enters PR 121 := enters_of (fn := Go.Proofs.Tryz.f121) (by kernel_rfl) (by kernel_rfl) (by kernel_rfl)
noncomputable def g121 : List AV → Option (Bool × AV) := (inlineC PR e121 4 2000 121)
theorem g121_ok : CallOk PR 121 g121 := (.inl ⟨n121, inlineC_ok cx121 rfl rfl⟩)

/-! reliquary/mont.One -/
noncomputable def e162 : Env := envD eqsT [] [] [] [] [9] false []
theorem e162_ok : EnvOk PR e162 := envD_ok eqsT_ok TabPOk.nil TabHOk.nil TabLOk.nil TabDOk.nil
theorem cx162 : Ctx PR e162 [] (fun _ => none) 2000 162 := ctx_of e162_ok mixed (fn := Go.Proofs.Tryz.f162) (by kernel_rfl) (by kernel_rfl) (by kernel_rfl) (tabOk_none _)
theorem n162 : Enters PR 162 := enters_of (fn := Go.Proofs.Tryz.f162) (by kernel_rfl) (by kernel_rfl) (by kernel_rfl)
noncomputable def g162 : List AV → Option (Bool × AV) := (inlineC PR e162 1 2000 162)
theorem g162_ok : CallOk PR 162 g162 := (.inl ⟨n162, inlineC_ok cx162 rfl rfl⟩)

/-! reliquary/mont.Add -/
noncomputable def e158 : Env := envD eqsT [(129, (fn3 kU kU kBit kUB add64)), (186, g186)] [] [] [] [9] false []
theorem e158_ok : EnvOk PR e158 := envD_ok eqsT_ok (TabPOk.cons add64_ok (TabPOk.cons g186_ok TabPOk.nil)) TabHOk.nil TabLOk.nil TabDOk.nil
theorem cx158 : Ctx PR e158 [] (fun _ => none) 2000 158 := ctx_of e158_ok mixed (fn := Go.Proofs.Tryz.f158) (by kernel_rfl) (by kernel_rfl) (by kernel_rfl) (tabOk_none _)
theorem n158 : Enters PR 158 := enters_of (fn := Go.Proofs.Tryz.f158) (by kernel_rfl) (by kernel_rfl) (by kernel_rfl)
noncomputable def g158 : List AV → Option (Bool × AV) := (inlineC PR e158 5 2000 158)
theorem g158_ok : CallOk PR 158 g158 := (.inl ⟨n158, inlineC_ok cx158 rfl rfl⟩)

/-! reliquary/mont.Sub -/
/-! reliquary/mont.Pow -/
/-! reliquary/mont.Inv -/
/-! reliquary/curve.first -/
noncomputable def e122 : Env := envD eqsT [(27, (fn1 kU c6.agg ofW)), (157, g157), (162, g162)] [] [] [] [9] false []
theorem e122_ok : EnvOk PR e122 := envD_ok eqsT_ok (TabPOk.cons of_ok (TabPOk.cons g157_ok (TabPOk.cons g162_ok TabPOk.nil))) TabHOk.nil TabLOk.nil TabDOk.nil
theorem cx122 : Ctx PR e122 [] (fun _ => none) 2000 122 := ctx_of e122_ok mixed (fn := Go.Proofs.Tryz.f122) (by kernel_rfl) (by kernel_rfl) (by kernel_rfl) (tabOk_none _)
theorem n122 : Enters PR 122 := enters_of (fn := Go.Proofs.Tryz.f122) (by kernel_rfl) (by kernel_rfl) (by kernel_rfl)
noncomputable def g122 : List AV → AH → Nat → Option (Bool × AV × AH) := deepC PR e122 3 2000 122 4096 true
theorem g122_ok : ActOk PR 4096 122 g122 := deepC_ok cx122 rfl rfl

/-! (reliquary/curve.field[reliquary/mont.El]).on -/
noncomputable def e163 : Env := envA eqsT [(160, g160), (158, g158)] [] [] [] [] [] true []
theorem e163_ok : EnvOk PR e163 := envA_ok eqsT_ok (TabPOk.cons g160_ok (TabPOk.cons g158_ok TabPOk.nil)) TabHOk.nil TabLOk.nil TabAOk.nil
theorem cx163 : Ctx PR e163 [] (fun _ => none) 2000 163 := ctx_of e163_ok mixed (fn := Go.Proofs.Tryz.f163) (by kernel_rfl) (by kernel_rfl) (by kernel_rfl) (tabOk_none _)
theorem n163 : Enters PR 163 := enters_of (fn := Go.Proofs.Tryz.f163) (by kernel_rfl) (by kernel_rfl) (by kernel_rfl)
noncomputable def g163 : List AV → AH → Nat → Option (Bool × AV × AH) := deepC PR e163 6 2000 163 4096 true
theorem g163_ok : ActOk PR 4096 163 g163 := deepC_ok cx163 rfl rfl

/-! (reliquary/curve.field[reliquary/mont.El]).in -/
noncomputable def e149 : Env := envD eqsT [] [] [] [(163, g163)] [9] false [163]
theorem e149_ok : EnvOk PR e149 := envD_ok eqsT_ok TabPOk.nil TabHOk.nil TabLOk.nil (TabDOk.cons n163 g163_ok TabDOk.nil)
theorem cx149 : Ctx PR e149 [] (fun _ => none) 2000 149 := ctx_of e149_ok mixed (fn := Go.Proofs.Tryz.f149) (by kernel_rfl) (by kernel_rfl) (by kernel_rfl) (tabOk_none _)
theorem n149 : Enters PR 149 := enters_of (fn := Go.Proofs.Tryz.f149) (by kernel_rfl) (by kernel_rfl) (by kernel_rfl)
noncomputable def g149 : List AV → AH → Nat → Option (Bool × AV × AH) := deepC PR e149 5 2000 149 4096 true
theorem g149_ok : ActOk PR 4096 149 g149 := deepC_ok cx149 rfl rfl

/-! reliquary/curve.In1 -/
noncomputable def e109 : Env := envD eqsT [(120, g120), (121, g121)] [] [] [(122, g122), (149, g149)] [9] false [122, 149]
theorem e109_ok : EnvOk PR e109 := envD_ok eqsT_ok (TabPOk.cons g120_ok (TabPOk.cons g121_ok TabPOk.nil)) TabHOk.nil TabLOk.nil (TabDOk.cons n122 g122_ok (TabDOk.cons n149 g149_ok TabDOk.nil))
theorem cx109 : Ctx PR e109 [] (fun _ => none) 2000 109 := ctx_of e109_ok mixed (fn := Go.Proofs.Tryz.f109) (by kernel_rfl) (by kernel_rfl) (by kernel_rfl) (tabOk_none _)
theorem n109 : Enters PR 109 := enters_of (fn := Go.Proofs.Tryz.f109) (by kernel_rfl) (by kernel_rfl) (by kernel_rfl)
noncomputable def g109 : List AV → Option (Bool × AV) := (inlineC PR e109 4 2000 109)
theorem g109_ok : CallOk PR 109 g109 := (.inl ⟨n109, inlineC_ok cx109 rfl rfl⟩)

/-! reliquary/little.of -/
noncomputable def e79 : Env := envD eqsT [] [] [] [] [9] false []
theorem e79_ok : EnvOk PR e79 := envD_ok eqsT_ok TabPOk.nil TabHOk.nil TabLOk.nil TabDOk.nil
theorem cx79 : Ctx PR e79 [] (fun _ => none) 2000 79 := ctx_of e79_ok mixed (fn := Go.Proofs.Tryz.f79) (by kernel_rfl) (by kernel_rfl) (by kernel_rfl) (tabOk_none _)
theorem n79 : Enters PR 79 := enters_of (fn := Go.Proofs.Tryz.f79) (by kernel_rfl) (by kernel_rfl) (by kernel_rfl)
noncomputable def g79 : List AV → Option (Bool × AV) := (inlineC PR e79 4 2000 79)
theorem g79_ok : CallOk PR 79 g79 := (.inl ⟨n79, inlineC_ok cx79 rfl rfl⟩)

/-! reliquary/little.In -/
noncomputable def e110 : Env := envD eqsT [(79, g79), (143, (fn2 kCv cLp.agg kBool (inFT tmAll)))] [] [] [] [9] false []
theorem e110_ok : EnvOk PR e110 := envD_ok eqsT_ok (TabPOk.cons g79_ok (TabPOk.cons linT_ok TabPOk.nil)) TabHOk.nil TabLOk.nil TabDOk.nil
theorem cx110 : Ctx PR e110 [] (fun _ => none) 2000 110 := ctx_of e110_ok mixed (fn := Go.Proofs.Tryz.f110) (by kernel_rfl) (by kernel_rfl) (by kernel_rfl) (tabOk_none _)
theorem n110 : Enters PR 110 := enters_of (fn := Go.Proofs.Tryz.f110) (by kernel_rfl) (by kernel_rfl) (by kernel_rfl)
noncomputable def g110 : List AV → Option (Bool × AV) := (inlineC PR e110 5 2000 110)
theorem g110_ok : CallOk PR 110 g110 := (.inl ⟨n110, inlineC_ok cx110 rfl rfl⟩)

/-! reliquary/suite.KeyCheck -/
noncomputable def e66 : Env := envD eqsT [(109, g109), (110, g110)] [] [] [] [9] false []
theorem e66_ok : EnvOk PR e66 := envD_ok eqsT_ok (TabPOk.cons g109_ok (TabPOk.cons g110_ok TabPOk.nil)) TabHOk.nil TabLOk.nil TabDOk.nil
theorem cx66 : Ctx PR e66 [] (fun _ => none) 2000 66 := ctx_of e66_ok mixed (fn := Go.Proofs.Tryz.f66) (by kernel_rfl) (by kernel_rfl) (by kernel_rfl) (tabOk_none _)
theorem n66 : Enters PR 66 := enters_of (fn := Go.Proofs.Tryz.f66) (by kernel_rfl) (by kernel_rfl) (by kernel_rfl)
noncomputable def g66 : List AV → Option (Bool × AV) := (inlineC PR e66 5 2000 66)
theorem g66_ok : CallOk PR 66 g66 := (.inl ⟨n66, inlineC_ok cx66 rfl rfl⟩)

/-! reliquary/channel.other -/
noncomputable def e57 : Env := envD eqsT [(66, g66)] [] [] [] [9] false []
theorem e57_ok : EnvOk PR e57 := envD_ok eqsT_ok (TabPOk.cons g66_ok TabPOk.nil) TabHOk.nil TabLOk.nil TabDOk.nil
theorem cx57 : Ctx PR e57 [] (fun _ => none) 2000 57 := ctx_of e57_ok mixed (fn := Go.Proofs.Tryz.f57) (by kernel_rfl) (by kernel_rfl) (by kernel_rfl) (tabOk_none _)
theorem n57 : Enters PR 57 := enters_of (fn := Go.Proofs.Tryz.f57) (by kernel_rfl) (by kernel_rfl) (by kernel_rfl)
noncomputable def g57 : List AV → Option (Bool × AV) := (inlineC PR e57 5 2000 57)
theorem g57_ok : CallOk PR 57 g57 := (.inl ⟨n57, inlineC_ok cx57 rfl rfl⟩)

/-! reliquary/suite.known -/
noncomputable def e72 : Env := envD eqsT [] [] [] [] [9] false []
theorem e72_ok : EnvOk PR e72 := envD_ok eqsT_ok TabPOk.nil TabHOk.nil TabLOk.nil TabDOk.nil
theorem cx72 : Ctx PR e72 [] (fun _ => none) 2000 72 := ctx_of e72_ok mixed (fn := Go.Proofs.Tryz.f72) (by kernel_rfl) (by kernel_rfl) (by kernel_rfl) (tabOk_none _)
theorem n72 : Enters PR 72 := enters_of (fn := Go.Proofs.Tryz.f72) (by kernel_rfl) (by kernel_rfl) (by kernel_rfl)
noncomputable def g72 : List AV → Option (Bool × AV) := (inlineC PR e72 4 2000 72)
theorem g72_ok : CallOk PR 72 g72 := (.inl ⟨n72, inlineC_ok cx72 rfl rfl⟩)

/-! reliquary/little.Order -/
noncomputable def e116 : Env := envD eqsT [(79, g79)] [] [] [] [9] false []
theorem e116_ok : EnvOk PR e116 := envD_ok eqsT_ok (TabPOk.cons g79_ok TabPOk.nil) TabHOk.nil TabLOk.nil TabDOk.nil
theorem cx116 : Ctx PR e116 [] (fun _ => none) 2000 116 := ctx_of e116_ok mixed (fn := Go.Proofs.Tryz.f116) (by kernel_rfl) (by kernel_rfl) (by kernel_rfl) (tabOk_none _)
theorem n116 : Enters PR 116 := enters_of (fn := Go.Proofs.Tryz.f116) (by kernel_rfl) (by kernel_rfl) (by kernel_rfl)
noncomputable def g116 : List AV → Option (Bool × AV) := (inlineC PR e116 4 2000 116)
theorem g116_ok : CallOk PR 116 g116 := (.inl ⟨n116, inlineC_ok cx116 rfl rfl⟩)

/-! reliquary/suite.order -/
noncomputable def e73 : Env := envD eqsT [(27, (fn1 kU c6.agg ofW)), (116, g116)] [] [] [] [9] false []
theorem e73_ok : EnvOk PR e73 := envD_ok eqsT_ok (TabPOk.cons of_ok (TabPOk.cons g116_ok TabPOk.nil)) TabHOk.nil TabLOk.nil TabDOk.nil
theorem cx73 : Ctx PR e73 [] (fun _ => none) 2000 73 := ctx_of e73_ok mixed (fn := Go.Proofs.Tryz.f73) (by kernel_rfl) (by kernel_rfl) (by kernel_rfl) (tabOk_none _)
theorem n73 : Enters PR 73 := enters_of (fn := Go.Proofs.Tryz.f73) (by kernel_rfl) (by kernel_rfl) (by kernel_rfl)
noncomputable def g73 : List AV → Option (Bool × AV) := (inlineC PR e73 4 2000 73)
theorem g73_ok : CallOk PR 73 g73 := (.inl ⟨n73, inlineC_ok cx73 rfl rfl⟩)

/-! reliquary/suite.Order -/
noncomputable def e31 : Env := envD eqsT [(72, g72), (73, g73)] [] [] [] [9] false []
theorem e31_ok : EnvOk PR e31 := envD_ok eqsT_ok (TabPOk.cons g72_ok (TabPOk.cons g73_ok TabPOk.nil)) TabHOk.nil TabLOk.nil TabDOk.nil
theorem cx31 : Ctx PR e31 [] (fun _ => none) 2000 31 := ctx_of e31_ok mixed (fn := Go.Proofs.Tryz.f31) (by kernel_rfl) (by kernel_rfl) (by kernel_rfl) (tabOk_none _)
theorem n31 : Enters PR 31 := enters_of (fn := Go.Proofs.Tryz.f31) (by kernel_rfl) (by kernel_rfl) (by kernel_rfl)
noncomputable def g31 : List AV → Option (Bool × AV) := (inlineC PR e31 4 2000 31)
theorem g31_ok : CallOk PR 31 g31 := (.inl ⟨n31, inlineC_ok cx31 rfl rfl⟩)

/-! reliquary/channel.secretOf -/
noncomputable def e65 : Env := envD eqsT [(31, g31), (45, (fn2 c6.agg c6.agg (kInt .i64) fun a b => chainV (cmpL a b) 0))] [] [] [] [9] false []
theorem e65_ok : EnvOk PR e65 := envD_ok eqsT_ok (TabPOk.cons g31_ok (TabPOk.cons cmp_ok TabPOk.nil)) TabHOk.nil TabLOk.nil TabDOk.nil
theorem cx65 : Ctx PR e65 [] (fun _ => none) 2000 65 := ctx_of e65_ok mixed (fn := Go.Proofs.Tryz.f65) (by kernel_rfl) (by kernel_rfl) (by kernel_rfl) (tabOk_none _)
theorem n65 : Enters PR 65 := enters_of (fn := Go.Proofs.Tryz.f65) (by kernel_rfl) (by kernel_rfl) (by kernel_rfl)
noncomputable def g65 : List AV → Option (Bool × AV) := (inlineC PR e65 5 2000 65)
theorem g65_ok : CallOk PR 65 g65 := (.inl ⟨n65, inlineC_ok cx65 rfl rfl⟩)

/-! reliquary/channel.wrong -/
noncomputable def e51 : Env := envD eqsT [(57, g57), (65, g65)] [] [] [] [9] false []
theorem e51_ok : EnvOk PR e51 := envD_ok eqsT_ok (TabPOk.cons g57_ok (TabPOk.cons g65_ok TabPOk.nil)) TabHOk.nil TabLOk.nil TabDOk.nil
theorem cx51 : Ctx PR e51 [] (fun _ => none) 2000 51 := ctx_of e51_ok mixed (fn := Go.Proofs.Tryz.f51) (by kernel_rfl) (by kernel_rfl) (by kernel_rfl) (tabOk_none _)
theorem n51 : Enters PR 51 := enters_of (fn := Go.Proofs.Tryz.f51) (by kernel_rfl) (by kernel_rfl) (by kernel_rfl)
noncomputable def g51 : List AV → Option (Bool × AV) := (inlineC PR e51 5 2000 51)
theorem g51_ok : CallOk PR 51 g51 := (.inl ⟨n51, inlineC_ok cx51 rfl rfl⟩)

/-! reliquary/little.checked -/
noncomputable def e81 : Env := envD eqsT [(79, g79), (125, (fn2 kCv cLp.agg kBool onF))] [] [] [] [9] false []
theorem e81_ok : EnvOk PR e81 := envD_ok eqsT_ok (TabPOk.cons g79_ok (TabPOk.cons lo_ok TabPOk.nil)) TabHOk.nil TabLOk.nil TabDOk.nil
theorem cx81 : Ctx PR e81 [] (fun _ => none) 2000 81 := ctx_of e81_ok mixed (fn := Go.Proofs.Tryz.f81) (by kernel_rfl) (by kernel_rfl) (by kernel_rfl) (tabOk_none _)
theorem n81 : Enters PR 81 := enters_of (fn := Go.Proofs.Tryz.f81) (by kernel_rfl) (by kernel_rfl) (by kernel_rfl)
noncomputable def g81 : List AV → AH → Nat → Option (Bool × AV × AH) := deepC PR e81 5 2000 81 4096 true
theorem g81_ok : ActOk PR 4096 81 g81 := deepC_ok cx81 rfl rfl

/-! reliquary/little.written -/
noncomputable def e137 : Env := envD eqsT [] [] [] [] [9] false []
theorem e137_ok : EnvOk PR e137 := envD_ok eqsT_ok TabPOk.nil TabHOk.nil TabLOk.nil TabDOk.nil
theorem cx137 : Ctx PR e137 [] (fun _ => none) 2000 137 := ctx_of e137_ok mixed (fn := Go.Proofs.Tryz.f137) (by kernel_rfl) (by kernel_rfl) (by kernel_rfl) (tabOk_none _)
theorem n137 : Enters PR 137 := enters_of (fn := Go.Proofs.Tryz.f137) (by kernel_rfl) (by kernel_rfl) (by kernel_rfl)
noncomputable def g137 : List AV → Option (Bool × AV) := (inlineC PR e137 6 2000 137)
theorem g137_ok : CallOk PR 137 g137 := (.inl ⟨n137, inlineC_ok cx137 rfl rfl⟩)

/-! reliquary/little.Bytes -/
noncomputable def e97 : Env := envD eqsT [(137, g137)] [] [] [(81, g81)] [9] false [81]
theorem e97_ok : EnvOk PR e97 := envD_ok eqsT_ok (TabPOk.cons g137_ok TabPOk.nil) TabHOk.nil TabLOk.nil (TabDOk.cons n81 g81_ok TabDOk.nil)
theorem cx97 : Ctx PR e97 [] (fun _ => none) 2000 97 := ctx_of e97_ok mixed (fn := Go.Proofs.Tryz.f97) (by kernel_rfl) (by kernel_rfl) (by kernel_rfl) (tabOk_none _)
theorem n97 : Enters PR 97 := enters_of (fn := Go.Proofs.Tryz.f97) (by kernel_rfl) (by kernel_rfl) (by kernel_rfl)
noncomputable def g97 : List AV → AH → Nat → Option (Bool × AV × AH) := deepC PR e97 5 2000 97 4096 true
theorem g97_ok : ActOk PR 4096 97 g97 := deepC_ok cx97 rfl rfl

/-! reliquary/suite.KeyBytes -/
noncomputable def e52 : Env := envD eqsT [(66, g66)] [] [] [(97, g97)] [9] false [97]
theorem e52_ok : EnvOk PR e52 := envD_ok eqsT_ok (TabPOk.cons g66_ok TabPOk.nil) TabHOk.nil TabLOk.nil (TabDOk.cons n97 g97_ok TabDOk.nil)
theorem cx52 : Ctx PR e52 [] (fun _ => none) 2000 52 := ctx_of e52_ok mixed (fn := Go.Proofs.Tryz.f52) (by kernel_rfl) (by kernel_rfl) (by kernel_rfl) (tabOk_none _)
theorem n52 : Enters PR 52 := enters_of (fn := Go.Proofs.Tryz.f52) (by kernel_rfl) (by kernel_rfl) (by kernel_rfl)
noncomputable def g52 : List AV → AH → Nat → Option (Bool × AV × AH) := deepC PR e52 5 2000 52 4096 true
theorem g52_ok : ActOk PR 4096 52 g52 := deepC_ok cx52 rfl rfl

/-! reliquary/little.Gen -/
noncomputable def e34 : Env := envD eqsT [(79, g79)] [] [] [] [9] false []
theorem e34_ok : EnvOk PR e34 := envD_ok eqsT_ok (TabPOk.cons g79_ok TabPOk.nil) TabHOk.nil TabLOk.nil TabDOk.nil
theorem cx34 : Ctx PR e34 [] (fun _ => none) 2000 34 := ctx_of e34_ok mixed (fn := Go.Proofs.Tryz.f34) (by kernel_rfl) (by kernel_rfl) (by kernel_rfl) (tabOk_none _)
theorem n34 : Enters PR 34 := enters_of (fn := Go.Proofs.Tryz.f34) (by kernel_rfl) (by kernel_rfl) (by kernel_rfl)
noncomputable def g34 : List AV → Option (Bool × AV) := (inlineC PR e34 4 2000 34)
theorem g34_ok : CallOk PR 34 g34 := (.inl ⟨n34, inlineC_ok cx34 rfl rfl⟩)

/-! reliquary/suite.Gen -/
noncomputable def e8 : Env := envD eqsT [(34, g34)] [] [] [] [9] false []
theorem e8_ok : EnvOk PR e8 := envD_ok eqsT_ok (TabPOk.cons g34_ok TabPOk.nil) TabHOk.nil TabLOk.nil TabDOk.nil
theorem cx8 : Ctx PR e8 [] (fun _ => none) 2000 8 := ctx_of e8_ok mixed (fn := Go.Proofs.Tryz.f8) (by kernel_rfl) (by kernel_rfl) (by kernel_rfl) (tabOk_none _)
theorem n8 : Enters PR 8 := enters_of (fn := Go.Proofs.Tryz.f8) (by kernel_rfl) (by kernel_rfl) (by kernel_rfl)
noncomputable def g8 : List AV → Option (Bool × AV) := (inlineC PR e8 5 2000 8)
theorem g8_ok : CallOk PR 8 g8 := (.inl ⟨n8, inlineC_ok cx8 rfl rfl⟩)

/-! reliquary/suite.keys -/
noncomputable def e35 : Env := envD eqsT [(45, (fn2 c6.agg c6.agg (kInt .i64) fun a b => chainV (cmpL a b) 0)), (66, g66), (73, g73)] [] [] [] [9] false []
theorem e35_ok : EnvOk PR e35 := envD_ok eqsT_ok (TabPOk.cons cmp_ok (TabPOk.cons g66_ok (TabPOk.cons g73_ok TabPOk.nil))) TabHOk.nil TabLOk.nil TabDOk.nil
theorem cx35 : Ctx PR e35 [] (fun _ => none) 2000 35 := ctx_of e35_ok mixed (fn := Go.Proofs.Tryz.f35) (by kernel_rfl) (by kernel_rfl) (by kernel_rfl) (tabOk_none _)
theorem n35 : Enters PR 35 := enters_of (fn := Go.Proofs.Tryz.f35) (by kernel_rfl) (by kernel_rfl) (by kernel_rfl)
noncomputable def g35 : List AV → AH → Nat → Option (Bool × AV × AH) := deepC PR e35 6 2000 35 4096 true
theorem g35_ok : ActOk PR 4096 35 g35 := deepC_ok cx35 rfl rfl

/-! reliquary/little.Mul -/
noncomputable def e37 : Env := envD eqsT [(82, (fn3 kCv cLp.agg kU cLp.agg (lTimesT tmAll)))] [] [] [(81, g81)] [9] false [81]
theorem e37_ok : EnvOk PR e37 := envD_ok eqsT_ok (TabPOk.cons tmT_ok TabPOk.nil) TabHOk.nil TabLOk.nil (TabDOk.cons n81 g81_ok TabDOk.nil)
theorem cx37 : Ctx PR e37 [] (fun _ => none) 2000 37 := ctx_of e37_ok mixed (fn := Go.Proofs.Tryz.f37) (by kernel_rfl) (by kernel_rfl) (by kernel_rfl) (tabOk_none _)
theorem n37 : Enters PR 37 := enters_of (fn := Go.Proofs.Tryz.f37) (by kernel_rfl) (by kernel_rfl) (by kernel_rfl)
noncomputable def g37 : List AV → Option (Bool × AV) := (inlineC PR e37 5 2000 37)
theorem g37_ok : CallOk PR 37 g37 := (.inl ⟨n37, inlineC_ok cx37 rfl rfl⟩)

/-! reliquary/suite.KeyMul -/
noncomputable def e9 : Env := envD eqsT [(37, g37)] [] [] [(35, g35)] [9] false [35]
theorem e9_ok : EnvOk PR e9 := envD_ok eqsT_ok (TabPOk.cons g37_ok TabPOk.nil) TabHOk.nil TabLOk.nil (TabDOk.cons n35 g35_ok TabDOk.nil)
theorem cx9 : Ctx PR e9 [] (fun _ => none) 2000 9 := ctx_of e9_ok mixed (fn := Go.Proofs.Tryz.f9) (by kernel_rfl) (by kernel_rfl) (by kernel_rfl) (tabOk_none _)
theorem n9 : Enters PR 9 := enters_of (fn := Go.Proofs.Tryz.f9) (by kernel_rfl) (by kernel_rfl) (by kernel_rfl)
noncomputable def g9 : List AV → Option (Bool × AV) := (inlineC PR e9 6 2000 9)
theorem g9_ok : CallOk PR 9 g9 := (.inl ⟨n9, inlineC_ok cx9 rfl rfl⟩)

/-! reliquary/channel.times -/
noncomputable def e59 : Env := envD eqsT [(9, g9)] [] [] [] [9] false []
theorem e59_ok : EnvOk PR e59 := envD_ok eqsT_ok (TabPOk.cons g9_ok TabPOk.nil) TabHOk.nil TabLOk.nil TabDOk.nil
theorem cx59 : Ctx PR e59 [] (fun _ => none) 2000 59 := ctx_of e59_ok mixed (fn := Go.Proofs.Tryz.f59) (by kernel_rfl) (by kernel_rfl) (by kernel_rfl) (tabOk_none _)
theorem n59 : Enters PR 59 := enters_of (fn := Go.Proofs.Tryz.f59) (by kernel_rfl) (by kernel_rfl) (by kernel_rfl)
noncomputable def g59 : List AV → Option (Bool × AV) := (inlineC PR e59 4 2000 59)
theorem g59_ok : CallOk PR 59 g59 := (.inl ⟨n59, inlineC_ok cx59 rfl rfl⟩)

/-! reliquary/channel.own -/
noncomputable def e53 : Env := envD eqsT [(8, g8), (59, g59)] [] [] [] [9] false []
theorem e53_ok : EnvOk PR e53 := envD_ok eqsT_ok (TabPOk.cons g8_ok (TabPOk.cons g59_ok TabPOk.nil)) TabHOk.nil TabLOk.nil TabDOk.nil
theorem cx53 : Ctx PR e53 [] (fun _ => none) 2000 53 := ctx_of e53_ok mixed (fn := Go.Proofs.Tryz.f53) (by kernel_rfl) (by kernel_rfl) (by kernel_rfl) (tabOk_none _)
theorem n53 : Enters PR 53 := enters_of (fn := Go.Proofs.Tryz.f53) (by kernel_rfl) (by kernel_rfl) (by kernel_rfl)
noncomputable def g53 : List AV → Option (Bool × AV) := (inlineC PR e53 4 2000 53)
theorem g53_ok : CallOk PR 53 g53 := (.inl ⟨n53, inlineC_ok cx53 rfl rfl⟩)

/-! slices.Clone[[]byte,byte] -/
noncomputable def e54 : Env := envD eqsT [] [] [] [] [9] false []
theorem e54_ok : EnvOk PR e54 := envD_ok eqsT_ok TabPOk.nil TabHOk.nil TabLOk.nil TabDOk.nil
theorem cx54 : Ctx PR e54 [] (fun _ => none) 2000 54 := ctx_of e54_ok mixed (fn := Go.Proofs.Tryz.f54) (by kernel_rfl) (by kernel_rfl) (by kernel_rfl) (tabOk_none _)
theorem n54 : Enters PR 54 := enters_of (fn := Go.Proofs.Tryz.f54) (by kernel_rfl) (by kernel_rfl) (by kernel_rfl)
noncomputable def g54 : List AV → AH → Nat → Option (Bool × AV × AH) := deepC PR e54 3 2000 54 4096 true
theorem g54_ok : ActOk PR 4096 54 g54 := deepC_ok cx54 rfl rfl
end Go.Rq.Cl

/- A closed law's functions, each gone through where it is called. Written by a program of ours. -/
namespace Go.Rq.Cl
open Go Go.Proofs Go.Rq Go.Rq.Sm

/-! reliquary/channel.Begin -/
noncomputable def e15 : Env := envD eqsT [(51, g51), (53, g53)] [] [] [(52, g52), (54, g54)] [9] false [52, 54]
theorem e15_ok : EnvOk PR e15 := envD_ok eqsT_ok (TabPOk.cons g51_ok (TabPOk.cons g53_ok TabPOk.nil)) TabHOk.nil TabLOk.nil (TabDOk.cons n52 g52_ok (TabDOk.cons n54 g54_ok TabDOk.nil))
theorem cx15 : Ctx PR e15 [] (fun _ => none) 2000 15 := ctx_of e15_ok mixed (fn := Go.Proofs.Tryz.f15) (by kernel_rfl) (by kernel_rfl) (by kernel_rfl) (tabOk_none _)
theorem n15 : Enters PR 15 := enters_of (fn := Go.Proofs.Tryz.f15) (by kernel_rfl) (by kernel_rfl) (by kernel_rfl)
noncomputable def g15 : List AV → AH → Nat → Option (Bool × AV × AH) := deepC PR e15 6 2000 15 4096 true
theorem g15_ok : ActOk PR 4096 15 g15 := deepC_ok cx15 rfl rfl

/-! reliquary/channel.Key -/
noncomputable def e55 : Env := envD eqsT [(8, g8), (9, g9), (65, g65)] [] [] [] [9] false []
theorem e55_ok : EnvOk PR e55 := envD_ok eqsT_ok (TabPOk.cons g8_ok (TabPOk.cons g9_ok (TabPOk.cons g65_ok TabPOk.nil))) TabHOk.nil TabLOk.nil TabDOk.nil
theorem cx55 : Ctx PR e55 [] (fun _ => none) 2000 55 := ctx_of e55_ok mixed (fn := Go.Proofs.Tryz.f55) (by kernel_rfl) (by kernel_rfl) (by kernel_rfl) (tabOk_none _)
theorem n55 : Enters PR 55 := enters_of (fn := Go.Proofs.Tryz.f55) (by kernel_rfl) (by kernel_rfl) (by kernel_rfl)
noncomputable def g55 : List AV → Option (Bool × AV) := (inlineC PR e55 5 2000 55)
theorem g55_ok : CallOk PR 55 g55 := (.inl ⟨n55, inlineC_ok cx55 rfl rfl⟩)

/-! reliquary/reliquarylaw16.key -/
noncomputable def e16 : Env := envD eqsT [(55, g55)] [] [] [] [9] false []
theorem e16_ok : EnvOk PR e16 := envD_ok eqsT_ok (TabPOk.cons g55_ok TabPOk.nil) TabHOk.nil TabLOk.nil TabDOk.nil
theorem cx16 : Ctx PR e16 [] (fun _ => none) 2000 16 := ctx_of e16_ok mixed (fn := Go.Proofs.Tryz.f16) (by kernel_rfl) (by kernel_rfl) (by kernel_rfl) (tabOk_none _)
theorem n16 : Enters PR 16 := enters_of (fn := Go.Proofs.Tryz.f16) (by kernel_rfl) (by kernel_rfl) (by kernel_rfl)
noncomputable def g16 : List AV → Option (Bool × AV) := (inlineC PR e16 4 2000 16)
theorem g16_ok : CallOk PR 16 g16 := (.inl ⟨n16, inlineC_ok cx16 rfl rfl⟩)

/-! reliquary/little.Read -/
noncomputable def e99 : Env := envD eqsT [(125, (fn2 kCv cLp.agg kBool onF)), (143, (fn2 kCv cLp.agg kBool (inFT tmAll)))] [] [] [(81, g81)] [9] false [81]
theorem e99_ok : EnvOk PR e99 := envD_ok eqsT_ok (TabPOk.cons lo_ok (TabPOk.cons linT_ok TabPOk.nil)) TabHOk.nil TabLOk.nil (TabDOk.cons n81 g81_ok TabDOk.nil)
theorem cx99 : Ctx PR e99 [] (fun _ => none) 2000 99 := ctx_of e99_ok mixed (fn := Go.Proofs.Tryz.f99) (by kernel_rfl) (by kernel_rfl) (by kernel_rfl) (tabOk_none _)
theorem n99 : Enters PR 99 := enters_of (fn := Go.Proofs.Tryz.f99) (by kernel_rfl) (by kernel_rfl) (by kernel_rfl)
noncomputable def g99 : List AV → AH → Nat → Option (Bool × AV × AH) := deepC PR e99 7 2000 99 4096 true
theorem g99_ok : ActOk PR 4096 99 g99 := deepC_ok cx99 rfl rfl

/-! reliquary/suite.ReadKey -/
noncomputable def e56 : Env := envD eqsT [(72, g72)] [] [] [(99, g99)] [9] false [99]
theorem e56_ok : EnvOk PR e56 := envD_ok eqsT_ok (TabPOk.cons g72_ok TabPOk.nil) TabHOk.nil TabLOk.nil (TabDOk.cons n99 g99_ok TabDOk.nil)
theorem cx56 : Ctx PR e56 [] (fun _ => none) 2000 56 := ctx_of e56_ok mixed (fn := Go.Proofs.Tryz.f56) (by kernel_rfl) (by kernel_rfl) (by kernel_rfl) (tabOk_none _)
theorem n56 : Enters PR 56 := enters_of (fn := Go.Proofs.Tryz.f56) (by kernel_rfl) (by kernel_rfl) (by kernel_rfl)
noncomputable def g56 : List AV → AH → Nat → Option (Bool × AV × AH) := deepC PR e56 6 2000 56 4096 true
theorem g56_ok : ActOk PR 4096 56 g56 := deepC_ok cx56 rfl rfl

/-! reliquary/mac.block -/
noncomputable def e195 : Env := envD eqsT [] [(182, sumV)] [] [] [9] false [182]
theorem e195_ok : EnvOk PR e195 := envD_ok eqsT_ok TabPOk.nil (TabHOk.cons dsum_ent dsum_ok TabHOk.nil) TabLOk.nil TabDOk.nil
theorem cx195 : Ctx PR e195 [] (fun _ => none) 2000 195 := ctx_of e195_ok mixed (fn := Go.Proofs.Tryz.f195) (by kernel_rfl) (by kernel_rfl) (by kernel_rfl) (tabOk_none _)
theorem n195 : Enters PR 195 := enters_of (fn := Go.Proofs.Tryz.f195) (by kernel_rfl) (by kernel_rfl) (by kernel_rfl)
noncomputable def g195 : List AV → AH → Nat → Option (Bool × AV × AH) := deepC PR e195 5 2000 195 4096 true
theorem g195_ok : ActOk PR 4096 195 g195 := deepC_ok cx195 rfl rfl

/-! reliquary/digest.begin -/
noncomputable def e205 : Env := envD eqsT [] [] [] [] [9] false []
theorem e205_ok : EnvOk PR e205 := envD_ok eqsT_ok TabPOk.nil TabHOk.nil TabLOk.nil TabDOk.nil
theorem cx205 : Ctx PR e205 [] (fun _ => none) 2000 205 := ctx_of e205_ok mixed (fn := Go.Proofs.Tryz.f205) (by kernel_rfl) (by kernel_rfl) (by kernel_rfl) (tabOk_none _)
theorem n205 : Enters PR 205 := enters_of (fn := Go.Proofs.Tryz.f205) (by kernel_rfl) (by kernel_rfl) (by kernel_rfl)
noncomputable def g205 : List AV → Option (Bool × AV) := (inlineC PR e205 1 2000 205)
theorem g205_ok : CallOk PR 205 g205 := (.inl ⟨n205, inlineC_ok cx205 rfl rfl⟩)

/-! reliquary/digest.New -/
noncomputable def e196 : Env := envD eqsT [(205, g205)] [] [] [] [9] false []
theorem e196_ok : EnvOk PR e196 := envD_ok eqsT_ok (TabPOk.cons g205_ok TabPOk.nil) TabHOk.nil TabLOk.nil TabDOk.nil
theorem cx196 : Ctx PR e196 [] (fun _ => none) 2000 196 := ctx_of e196_ok mixed (fn := Go.Proofs.Tryz.f196) (by kernel_rfl) (by kernel_rfl) (by kernel_rfl) (tabOk_none _)
theorem n196 : Enters PR 196 := enters_of (fn := Go.Proofs.Tryz.f196) (by kernel_rfl) (by kernel_rfl) (by kernel_rfl)
noncomputable def g196 : List AV → AH → Nat → Option (Bool × AV × AH) := deepC PR e196 2 2000 196 4096 true
theorem g196_ok : ActOk PR 4096 196 g196 := deepC_ok cx196 rfl rfl

/-! (*reliquary/digest.Hash).none -/
noncomputable def e206 : Env := envD eqsT [] [] [] [] [9] false []
theorem e206_ok : EnvOk PR e206 := envD_ok eqsT_ok TabPOk.nil TabHOk.nil TabLOk.nil TabDOk.nil
theorem cx206 : Ctx PR e206 [] (fun _ => none) 2000 206 := ctx_of e206_ok mixed (fn := Go.Proofs.Tryz.f206) (by kernel_rfl) (by kernel_rfl) (by kernel_rfl) (tabOk_none _)
theorem n206 : Enters PR 206 := enters_of (fn := Go.Proofs.Tryz.f206) (by kernel_rfl) (by kernel_rfl) (by kernel_rfl)
noncomputable def g206 : List AV → AH → Nat → Option (Bool × AV × AH) := deepC PR e206 4 2000 206 4096 true
theorem g206_ok : ActOk PR 4096 206 g206 := deepC_ok cx206 rfl rfl

/-! (*reliquary/digest.Hash).Write -/
noncomputable def e197 : Env := envD eqsT [] [] [] [(206, g206), (207, bkN)] [9] false [206]
theorem e197_ok : EnvOk PR e197 := envD_ok eqsT_ok TabPOk.nil TabHOk.nil TabLOk.nil (TabDOk.cons n206 g206_ok (TabDOk.cons bk_ent bkN_ok TabDOk.nil))
theorem cx197 : Ctx PR e197 [] (fun _ => none) 2000 197 := ctx_of e197_ok mixed (fn := Go.Proofs.Tryz.f197) (by kernel_rfl) (by kernel_rfl) (by kernel_rfl) (tabOk_none _)
theorem n197 : Enters PR 197 := enters_of (fn := Go.Proofs.Tryz.f197) (by kernel_rfl) (by kernel_rfl) (by kernel_rfl)
noncomputable def g197 : List AV → AH → Nat → Option (Bool × AV × AH) := slimG 4096 (deepC PR e197 6 2000 197 4096 false)
theorem g197_ok : ActOk PR 4096 197 g197 := slimG_ok (deepC_ok cx197 rfl rfl)

/-! (*reliquary/digest.Hash).Sum -/
noncomputable def e198 : Env := envD eqsT [] [] [] [(206, g206), (207, bkN)] [9] false [206]
theorem e198_ok : EnvOk PR e198 := envD_ok eqsT_ok TabPOk.nil TabHOk.nil TabLOk.nil (TabDOk.cons n206 g206_ok (TabDOk.cons bk_ent bkN_ok TabDOk.nil))
theorem cx198 : Ctx PR e198 [] (fun _ => none) 2000 198 := ctx_of e198_ok mixed (fn := Go.Proofs.Tryz.f198) (by kernel_rfl) (by kernel_rfl) (by kernel_rfl) (tabOk_none _)
theorem n198 : Enters PR 198 := enters_of (fn := Go.Proofs.Tryz.f198) (by kernel_rfl) (by kernel_rfl) (by kernel_rfl)
noncomputable def g198 : List AV → AH → Nat → Option (Bool × AV × AH) := deepC PR e198 7 2000 198 4096 true
theorem g198_ok : ActOk PR 4096 198 g198 := deepC_ok cx198 rfl rfl

/-! reliquary/mac.Code -/
noncomputable def e175 : Env := envD eqsT [] [] [] [(195, g195), (196, g196), (197, g197), (198, g198)] [9] false [195, 196, 198]
theorem e175_ok : EnvOk PR e175 := envD_ok eqsT_ok TabPOk.nil TabHOk.nil TabLOk.nil (TabDOk.cons n195 g195_ok (TabDOk.cons n196 g196_ok (TabDOk.cons n197 g197_ok (TabDOk.cons n198 g198_ok TabDOk.nil))))
theorem cx175 : Ctx PR e175 [] (fun _ => none) 2000 175 := ctx_of e175_ok mixed (fn := Go.Proofs.Tryz.f175) (by kernel_rfl) (by kernel_rfl) (by kernel_rfl) (tabOk_none _)
theorem n175 : Enters PR 175 := enters_of (fn := Go.Proofs.Tryz.f175) (by kernel_rfl) (by kernel_rfl) (by kernel_rfl)
end Go.Rq.Cl
