/- The little curves' powers, inverses, slopes, sums, multiples: contracts. -/
import Derived.Test.YtcboekjnibppdaaGreatDoorRq12
import Derived.Test.YtcboekjnibppdaaGreatDoorRq08
namespace Go.Rq
open Go Go.Proofs

/-! Powers. -/
def lpwT (M : Op2) (L : BitVec 64 → Int) : PureTab := [(244, fn3 kCv kU kU kU M), (250, fn1 kU (kInt .i64) L)]
def blI (x : BitVec 64) : Int := ((bl x.toNat : Nat) : Int)
theorem lpwT_ok : TabPOk PR (lpwT lMul blI) := TabPOk.cons lm_ok (TabPOk.cons len64_ok TabPOk.nil)
def pwK : Keep := ⟨[1, 2, 3, 7, 8], [0], 6⟩
@[irreducible] noncomputable def pwX (M : Op2) (L : BitVec 64 → Int) (s : Su) (a n : BitVec 64) : XS := entryOf PR (envOf eqsT (lpwT M L)) [13, 24] (fun _ => none) 10 242 [kCv.enc s, kU.enc a, kU.enc n] [] 0 0 pwK
@[irreducible] noncomputable def pwI (M : Op2) (L : BitVec 64 → Int) (s : Su) (a n : BitVec 64) (d : Int × BitVec 64) : XS := ((pwX M L s a n).setT 8 (.v (.int .i64 d.1))).setT 7 (.u d.2)
@[irreducible] noncomputable def pwC : Code := roundOf PR 242 0
set_option maxRecDepth 1000000 in
theorem pw_round (M : Op2) (L : BitVec 64 → Int) (s : Su) (a n : BitVec 64) (z : Int) (out : BitVec 64) : Tree.but [2] 0 (roundT PR (envOf eqsT (lpwT M L)) [13, 24] (fun _ => none) 10 pwK pwK pwK pwC (pwI M L s a n (z, out))) =
    .br (decide (z ≥ 0))
      (.br (bitU n z)
        (.need (notNeg z) (.leaf (.normal, pwI M L s a n (IntKind.i64.wrap (z - 1), M s (M s out out) a))))
        (.need (notNeg z) (.leaf (.normal, pwI M L s a n (IntKind.i64.wrap (z - 1), M s out out)))))
      (.leaf (.exit 0, pwI M L s a n (z, out))) := by cases s <;> kernel_rfl
set_option maxRecDepth 1000000 in
theorem pw_head (M : Op2) (L : BitVec 64 → Int) (s : Su) (a n : BitVec 64) : (pwX M L s a n).setT 7 (.u (bitW true)) = pwI M L s a n (IntKind.i64.wrap (L n - 1), bitW true) := by cases s <;> kernel_rfl
set_option maxRecDepth 1000000 in
theorem pw_bit (M : Op2) (L : BitVec 64 → Int) (s : Su) (a n : BitVec 64) : (pwX M L s a n).s.tm[7]? = some (.bit true) := by cases s <;> kernel_rfl
theorem pw_blk : blkAll 0 (bodyOf PR 242) = [.loop pwC] := by kernel_rfl
@[irreducible] noncomputable def pwB (M : Op2) (L : BitVec 64 → Int) (s : Su) (a n r : BitVec 64) : BEnt := ⟨pwK.tm, pwK.ids, pwK.n, pwX M L s a n, .leaf (.normal, pwI M L s a n (-1, r))⟩
theorem pwB_n (M : Op2) (L : BitVec 64 → Int) (s : Su) (a n r : BitVec 64) : (pwB M L s a n r).n = 6 ∧ (pwB M L s a n r).pre = pwX M L s a n ∧ (pwB M L s a n r).post = .leaf (.normal, pwI M L s a n (-1, r)) := by
  unfold pwB
  exact ⟨rfl, rfl, rfl⟩
set_option maxRecDepth 1000000 in
theorem pw_run (M : Op2) (L : BitVec 64 → Int) (s : Su) (a n r : BitVec 64) : (afunR PR (envOf eqsT (lpwT M L)) [13, 24] (tabOf [(0, pwB M L s a n r)]) 10 242 [kCv.enc s, kU.enc a, kU.enc n]).strict =
    .same (pwX M L s a n) (pwX M L s a n) (.leaf (kU.enc r)) := by cases s <;> kernel_rfl
theorem pw_codeOk : codeOk (envOf eqsT (lpwT lMul blI)) pwC = true := by kernel_rfl
theorem blI_le (n : BitVec 64) : 0 ≤ blI n ∧ blI n ≤ 64 := by
  have : bl n.toNat ≤ 64 := bl_spec.2 n.isLt
  unfold blI
  omega
def pwR (s : Su) (a n : BitVec 64) : BitVec 64 := sqB (fun u => lMul s u u) (fun u => lMul s u a) (bitU n) (bl n.toNat) (bitW true)
theorem pw_start (s : Su) (a n : BitVec 64) : ∀ d : Int × BitVec 64, d = (IntKind.i64.wrap (blI n - 1), bitW true) → -1 ≤ d.1 ∧ d.1 ≤ 63 ∧ sqB (fun u => lMul s u u) (fun u => lMul s u a) (bitU n) (d.1 + 1).toNat d.2 = pwR s a n := by
  rintro d rfl
  have hl := blI_le n
  have hw : IntKind.i64.wrap (blI n - 1) = blI n - 1 := wrap_id (n := blI n - 1) (by omega) (by omega)
  rw [hw]
  refine ⟨?_, ?_, ?_⟩
  · show -1 ≤ blI n - 1
    omega
  · show blI n - 1 ≤ 63
    omega
  · show sqB _ _ _ (blI n - 1 + 1).toNat _ = _
    rw [show (blI n - 1 + 1).toNat = bl n.toNat by unfold blI; omega]
    rfl
theorem pw_loop (s : Su) (a n : BitVec 64) {Fr0 : Fr} {ds : List Deferred} {Q : AExit → XS → Prop} (hK : Q .normal (pwI lMul blI s a n (-1, pwR s a n))) :
    Tri PR Fr0 ds 0 (.block 0 (.loop pwC)) (pwX lMul blI s a n) Q :=
  Tri.asU (pw_bit lMul blI s a n) <| Eq.subst (motive := fun y => Tri PR Fr0 ds 0 (.block 0 (.loop pwC)) y Q) (pw_head lMul blI s a n).symm <|
    blockLoop (m := 0) (envOf_ok eqsT_ok lpwT_ok) mixed (sym := [13, 24]) (tab := fun _ => none) (lf := 10) (k := pwK) (kx := pwK) (kr := pwK) (by decide) (by decide) (by decide) pw_codeOk (tabOk_none _)
    (pwI lMul blI s a n) (fun d => -1 ≤ d.1 ∧ d.1 ≤ 63 ∧ sqB (fun u => lMul s u u) (fun u => lMul s u a) (bitU n) (d.1 + 1).toNat d.2 = pwR s a n) (fun d => (d.1 + 1).toNat) _ (pw_start s a n _ rfl)
    (sqB_law (by decide) (fun u => lMul s u u) (fun u => lMul s u a) (bitU n) notNeg notNeg_ok _ (pwI lMul blI s a n) (pw_round lMul blI s a n) hK)
theorem pw_tab (s : Su) (a n : BitVec 64) : TabOk PR 0 (tabOf [(0, pwB lMul blI s a n (pwR s a n))]) (bodyOf PR 242) :=
  tabOk_one (by rw [(pwB_n lMul blI s a n (pwR s a n)).1]; decide) pw_blk fun Fr0 ds Q h => by
    obtain ⟨-, h2, h3⟩ := pwB_n lMul blI s a n (pwR s a n)
    rw [h3] at h
    rw [h2]
    exact pw_loop s a n h
theorem pw_ctx (s : Su) (a n : BitVec 64) : Ctx PR (envOf eqsT (lpwT lMul blI)) [13, 24] (tabOf [(0, pwB lMul blI s a n (pwR s a n))]) 10 242 :=
  ctx_of (envOf_ok eqsT_ok lpwT_ok) mixed (fn := Tryz.f242) (by kernel_rfl) (by kernel_rfl) (by kernel_rfl) (pw_tab s a n)
noncomputable def lPow (s : Su) (a n : BitVec 64) : BitVec 64 := sqF frcU (fun u => lMul s u u) (fun u => lMul s u a) (bitU n) (bl n.toNat) 1#64
theorem pwR_eq (s : Su) (a n : BitVec 64) : pwR s a n = lPow s a n := (sqF_eq (frc := frcU) (fun x f => frcU_eq x f) _ _ _ _ _).symm
theorem pw_ok : CallOk PR 242 (fn3 kCv kU kU kU lPow) :=
  .inl ⟨enters_of (fn := Tryz.f242) (by kernel_rfl) (by kernel_rfl) (by kernel_rfl), pure3X fun s a n => .of (pw_ctx s a n) (sameVal (B := kU) (by rw [← pwR_eq]; exact pw_run lMul blI s a n (pwR s a n)))⟩

/-! Inverses, slopes, sums. -/
noncomputable def lInv (s : Su) (x : BitVec 64) : BitVec 64 := lPow s x (suB s - 2#64)
theorem lv_ctx : Ctx PR (envOf eqsT (lvT lPow)) [] (fun _ => none) 10 314 :=
  ctx_of (envOf_ok eqsT_ok (TabPOk.cons pw_ok TabPOk.nil)) mixed (fn := Tryz.f314) (by kernel_rfl) (by kernel_rfl) (by kernel_rfl) (tabOk_none _)
theorem lv_ok : CallOk PR 314 (fn2 kCv kU kU lInv) :=
  .inl ⟨enters_of (fn := Tryz.f314) (by kernel_rfl) (by kernel_rfl) (by kernel_rfl), pure2 lv_ctx fun s x => leafVal (B := kU) (y := lInv s x) (lv_run lPow s x)⟩
noncomputable def lq0 : LQ := ⟨lMul, lAdd, lSub, lrF, lInv, fun _ _ _ => (0#64, false), fun _ p _ => p⟩
theorem lsl_ctx : Ctx PR (envOf eqsT (lsT lq0)) [13, 35, 39] (fun _ => none) 10 274 :=
  ctx_of (envOf_ok eqsT_ok (TabPOk.cons lm_ok (TabPOk.cons la_ok (TabPOk.cons ls_ok (TabPOk.cons lv_ok TabPOk.nil))))) mixed (fn := Tryz.f274) (by kernel_rfl) (by kernel_rfl) (by kernel_rfl) (tabOk_none _)
noncomputable def lSlope (s : Su) (p q : Lp) : BitVec 64 × Bool := bif p.1 != q.1 then (lMul s (lSub s q.2.1 p.2.1) (lInv s (lSub s q.1 p.1)), true) else
  bif p.2.1 != q.2.1 then (0#64, false) else bif p.2.1 == 0#64 then (0#64, false) else
  (lMul s (lAdd s (lAdd s (lAdd s (lMul s p.1 p.1) (lMul s p.1 p.1)) (lMul s p.1 p.1)) 1#64) (lInv s (lAdd s p.2.1 p.2.1)), true)
theorem lsl_ok : CallOk PR 274 (fn3 kCv cLp.agg cLp.agg kUb lSlope) :=
  .inl ⟨enters_of (fn := Tryz.f274) (by kernel_rfl) (by kernel_rfl) (by kernel_rfl), pure3 lsl_ctx fun s p q => lsl_gives lq0 s p q⟩
noncomputable def frcLp {β : Type} (p : Lp) (f : Lp → β) : β := frcU p.1 fun x => frcU p.2.1 fun y => frcB p.2.2 fun z => f (x, y, z)
theorem frcLp_eq {β : Type} (p : Lp) (f : Lp → β) : frcLp p f = f p := by
  unfold frcLp
  rw [frcU_eq, frcU_eq, frcB_eq]
noncomputable def lSum (s : Su) (p q : Lp) : Lp := bif p.2.2 then q else bif q.2.2 then p else frcB (lSlope s p q).2 fun b => bif !b then (0#64, 0#64, true) else
  frcU (lSlope s p q).1 fun m => frcU (lSub s (lSub s (lMul s m m) p.1) q.1) fun x => (x, lSub s (lMul s m (lSub s p.1 x)) p.2.1, false)
noncomputable def lq1 : LQ := ⟨lMul, lAdd, lSub, lrF, lInv, lSlope, fun _ p _ => p⟩
theorem lSum_eq (s : Su) (p q : Lp) : sumG lq1 s p q = lSum s p q := by
  unfold lSum sumG
  rw [frcB_eq, frcU_eq, frcU_eq]
  rfl
theorem lsm_ctx : Ctx PR (envOf eqsT (lsmT lq1)) [10, 14, 26] (fun _ => none) 10 225 :=
  ctx_of (envOf_ok eqsT_ok (TabPOk.cons lm_ok (TabPOk.cons ls_ok (TabPOk.cons lsl_ok TabPOk.nil)))) mixed (fn := Tryz.f225) (by kernel_rfl) (by kernel_rfl) (by kernel_rfl) (tabOk_none _)
theorem lsm_ok : CallOk PR 225 (fn3 kCv cLp.agg cLp.agg cLp.agg lSum) :=
  .inl ⟨enters_of (fn := Tryz.f225) (by kernel_rfl) (by kernel_rfl) (by kernel_rfl), pure3 lsm_ctx fun s p q => by rw [← lSum_eq]; exact lsm_gives lq1 s p q⟩

/-! Multiples. -/
def ltmT (S : Su → Lp → Lp → Lp) (L : BitVec 64 → Int) : PureTab := [(225, fn3 kCv cLp.agg cLp.agg cLp.agg S), (250, fn1 kU (kInt .i64) L)]
theorem ltmT_ok : TabPOk PR (ltmT lSum blI) := TabPOk.cons lsm_ok (TabPOk.cons len64_ok TabPOk.nil)
def tmK : Keep := ⟨[2, 3, 4, 6, 7, 8], [0, 1, 2, 4], 9⟩
@[irreducible] noncomputable def tmX (S : Su → Lp → Lp → Lp) (L : BitVec 64 → Int) (s : Su) (p : Lp) (n : BitVec 64) : XS := entryOf PR (envOf eqsT (ltmT S L)) [14, 25] (fun _ => none) 10 188 [kCv.enc s, cLp.agg.enc p, kU.enc n] [] 0 0 tmK
@[irreducible] noncomputable def tmI (S : Su → Lp → Lp → Lp) (L : BitVec 64 → Int) (s : Su) (p : Lp) (n : BitVec 64) (d : Int × Lp) : XS := ((tmX S L s p n).setT 8 (.v (.int .i64 d.1))).setB 4 (cLp.enc d.2)
@[irreducible] noncomputable def tmC : Code := roundOf PR 188 0
set_option maxRecDepth 1000000 in
theorem tm_round (S : Su → Lp → Lp → Lp) (L : BitVec 64 → Int) (s : Su) (p : Lp) (n : BitVec 64) (z : Int) (out : Lp) : Tree.but [2] 0 (roundT PR (envOf eqsT (ltmT S L)) [14, 25] (fun _ => none) 10 tmK tmK tmK tmC (tmI S L s p n (z, out))) =
    .br (decide (z ≥ 0))
      (.br (bitU n z)
        (.need (notNeg z) (.leaf (.normal, tmI S L s p n (IntKind.i64.wrap (z - 1), S s (S s out out) p))))
        (.need (notNeg z) (.leaf (.normal, tmI S L s p n (IntKind.i64.wrap (z - 1), S s out out)))))
      (.leaf (.exit 0, tmI S L s p n (z, out))) := by cases s <;> kernel_rfl
def lp0 : Lp := (0#64, 0#64, true)
set_option maxRecDepth 1000000 in
theorem tm_head (S : Su → Lp → Lp → Lp) (L : BitVec 64 → Int) (s : Su) (p : Lp) (n : BitVec 64) : (tmX S L s p n).setB 4 (cLp.enc lp0) = tmI S L s p n (IntKind.i64.wrap (L n - 1), lp0) := by cases s <;> kernel_rfl
set_option maxRecDepth 1000000 in
theorem tm_cell (S : Su → Lp → Lp → Lp) (L : BitVec 64 → Int) (s : Su) (p : Lp) (n : BitVec 64) : (tmX S L s p n).s.h.get 4 = some ⟨true, 35, [.u 0#64, .u 0#64, .lit true]⟩ := by cases s <;> kernel_rfl
theorem tm_blk : blkAll 0 (bodyOf PR 188) = [.loop tmC] := by kernel_rfl
@[irreducible] noncomputable def tmB (S : Su → Lp → Lp → Lp) (L : BitVec 64 → Int) (s : Su) (p : Lp) (n : BitVec 64) (r : Lp) : BEnt := ⟨tmK.tm, tmK.ids, tmK.n, tmX S L s p n, .leaf (.normal, tmI S L s p n (-1, r))⟩
theorem tmB_n (S : Su → Lp → Lp → Lp) (L : BitVec 64 → Int) (s : Su) (p : Lp) (n : BitVec 64) (r : Lp) : (tmB S L s p n r).n = 9 ∧ (tmB S L s p n r).pre = tmX S L s p n ∧ (tmB S L s p n r).post = .leaf (.normal, tmI S L s p n (-1, r)) := by
  unfold tmB
  exact ⟨rfl, rfl, rfl⟩
set_option maxRecDepth 1000000 in
theorem tm_run (S : Su → Lp → Lp → Lp) (L : BitVec 64 → Int) (s : Su) (p : Lp) (n : BitVec 64) (r : Lp) : (afunR PR (envOf eqsT (ltmT S L)) [14, 25] (tabOf [(0, tmB S L s p n r)]) 10 188 [kCv.enc s, cLp.agg.enc p, kU.enc n]).strict =
    .same (tmX S L s p n) (tmX S L s p n) (.leaf (cLp.agg.enc r)) := by cases s <;> kernel_rfl
theorem tm_codeOk : codeOk (envOf eqsT (ltmT lSum blI)) tmC = true := by kernel_rfl
noncomputable def tmR (s : Su) (p : Lp) (n : BitVec 64) : Lp := sqB (fun u => lSum s u u) (fun u => lSum s u p) (bitU n) (bl n.toNat) lp0
theorem tm_start (s : Su) (p : Lp) (n : BitVec 64) : ∀ d : Int × Lp, d = (IntKind.i64.wrap (blI n - 1), lp0) → -1 ≤ d.1 ∧ d.1 ≤ 63 ∧ sqB (fun u => lSum s u u) (fun u => lSum s u p) (bitU n) (d.1 + 1).toNat d.2 = tmR s p n := by
  rintro d rfl
  have hl := blI_le n
  have hw : IntKind.i64.wrap (blI n - 1) = blI n - 1 := wrap_id (n := blI n - 1) (by omega) (by omega)
  rw [hw]
  refine ⟨?_, ?_, ?_⟩
  · show -1 ≤ blI n - 1
    omega
  · show blI n - 1 ≤ 63
    omega
  · show sqB _ _ _ (blI n - 1 + 1).toNat _ = _
    rw [show (blI n - 1 + 1).toNat = bl n.toNat by unfold blI; omega]
    rfl
theorem cells3 {ρ : Ren} {i : Nat} {a c : AV} {x : Value} (ha : ([.u 0#64, .u 0#64, .lit true] : List AV)[i]? = some a) (hc : (cLp.enc lp0)[i]? = some c) (h : Rv ρ a x) : Rv ρ c x := by
  have e : cLp.enc lp0 = [.u 0#64, .u 0#64, .v (.bool true)] := rfl
  rw [e] at hc
  match i with
  | 0 => simp at ha hc; subst ha; subst hc; exact h
  | 1 => simp at ha hc; subst ha; subst hc; exact h
  | 2 => simp at ha hc; subst ha; subst hc; exact h.other rfl rfl
  | n + 3 => simp at ha
theorem tm_loop (s : Su) (p : Lp) (n : BitVec 64) {Fr0 : Fr} {ds : List Deferred} {Q : AExit → XS → Prop} (hK : Q .normal (tmI lSum blI s p n (-1, tmR s p n))) :
    Tri PR Fr0 ds 0 (.block 0 (.loop tmC)) (tmX lSum blI s p n) Q :=
  Tri.asC (cs := cLp.enc lp0) (tm_cell lSum blI s p n) rfl (fun ρ i a c x ha hc h => cells3 ha hc h) <| Eq.subst (motive := fun y => Tri PR Fr0 ds 0 (.block 0 (.loop tmC)) y Q) (tm_head lSum blI s p n).symm <|
    blockLoop (m := 0) (envOf_ok eqsT_ok ltmT_ok) mixed (sym := [14, 25]) (tab := fun _ => none) (lf := 10) (k := tmK) (kx := tmK) (kr := tmK) (by decide) (by decide) (by decide) tm_codeOk (tabOk_none _)
    (tmI lSum blI s p n) (fun d => -1 ≤ d.1 ∧ d.1 ≤ 63 ∧ sqB (fun u => lSum s u u) (fun u => lSum s u p) (bitU n) (d.1 + 1).toNat d.2 = tmR s p n) (fun d => (d.1 + 1).toNat) _ (tm_start s p n _ rfl)
    (sqB_law (by decide) (fun u => lSum s u u) (fun u => lSum s u p) (bitU n) notNeg notNeg_ok _ (tmI lSum blI s p n) (tm_round lSum blI s p n) hK)
theorem tm_tab (s : Su) (p : Lp) (n : BitVec 64) : TabOk PR 0 (tabOf [(0, tmB lSum blI s p n (tmR s p n))]) (bodyOf PR 188) :=
  tabOk_one (by rw [(tmB_n lSum blI s p n (tmR s p n)).1]; decide) tm_blk fun Fr0 ds Q h => by
    obtain ⟨-, h2, h3⟩ := tmB_n lSum blI s p n (tmR s p n)
    rw [h3] at h
    rw [h2]
    exact tm_loop s p n h
theorem tm_ctx (s : Su) (p : Lp) (n : BitVec 64) : Ctx PR (envOf eqsT (ltmT lSum blI)) [14, 25] (tabOf [(0, tmB lSum blI s p n (tmR s p n))]) 10 188 :=
  ctx_of (envOf_ok eqsT_ok ltmT_ok) mixed (fn := Tryz.f188) (by kernel_rfl) (by kernel_rfl) (by kernel_rfl) (tm_tab s p n)
noncomputable def lTimes (s : Su) (p : Lp) (n : BitVec 64) : Lp := sqF frcLp (fun u => lSum s u u) (fun u => lSum s u p) (bitU n) (bl n.toNat) lp0
theorem tmR_eq (s : Su) (p : Lp) (n : BitVec 64) : tmR s p n = lTimes s p n := (sqF_eq (frc := frcLp) (fun x f => frcLp_eq x f) _ _ _ _ _).symm
theorem tm_ok : CallOk PR 188 (fn3 kCv cLp.agg kU cLp.agg lTimes) :=
  .inl ⟨enters_of (fn := Tryz.f188) (by kernel_rfl) (by kernel_rfl) (by kernel_rfl), pure3X fun s p n => .of (tm_ctx s p n) (sameVal (B := cLp.agg) (by rw [← tmR_eq]; exact tm_run lSum blI s p n (tmR s p n)))⟩

/-! Whether a point is one of the group. -/
def linT (O : Su → Lp → Bool) (T : Su → Lp → BitVec 64 → Lp) : PureTab := [(249, fn2 kCv cLp.agg kBool O), (188, fn3 kCv cLp.agg kU cLp.agg T)]
theorem lin_run (O : Su → Lp → Bool) (T : Su → Lp → BitVec 64 → Lp) (s : Su) (p : Lp) : (afunR PR (envOf eqsT (linT O T)) [8] (fun _ => none) 10 230 [kCv.enc s, cLp.agg.enc p]).strict =
    .br (O s p) (.leaf (.v (.bool (T s p (suR s)).2.2))) (.leaf (.lit false)) := by cases s <;> kernel_rfl
noncomputable def inF (s : Su) (p : Lp) : Bool := bif onF s p then (lTimes s p (suR s)).2.2 else false
theorem lin_ctx : Ctx PR (envOf eqsT (linT onF lTimes)) [8] (fun _ => none) 10 230 :=
  ctx_of (envOf_ok eqsT_ok (TabPOk.cons lo_ok (TabPOk.cons tm_ok TabPOk.nil))) mixed (fn := Tryz.f230) (by kernel_rfl) (by kernel_rfl) (by kernel_rfl) (tabOk_none _)
theorem lin_ok : CallOk PR 230 (fn2 kCv cLp.agg kBool inF) :=
  .inl ⟨enters_of (fn := Tryz.f230) (by kernel_rfl) (by kernel_rfl) (by kernel_rfl), pure2 lin_ctx fun s p => givesOf (lin_run onF lTimes s p) (holds_br (B := kBool) (holds_leaf rfl) (holds_leaf rfl))⟩
end Go.Rq
