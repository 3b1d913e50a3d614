import Derived.Test.YtedplhdabefnkaaGreatDoorRq05
import Derived.Test.YtedplhdabefnkaaGreatDoorRq15
import Derived.Test.YtedplhdabefnkaaGreatDoorRq07
import Derived.Test.YtedplhdabefnkaaGreatDoorRq08
import Derived.Test.YtedplhdabefnkaaGreatDoorRq06
import Derived.Test.YtedplhdabefnkaaGreatDoorRq19
import Derived.Test.YtedplhdabefnkaaGreatDoorRq09
import Derived.Test.YtedplhdabefnkaaGreatDoorRq17
namespace Go.Rq.Sm
open Go Go.Proofs Go.Rq
def lpwT (M : Op2) (L : BitVec 64 -> Int) : PureTab := [(175, fn3 kCv kU kU kU M), (162, fn1 kU (kInt .i64) L)]
def blI (x : BitVec 64) : Int := ((bl x.toNat : Nat) : Int)
theorem lpwT_ok : TabPOk PR (lpwT lMul blI) := TabPOk.cons lm_ok (TabPOk.cons len64_ok TabPOk.nil)
def pwK : Keep := ⟨[1, 2, 3, 7, 8], [0], 6⟩
@[irreducible] noncomputable def pwX (M : Op2) (L : BitVec 64 -> Int) (s : Su) (a n : BitVec 64) : XS := entryOf PR (envOf eqsT (lpwT M L)) [13, 24] (fun _ => none) 10 173 [kCv.enc s, kU.enc a, kU.enc n] [] 0 0 pwK
@[irreducible] noncomputable def pwI (M : Op2) (L : BitVec 64 -> Int) (s : Su) (a n : BitVec 64) (d : Int × BitVec 64) : XS := ((pwX M L s a n).setT 8 (.v (.int .i64 d.1))).setT 7 (.u d.2)
@[irreducible] noncomputable def pwC : Code := roundOf PR 173 0
set_option maxRecDepth 1000000 in
theorem pw_round (M : Op2) (L : BitVec 64 -> Int) (s : Su) (a n : BitVec 64) (z : Int) (out : BitVec 64) : Tree.but [2] 0 (roundT PR (envOf eqsT (lpwT M L)) [13, 24] (fun _ => none) 10 pwK pwK pwK pwC (pwI M L s a n (z, out))) =
 .br (decide (z >= 0))
  (.br (bitU n z)
   (.need (notNeg z) (.leaf (.normal, pwI M L s a n (IntKind.i64.wrap (z - 1), M s (M s out out) a))))
   (.need (notNeg z) (.leaf (.normal, pwI M L s a n (IntKind.i64.wrap (z - 1), M s out out)))))
  (.leaf (.exit 0, pwI M L s a n (z, out))) := by cases s <;> kernel_rfl
set_option maxRecDepth 1000000 in
theorem pw_head (M : Op2) (L : BitVec 64 -> Int) (s : Su) (a n : BitVec 64) : (pwX M L s a n).setT 7 (.u (bitW true)) = pwI M L s a n (IntKind.i64.wrap (L n - 1), bitW true) := by cases s <;> kernel_rfl
set_option maxRecDepth 1000000 in
theorem pw_bit (M : Op2) (L : BitVec 64 -> Int) (s : Su) (a n : BitVec 64) : (pwX M L s a n).s.tm[7]? = some (.bit true) := by cases s <;> kernel_rfl
theorem pw_blk : blkAll 0 (bodyOf PR 173) = [.loop pwC] := by kernel_rfl
@[irreducible] noncomputable def pwB (M : Op2) (L : BitVec 64 -> Int) (s : Su) (a n r : BitVec 64) : BEnt := ⟨pwK.tm, pwK.ids, pwK.n, pwX M L s a n, .leaf (.normal, pwI M L s a n (-1, r))⟩
theorem pwB_n (M : Op2) (L : BitVec 64 -> Int) (s : Su) (a n r : BitVec 64) : (pwB M L s a n r).n = 6 /\ (pwB M L s a n r).pre = pwX M L s a n /\ (pwB M L s a n r).post = .leaf (.normal, pwI M L s a n (-1, r)) := by
 unfold pwB
 exact ⟨rfl, rfl, rfl⟩
set_option maxRecDepth 1000000 in
theorem pw_run (M : Op2) (L : BitVec 64 -> Int) (s : Su) (a n r : BitVec 64) : (afunR PR (envOf eqsT (lpwT M L)) [13, 24] (tabOf [(0, pwB M L s a n r)]) 10 173 [kCv.enc s, kU.enc a, kU.enc n]).strict =
 .same (pwX M L s a n) (pwX M L s a n) (.leaf (kU.enc r)) := by cases s <;> kernel_rfl
theorem pw_codeOk : codeOk (envOf eqsT (lpwT lMul blI)) pwC = true := by kernel_rfl
theorem blI_le (n : BitVec 64) : 0 <= blI n /\ blI n <= 64 := by
 have : bl n.toNat <= 64 := bl_spec.2 n.isLt
 unfold blI
 omega
def pwR (s : Su) (a n : BitVec 64) : BitVec 64 := sqB (fun u => lMul s u u) (fun u => lMul s u a) (bitU n) (bl n.toNat) (bitW true)
theorem pw_start (s : Su) (a n : BitVec 64) : ∀ d : Int × BitVec 64, d = (IntKind.i64.wrap (blI n - 1), bitW true) -> -1 <= d.1 /\ d.1 <= 63 /\ sqB (fun u => lMul s u u) (fun u => lMul s u a) (bitU n) (d.1 + 1).toNat d.2 = pwR s a n := by
 rintro d rfl
 have hl := blI_le n
 have hw : IntKind.i64.wrap (blI n - 1) = blI n - 1 := wrap_id (n := blI n - 1) (by omega) (by omega)
 rw [hw]
 refine ⟨?_, ?_, ?_⟩
 . show -1 <= blI n - 1
   omega
 . show blI n - 1 <= 63
   omega
 . show sqB _ _ _ (blI n - 1 + 1).toNat _ = _
   rw [show (blI n - 1 + 1).toNat = bl n.toNat by unfold blI; omega]
   rfl
theorem pw_loop (s : Su) (a n : BitVec 64) {Fr0 : Fr} {ds : List Deferred} {Q : AExit -> XS -> Prop} (hK : Q .normal (pwI lMul blI s a n (-1, pwR s a n))) :
 Tri PR Fr0 ds 0 (.block 0 (.loop pwC)) (pwX lMul blI s a n) Q :=
 Tri.asU (pw_bit lMul blI s a n) <| Eq.subst (motive := fun y => Tri PR Fr0 ds 0 (.block 0 (.loop pwC)) y Q) (pw_head lMul blI s a n).symm <|
  blockLoop (m := 0) (envOf_ok eqsT_ok lpwT_ok) mixed (sym := [13, 24]) (tab := fun _ => none) (lf := 10) (k := pwK) (kx := pwK) (kr := pwK) (by decide) (by decide) (by decide) pw_codeOk (tabOk_none _)
  (pwI lMul blI s a n) (fun d => -1 <= d.1 /\ d.1 <= 63 /\ sqB (fun u => lMul s u u) (fun u => lMul s u a) (bitU n) (d.1 + 1).toNat d.2 = pwR s a n) (fun d => (d.1 + 1).toNat) _ (pw_start s a n _ rfl)
  (sqB_law (by decide) (fun u => lMul s u u) (fun u => lMul s u a) (bitU n) notNeg notNeg_ok _ (pwI lMul blI s a n) (pw_round lMul blI s a n) hK)
theorem pw_tab (s : Su) (a n : BitVec 64) : TabOk PR 0 (tabOf [(0, pwB lMul blI s a n (pwR s a n))]) (bodyOf PR 173) :=
 tabOk_one (by rw [(pwB_n lMul blI s a n (pwR s a n)).1]; decide) pw_blk fun Fr0 ds Q h => by
  obtain ⟨-, h2, h3⟩ := pwB_n lMul blI s a n (pwR s a n)
  rw [h3] at h
  rw [h2]
  exact pw_loop s a n h
theorem pw_ctx (s : Su) (a n : BitVec 64) : Ctx PR (envOf eqsT (lpwT lMul blI)) [13, 24] (tabOf [(0, pwB lMul blI s a n (pwR s a n))]) 10 173 :=
 ctx_of (envOf_ok eqsT_ok lpwT_ok) mixed (fn := Tryz.f173) (by kernel_rfl) (by kernel_rfl) (by kernel_rfl) (pw_tab s a n)
theorem pwR_eq (s : Su) (a n : BitVec 64) : pwR s a n = lPow s a n := (sqF_eq (frc := frcU) (fun x f => frcU_eq x f) _ _ _ _ _).symm
theorem pw_ok : CallOk PR 173 (fn3 kCv kU kU kU lPow) :=
 .inl ⟨entersB (by kernel_rfl), pure3X fun s a n => .of (pw_ctx s a n) (sameVal (B := kU) (by rw [<- pwR_eq]; exact pw_run lMul blI s a n (pwR s a n)))⟩
theorem lv_ctx : Ctx PR (envOf eqsT (lvT lPow)) [] (fun _ => none) 10 228 :=
 ctxB (envOf_ok eqsT_ok (TabPOk.cons pw_ok TabPOk.nil)) mixed (by kernel_rfl)
theorem lv_ok : CallOk PR 228 (fn2 kCv kU kU lInv) :=
 .inl ⟨entersB (by kernel_rfl), pure2 lv_ctx fun s x => leafVal (B := kU) (y := lInv s x) (lv_run lPow s x)⟩
noncomputable def lq0 : LQ := ⟨lMul, lAdd, lSub, lrF, lInv, fun _ _ _ => (0#64, false), fun _ p _ => p⟩
theorem lsl_ctx : Ctx PR (envOf eqsT (lsT lq0)) [13, 35, 39] (fun _ => none) 10 182 :=
 ctxB (envOf_ok eqsT_ok (TabPOk.cons lm_ok (TabPOk.cons la_ok (TabPOk.cons ls_ok (TabPOk.cons lv_ok TabPOk.nil))))) mixed (by kernel_rfl)
theorem lsl_ok : CallOk PR 182 (fn3 kCv cLp.agg cLp.agg kUb lSlope) :=
 .inl ⟨entersB (by kernel_rfl), pure3 lsl_ctx fun s p q => lsl_gives lq0 s p q⟩
noncomputable def lq1 : LQ := ⟨lMul, lAdd, lSub, lrF, lInv, lSlope, fun _ p _ => p⟩
theorem lSum_eq (s : Su) (p q : Lp) : sumG lq1 s p q = lSum s p q := by
 unfold lSum sumG
 rw [frcB_eq, frcU_eq, frcU_eq]
 rfl
theorem lsm_ctx : Ctx PR (envOf eqsT (lsmT lq1)) [10, 14, 26] (fun _ => none) 10 128 :=
 ctxB (envOf_ok eqsT_ok (TabPOk.cons lm_ok (TabPOk.cons ls_ok (TabPOk.cons lsl_ok TabPOk.nil)))) mixed (by kernel_rfl)
theorem lsm_ok : CallOk PR 128 (fn3 kCv cLp.agg cLp.agg cLp.agg lSum) :=
 .inl ⟨entersB (by kernel_rfl), pure3 lsm_ctx fun s p q => by rw [<- lSum_eq]; exact lsm_gives lq1 s p q⟩
def ltmT (S : Su -> Lp -> Lp -> Lp) (L : BitVec 64 -> Int) : PureTab := [(128, fn3 kCv cLp.agg cLp.agg cLp.agg S), (162, fn1 kU (kInt .i64) L)]
theorem ltmT_ok : TabPOk PR (ltmT lSum blI) := TabPOk.cons lsm_ok (TabPOk.cons len64_ok TabPOk.nil)
def tmK : Keep := ⟨[2, 3, 4, 6, 7, 8], [0, 1, 2, 4], 9⟩
@[irreducible] noncomputable def tmX (S : Su -> Lp -> Lp -> Lp) (L : BitVec 64 -> Int) (s : Su) (p : Lp) (n : BitVec 64) : XS := entryOf PR (envOf eqsT (ltmT S L)) [14, 25] (fun _ => none) 10 127 [kCv.enc s, cLp.agg.enc p, kU.enc n] [] 0 0 tmK
@[irreducible] noncomputable def tmI (S : Su -> Lp -> Lp -> Lp) (L : BitVec 64 -> Int) (s : Su) (p : Lp) (n : BitVec 64) (d : Int × Lp) : XS := ((tmX S L s p n).setT 8 (.v (.int .i64 d.1))).setB 4 (cLp.enc d.2)
@[irreducible] noncomputable def tmC : Code := roundOf PR 127 0
set_option maxRecDepth 1000000 in
theorem tm_round (S : Su -> Lp -> Lp -> Lp) (L : BitVec 64 -> Int) (s : Su) (p : Lp) (n : BitVec 64) (z : Int) (out : Lp) : Tree.but [2] 0 (roundT PR (envOf eqsT (ltmT S L)) [14, 25] (fun _ => none) 10 tmK tmK tmK tmC (tmI S L s p n (z, out))) =
 .br (decide (z >= 0))
  (.br (bitU n z)
   (.need (notNeg z) (.leaf (.normal, tmI S L s p n (IntKind.i64.wrap (z - 1), S s (S s out out) p))))
   (.need (notNeg z) (.leaf (.normal, tmI S L s p n (IntKind.i64.wrap (z - 1), S s out out)))))
  (.leaf (.exit 0, tmI S L s p n (z, out))) := by cases s <;> kernel_rfl
set_option maxRecDepth 1000000 in
theorem tm_head (S : Su -> Lp -> Lp -> Lp) (L : BitVec 64 -> Int) (s : Su) (p : Lp) (n : BitVec 64) : (tmX S L s p n).setB 4 (cLp.enc lp0) = tmI S L s p n (IntKind.i64.wrap (L n - 1), lp0) := by cases s <;> kernel_rfl
set_option maxRecDepth 1000000 in
theorem tm_cell (S : Su -> Lp -> Lp -> Lp) (L : BitVec 64 -> Int) (s : Su) (p : Lp) (n : BitVec 64) : (tmX S L s p n).s.h.get 4 = some ⟨true, 43, [.u 0#64, .u 0#64, .lit true]⟩ := by cases s <;> kernel_rfl
theorem tm_blk : blkAll 0 (bodyOf PR 127) = [.loop tmC] := by kernel_rfl
@[irreducible] noncomputable def tmB (S : Su -> Lp -> Lp -> Lp) (L : BitVec 64 -> Int) (s : Su) (p : Lp) (n : BitVec 64) (r : Lp) : BEnt := ⟨tmK.tm, tmK.ids, tmK.n, tmX S L s p n, .leaf (.normal, tmI S L s p n (-1, r))⟩
theorem tmB_n (S : Su -> Lp -> Lp -> Lp) (L : BitVec 64 -> Int) (s : Su) (p : Lp) (n : BitVec 64) (r : Lp) : (tmB S L s p n r).n = 9 /\ (tmB S L s p n r).pre = tmX S L s p n /\ (tmB S L s p n r).post = .leaf (.normal, tmI S L s p n (-1, r)) := by
 unfold tmB
 exact ⟨rfl, rfl, rfl⟩
set_option maxRecDepth 1000000 in
theorem tm_run (S : Su -> Lp -> Lp -> Lp) (L : BitVec 64 -> Int) (s : Su) (p : Lp) (n : BitVec 64) (r : Lp) : (afunR PR (envOf eqsT (ltmT S L)) [14, 25] (tabOf [(0, tmB S L s p n r)]) 10 127 [kCv.enc s, cLp.agg.enc p, kU.enc n]).strict =
 .same (tmX S L s p n) (tmX S L s p n) (.leaf (cLp.agg.enc r)) := by cases s <;> kernel_rfl
theorem tm_codeOk : codeOk (envOf eqsT (ltmT lSum blI)) tmC = true := by kernel_rfl
noncomputable def tmR (s : Su) (p : Lp) (n : BitVec 64) : Lp := sqB (fun u => lSum s u u) (fun u => lSum s u p) (bitU n) (bl n.toNat) lp0
theorem tm_start (s : Su) (p : Lp) (n : BitVec 64) : ∀ d : Int × Lp, d = (IntKind.i64.wrap (blI n - 1), lp0) -> -1 <= d.1 /\ d.1 <= 63 /\ sqB (fun u => lSum s u u) (fun u => lSum s u p) (bitU n) (d.1 + 1).toNat d.2 = tmR s p n := by
 rintro d rfl
 have hl := blI_le n
 have hw : IntKind.i64.wrap (blI n - 1) = blI n - 1 := wrap_id (n := blI n - 1) (by omega) (by omega)
 rw [hw]
 refine ⟨?_, ?_, ?_⟩
 . show -1 <= blI n - 1
   omega
 . show blI n - 1 <= 63
   omega
 . show sqB _ _ _ (blI n - 1 + 1).toNat _ = _
   rw [show (blI n - 1 + 1).toNat = bl n.toNat by unfold blI; omega]
   rfl
theorem cells3 {ρ : Ren} {i : Nat} {a c : AV} {x : Value} (ha : ([.u 0#64, .u 0#64, .lit true] : List AV)[i]? = some a) (hc : (cLp.enc lp0)[i]? = some c) (h : Rv ρ a x) : Rv ρ c x := by
 have e : cLp.enc lp0 = [.u 0#64, .u 0#64, .v (.bool true)] := rfl
 rw [e] at hc
 match i with
 | 0 => simp at ha hc; subst ha; subst hc; exact h
 | 1 => simp at ha hc; subst ha; subst hc; exact h
 | 2 => simp at ha hc; subst ha; subst hc; exact h.other rfl rfl
 | n + 3 => simp at ha
theorem tm_loop (s : Su) (p : Lp) (n : BitVec 64) {Fr0 : Fr} {ds : List Deferred} {Q : AExit -> XS -> Prop} (hK : Q .normal (tmI lSum blI s p n (-1, tmR s p n))) :
 Tri PR Fr0 ds 0 (.block 0 (.loop tmC)) (tmX lSum blI s p n) Q :=
 Tri.asC (cs := cLp.enc lp0) (tm_cell lSum blI s p n) rfl (fun ρ i a c x ha hc h => cells3 ha hc h) <| Eq.subst (motive := fun y => Tri PR Fr0 ds 0 (.block 0 (.loop tmC)) y Q) (tm_head lSum blI s p n).symm <|
  blockLoop (m := 0) (envOf_ok eqsT_ok ltmT_ok) mixed (sym := [14, 25]) (tab := fun _ => none) (lf := 10) (k := tmK) (kx := tmK) (kr := tmK) (by decide) (by decide) (by decide) tm_codeOk (tabOk_none _)
  (tmI lSum blI s p n) (fun d => -1 <= d.1 /\ d.1 <= 63 /\ sqB (fun u => lSum s u u) (fun u => lSum s u p) (bitU n) (d.1 + 1).toNat d.2 = tmR s p n) (fun d => (d.1 + 1).toNat) _ (tm_start s p n _ rfl)
  (sqB_law (by decide) (fun u => lSum s u u) (fun u => lSum s u p) (bitU n) notNeg notNeg_ok _ (tmI lSum blI s p n) (tm_round lSum blI s p n) hK)
theorem tm_tab (s : Su) (p : Lp) (n : BitVec 64) : TabOk PR 0 (tabOf [(0, tmB lSum blI s p n (tmR s p n))]) (bodyOf PR 127) :=
 tabOk_one (by rw [(tmB_n lSum blI s p n (tmR s p n)).1]; decide) tm_blk fun Fr0 ds Q h => by
  obtain ⟨-, h2, h3⟩ := tmB_n lSum blI s p n (tmR s p n)
  rw [h3] at h
  rw [h2]
  exact tm_loop s p n h
theorem tm_ctx (s : Su) (p : Lp) (n : BitVec 64) : Ctx PR (envOf eqsT (ltmT lSum blI)) [14, 25] (tabOf [(0, tmB lSum blI s p n (tmR s p n))]) 10 127 :=
 ctx_of (envOf_ok eqsT_ok ltmT_ok) mixed (fn := Tryz.f127) (by kernel_rfl) (by kernel_rfl) (by kernel_rfl) (tm_tab s p n)
theorem tmR_eq (s : Su) (p : Lp) (n : BitVec 64) : tmR s p n = lTimes s p n := (sqF_eq (frc := frcLp) (fun x f => frcLp_eq x f) _ _ _ _ _).symm
theorem tm_ok : CallOk PR 127 (fn3 kCv cLp.agg kU cLp.agg lTimes) :=
 .inl ⟨entersB (by kernel_rfl), pure3X fun s p n => .of (tm_ctx s p n) (sameVal (B := cLp.agg) (by rw [<- tmR_eq]; exact tm_run lSum blI s p n (tmR s p n)))⟩
def linT (O : Su -> Lp -> Bool) (T : Su -> Lp -> BitVec 64 -> Lp) : PureTab := [(181, fn2 kCv cLp.agg kBool O), (127, fn3 kCv cLp.agg kU cLp.agg T)]
theorem lin_run (O : Su -> Lp -> Bool) (T : Su -> Lp -> BitVec 64 -> Lp) (s : Su) (p : Lp) : (afunR PR (envOf eqsT (linT O T)) [8] (fun _ => none) 10 148 [kCv.enc s, cLp.agg.enc p]).strict =
 .br (O s p) (.leaf (.v (.bool (T s p (suR s)).2.2))) (.leaf (.lit false)) := by cases s <;> kernel_rfl
theorem lin_ctx : Ctx PR (envOf eqsT (linT onF lTimes)) [8] (fun _ => none) 10 148 :=
 ctxB (envOf_ok eqsT_ok (TabPOk.cons lo_ok (TabPOk.cons tm_ok TabPOk.nil))) mixed (by kernel_rfl)
theorem lin_ok : CallOk PR 148 (fn2 kCv cLp.agg kBool inF) :=
 .inl ⟨entersB (by kernel_rfl), pure2 lin_ctx fun s p => givesOf (lin_run onF lTimes s p) (holds_br (B := kBool) (holds_leaf rfl) (holds_leaf rfl))⟩
noncomputable def lofG : List AV -> Option (Bool × AV) := inlineG PR (envOf eqsT []) [] 10 108
theorem lof_ctx : Ctx PR (envOf eqsT []) [] (fun _ => none) 10 108 :=
 ctxB (envOf_ok eqsT_ok TabPOk.nil) mixed (by kernel_rfl)
theorem lof_ok : CallOk PR 108 lofG := .inl ⟨entersB (by kernel_rfl), inline_ok lof_ctx⟩
noncomputable def liE (O : Su -> Lp -> Bool) : Env := envOf eqsT [(108, lofG), (148, fn2 kCv cLp.agg kBool O)]
def liF (O : Su -> Lp -> Bool) : Sx -> Lp -> Bool
 | .li, p => O .lit p
 | .mi, p => O .mid p
 | _, _ => false
theorem li_run (O : Su -> Lp -> Bool) (s : Sx) (p : Lp) : valS (afunR PR (liE O) [] (fun _ => none) 10 91 [kSx.enc s, cLp.agg.enc p]) = some (kBool.val (liF O s p)) := by cases s <;> kernel_rfl
theorem li_ctx : Ctx PR (liE inF) [] (fun _ => none) 10 91 :=
 ctxB (envOf_ok eqsT_ok (TabPOk.cons lof_ok (TabPOk.cons lin_ok TabPOk.nil))) mixed (by kernel_rfl)
theorem li_ok : CallOk PR 91 (fn2 kSx cLp.agg kBool (liF inF)) :=
 .inl ⟨entersB (by kernel_rfl), pure2 li_ctx fun s p => givesV (li_run inF s p)⟩
noncomputable def lchE (O : Su -> Lp -> Bool) : Env := envA eqsT [(108, lofG), (181, fn2 kCv cLp.agg kBool O)] [] [] [] [] [] true []
noncomputable def lchV (O : Su -> Lp -> Bool) : List AV -> AH -> Option (Bool × AV × AH) := viewP [] PR (lchE O) [26] 20 126
theorem lch_ctx : Ctx PR (lchE onF) [26] (fun _ => none) 20 126 :=
 ctxB (envA_ok eqsT_ok (TabPOk.cons lof_ok (TabPOk.cons lo_ok TabPOk.nil)) TabHOk.nil TabLOk.nil TabAOk.nil) mixed (by kernel_rfl)
theorem lch_ent : Enters PR 126 := entersB (by kernel_rfl)
theorem lch_ok : HeapOk PR 126 (lchV onF) := viewP_ok lch_ctx
noncomputable def ladE (O : Su -> Lp -> Bool) (S : Su -> Lp -> Lp -> Lp) : Env := envA eqsT [(128, fn3 kCv cLp.agg cLp.agg cLp.agg S)] [(126, lchV O)] [] [] [] [] true [126]
def kLE : Cod (Lp × Int) := kTup cLp.agg (kInt .i64) (fun x => by simp only [CC.agg, flatA, cLp.h1]) (fun _ => rfl)
def okL (O : Su -> Lp -> Bool) : Sx -> Lp -> Bool
 | .li, p => O .lit p
 | .mi, p => O .mid p
 | _, _ => true
def raw1 (b : Bool) : Bool := bif ((bif b then true else false) && true) then true else false
def raw2 (b c : Bool) : Bool := bif ((bif b then (bif c then true else false) else false) && true) then true else false
def ladC (O : Su -> Lp -> Bool) : Sx -> Lp -> Lp -> Bool
 | .li, p, q => raw2 (O .lit p) (O .lit q)
 | .mi, p, q => raw2 (O .mid p) (O .mid q)
 | _, _, _ => true
theorem ladC_of {O : Su -> Lp -> Bool} {s : Sx} {p q : Lp} (h : (okL O s p && okL O s q) = true) : ladC O s p q = true := by
 obtain ⟨h1, h2⟩ := Bool.and_eq_true_iff.1 h
 cases s <;> simp only [okL] at h1 h2 <;> simp [ladC, raw2, h1, h2]
def lonC (O : Su -> Lp -> Bool) : Sx -> Lp -> Bool
 | .li, p => raw1 (O .lit p)
 | .mi, p => raw1 (O .mid p)
 | _, _ => true
theorem lonC_of {O : Su -> Lp -> Bool} {s : Sx} {p : Lp} (h : okL O s p = true) : lonC O s p = true := by
 cases s <;> simp only [okL] at h <;> simp [lonC, raw1, h]
def ladF (S : Su -> Lp -> Lp -> Lp) : Sx -> Lp -> Lp -> Lp × Int
 | .li, p, q => (S .lit p q, 0)
 | .mi, p, q => (S .mid p q, 0)
 | _, _, _ => (zLx, 2)
theorem lad_run (O : Su -> Lp -> Bool) (S : Su -> Lp -> Lp -> Lp) (s : Sx) (p q : Lp) : valP [] (afunR PR (ladE O S) [] (fun _ => none) 10 76 [kSx.enc s, cLp.agg.enc p, cLp.agg.enc q]) =
 some (ladC O s p q, some (kLE.val (ladF S s p q))) := by cases s <;> kernel_rfl
theorem lad_ctx : Ctx PR (ladE onF lSum) [] (fun _ => none) 10 76 :=
 ctxB (envA_ok eqsT_ok (TabPOk.cons lsm_ok TabPOk.nil) (TabHOk.cons lch_ent lch_ok TabHOk.nil) TabLOk.nil TabAOk.nil) mixed (by kernel_rfl)
theorem lad_ok : CallOk PR 76 (fnQ3 kSx cLp.agg cLp.agg kLE (fun s p q => okL onF s p && okL onF s q) (ladF lSum)) :=
 .inl ⟨entersB (by kernel_rfl), pureQ3 lad_ctx fun s p q h => givesP (lad_run onF lSum s p q) (ladC_of h)⟩
def lneF (M : Op2) : Sx -> Lp -> Lp × Int
 | .li, p => ((p.1, M .lit 0#64 p.2.1, p.2.2), 0)
 | .mi, p => ((p.1, M .mid 0#64 p.2.1, p.2.2), 0)
 | _, _ => (zLx, 2)
noncomputable def lmuE (O : Su -> Lp -> Bool) (T : Su -> Lp -> BitVec 64 -> Lp) : Env := envA eqsT [(127, fn3 kCv cLp.agg kU cLp.agg T)] [(126, lchV O)] [] [] [] [] true [126]
def lmuF (T : Su -> Lp -> BitVec 64 -> Lp) : Sx -> Lp -> BitVec 64 -> Lp × Int
 | .li, p, n => (T .lit p n, 0)
 | .mi, p, n => (T .mid p n, 0)
 | _, _, _ => (zLx, 2)
theorem lmu_run (O : Su -> Lp -> Bool) (T : Su -> Lp -> BitVec 64 -> Lp) (s : Sx) (p : Lp) (n : BitVec 64) : valP [] (afunR PR (lmuE O T) [] (fun _ => none) 10 74 [kSx.enc s, cLp.agg.enc p, kU.enc n]) =
 some (lonC O s p, some (kLE.val (lmuF T s p n))) := by cases s <;> kernel_rfl
theorem lmu_ctx : Ctx PR (lmuE onF lTimes) [] (fun _ => none) 10 74 :=
 ctxB (envA_ok eqsT_ok (TabPOk.cons tm_ok TabPOk.nil) (TabHOk.cons lch_ent lch_ok TabHOk.nil) TabLOk.nil TabAOk.nil) mixed (by kernel_rfl)
theorem lmu_ok : CallOk PR 74 (fnQ3 kSx cLp.agg kU kLE (fun s p _ => okL onF s p) (lmuF lTimes)) :=
 .inl ⟨entersB (by kernel_rfl), pureQ3 lmu_ctx fun s p n h => givesP (lmu_run onF lTimes s p n) (lonC_of h)⟩
def rWx : W6 := ⟨0xffffffff00000001#64, 0x53bda402fffe5bfe#64, 0x3339d80809a1d805#64, 0x73eda753299d7d48#64, 0#64, 0#64⟩
theorem mor_run : (afunR PR (envOf eqsT []) [] (fun _ => none) 10 136 []).strict = .leaf (c6.agg.enc rWx) := by kernel_rfl
theorem mor_ctx : Ctx PR (envOf eqsT []) [] (fun _ => none) 10 136 :=
 ctxB (envOf_ok eqsT_ok TabPOk.nil) mixed (by kernel_rfl)
theorem mor_ok : CallOk PR 136 (fn0 c6.agg rWx) :=
 .inl ⟨entersB (by kernel_rfl), pure0 mor_ctx (leafVal (B := c6.agg) mor_run)⟩
def kUE : Cod (BitVec 64 × Int) := kTup kU (kInt .i64) (fun _ => rfl) (fun _ => rfl)
def lorF : Sx -> BitVec 64 × Int
 | .li => (65521#64, 0)
 | .mi => (72057594037927889#64, 0)
 | _ => (0#64, 2)
noncomputable def lorE : Env := envOf eqsT [(108, lofG)]
theorem lor_run (s : Sx) : valS (afunR PR lorE [] (fun _ => none) 10 137 [kSx.enc s]) = some (kUE.val (lorF s)) := by cases s <;> kernel_rfl
theorem lor_ctx : Ctx PR lorE [] (fun _ => none) 10 137 :=
 ctxB (envOf_ok eqsT_ok (TabPOk.cons lof_ok TabPOk.nil)) mixed (by kernel_rfl)
theorem lor_ok : CallOk PR 137 (fn1 kSx kUE lorF) :=
 .inl ⟨entersB (by kernel_rfl), pure1 lor_ctx fun s => givesV (lor_run s)⟩
def ordE (R : W6) (L : Sx -> BitVec 64 × Int) (O : BitVec 64 -> W6) : Env := envOf eqsT [(136, fn0 c6.agg R), (137, fn1 kSx kUE L), (33, fn1 kU c6.agg O)]
def ordF (R : W6) (L : Sx -> BitVec 64 × Int) (O : BitVec 64 -> W6) : Sx -> W6
 | .gr => R
 | s => O (L s).1
theorem ord_run (R : W6) (L : Sx -> BitVec 64 × Int) (O : BitVec 64 -> W6) (s : Sx) : valS (afunR PR (ordE R L O) [] (fun _ => none) 10 87 [kSx.enc s]) = some (c6.agg.val (ordF R L O s)) := by cases s <;> kernel_rfl
theorem ord_ctx : Ctx PR (ordE rWx lorF ofW) [] (fun _ => none) 10 87 :=
 ctxB (envOf_ok eqsT_ok (TabPOk.cons mor_ok (TabPOk.cons lor_ok (TabPOk.cons of_ok TabPOk.nil)))) mixed (by kernel_rfl)
theorem ord_ok : CallOk PR 87 (fn1 kSx c6.agg (ordF rWx lorF ofW)) :=
 .inl ⟨entersB (by kernel_rfl), pure1 ord_ctx fun s => givesV (ord_run rWx lorF ofW s)⟩
def eqLz (l : Lp) : Bool := l.1 == 0#64 && (l.2.1 == 0#64 && (l.2.2 == false && true))
def eqW6 (w : W6) (b : Bool) : Bool := w.w0 == 0#64 && (w.w1 == 0#64 && (w.w2 == 0#64 && (w.w3 == 0#64 && (w.w4 == 0#64 && (w.w5 == 0#64 && b)))))
def eqPx (p : Px) : Bool := eqW6 p.1 (eqW6 p.2.1 (p.2.2 == false && true))
def kchE (I : Px -> Bool) (L : Sx -> Lp -> Bool) : Env := envOf eqsT [(90, fn1 cPx.agg kBool I), (91, fn2 kSx cLp.agg kBool L)]
def kchF (I : Px -> Bool) (L : Sx -> Lp -> Bool) : Kx -> Bool
 | (.gr, p, l) => bif eqLz l then I p else false
 | (.li, p, l) => bif eqPx p then L .li l else false
 | (.mi, p, l) => bif eqPx p then L .mi l else false
 | _ => false
theorem kch_run (I : Px -> Bool) (L : Sx -> Lp -> Bool) (k : Kx) : valS (afunR PR (kchE I L) [10, 22] (fun _ => none) 10 48 [cKx.agg.enc k]) = some (kBool.val (kchF I L k)) := by
 obtain ⟨s, p, l⟩ := k
 cases s <;> kernel_rfl
theorem kch_ctx {I : Px -> Bool} {L : Sx -> Lp -> Bool} (hI : CallOk PR 90 (fn1 cPx.agg kBool I)) (hL : CallOk PR 91 (fn2 kSx cLp.agg kBool L)) : Ctx PR (kchE I L) [10, 22] (fun _ => none) 10 48 :=
 ctxB (envOf_ok eqsT_ok (TabPOk.cons hI (TabPOk.cons hL TabPOk.nil))) mixed (by kernel_rfl)
theorem kch_ok {I : Px -> Bool} {L : Sx -> Lp -> Bool} (hI : CallOk PR 90 (fn1 cPx.agg kBool I)) (hL : CallOk PR 91 (fn2 kSx cLp.agg kBool L)) : CallOk PR 48 (fn1 cKx.agg kBool (kchF I L)) :=
 .inl ⟨entersB (by kernel_rfl), pure1 (kch_ctx hI hL) fun k => givesV (kch_run I L k)⟩
noncomputable def kysE (K : Kx -> Bool) (R : Sx -> W6) (C : W6 -> W6 -> Int) : Env := envA eqsT [(48, fn1 cKx.agg kBool K), (87, fn1 kSx c6.agg R), (86, fn2 c6.agg c6.agg (kInt .i64) C)] [] [] [] [] [] true []
noncomputable def kysV (K : Kx -> Bool) (R : Sx -> W6) (C : W6 -> W6 -> Int) : List AV -> AH -> Option (Bool × AV × AH) := viewS PR (kysE K R C) [14, 28, 37] 20 72
theorem kys_ent : Enters PR 72 := entersB (by kernel_rfl)
def ky1 (K : Kx -> Bool) (R : Sx -> W6) (C : W6 -> W6 -> Int) (n : W6) (a : Kx) : Int := bif K a then (bif a.1.int != a.1.int then 2 else (bif decide (C n (R a.1) >= 0) then 2 else 0)) else 5
def ky2 (K : Kx -> Bool) (R : Sx -> W6) (C : W6 -> W6 -> Int) (n : W6) (a b : Kx) : Int := bif K a then (bif K b then (bif a.1.int != b.1.int then 2 else (bif decide (C n (R a.1) >= 0) then 2 else 0)) else 5) else 5
theorem kys_ctx {K : Kx -> Bool} {R : Sx -> W6} {C : W6 -> W6 -> Int} (hK : CallOk PR 48 (fn1 cKx.agg kBool K)) (hR : CallOk PR 87 (fn1 kSx c6.agg R)) (hC : CallOk PR 86 (fn2 c6.agg c6.agg (kInt .i64) C)) :
 Ctx PR (kysE K R C) [14, 28, 37] (fun _ => none) 20 72 :=
 ctxB (envA_ok eqsT_ok (TabPOk.cons hK (TabPOk.cons hR (TabPOk.cons hC TabPOk.nil))) TabHOk.nil TabLOk.nil TabAOk.nil) mixed (by kernel_rfl)
theorem kys_ok {K : Kx -> Bool} {R : Sx -> W6} {C : W6 -> W6 -> Int} (hK : CallOk PR 48 (fn1 cKx.agg kBool K)) (hR : CallOk PR 87 (fn1 kSx c6.agg R)) (hC : CallOk PR 86 (fn2 c6.agg c6.agg (kInt .i64) C)) :
 HeapOk PR 72 (kysV K R C) := viewS_ok (kys_ctx hK hR hC)
def kPE : Cod (Px × Int) := kTup cPx.agg (kInt .i64) (fun x => by simp only [CC.agg, flatA, cPx.h1]) (fun _ => rfl)
def kKE : Cod (Kx × Int) := kTup cKx.agg (kInt .i64) (fun x => by simp only [CC.agg, flatA, cKx.h1]) (fun _ => rfl)
def zW6 : W6 := ⟨0#64, 0#64, 0#64, 0#64, 0#64, 0#64⟩
abbrev KK : Type := Kx -> Bool
noncomputable def kadE (K : KK) (R : Sx -> W6) (C : W6 -> W6 -> Int) (A : Px -> Px -> Px × Int) (Q : Sx -> Lp -> Lp -> Bool) (D : Sx -> Lp -> Lp -> Lp × Int) : Env :=
 envA eqsT [(75, fn2 cPx.agg cPx.agg kPE A), (76, fnQ3 kSx cLp.agg cLp.agg kLE Q D)] [(72, kysV K R C)] [] [] [] [] true [72]
def kadF (A : Px -> Px -> Px × Int) (D : Sx -> Lp -> Lp -> Lp × Int) : Kx -> Kx -> Kx
 | (.gr, p, _), (_, q, _) => (.gr, (A p q).1, zLx)
 | (s, _, l), (_, _, m) => (s, zPx, (D s l m).1)
def kadC (Q : Sx -> Lp -> Lp -> Bool) (E : Int) : Kx -> Kx -> Bool
 | (.gr, _, _), _ => bif E != 0 then false else true
 | (s, _, l), (_, _, m) => bif E != 0 then false else (bif (Q s l m && true) then true else false)
set_option maxRecDepth 100000 in
theorem kad_err (K : KK) (R : Sx -> W6) (C : W6 -> W6 -> Int) (A : Px -> Px -> Px × Int) (Q : Sx -> Lp -> Lp -> Bool) (D : Sx -> Lp -> Lp -> Lp × Int) (a b : Kx) :
 valP [true] (afunR PR (kadE K R C A Q D) [14] (fun _ => none) 20 36 [cKx.agg.enc a, cKx.agg.enc b]) =
  some (bif ky2 K R C zW6 a b != 0 then true else false, some (kKE.val (zKx, ky2 K R C zW6 a b))) := by
 obtain ⟨s, p, l⟩ := a
 obtain ⟨t, q, m⟩ := b
 cases s <;> cases t <;> kernel_rfl
set_option maxRecDepth 100000 in
theorem kad_run (K : KK) (R : Sx -> W6) (C : W6 -> W6 -> Int) (A : Px -> Px -> Px × Int) (Q : Sx -> Lp -> Lp -> Bool) (D : Sx -> Lp -> Lp -> Lp × Int) (a b : Kx) :
 valP [false] (afunR PR (kadE K R C A Q D) [14] (fun _ => none) 20 36 [cKx.agg.enc a, cKx.agg.enc b]) =
  some (kadC Q (ky2 K R C zW6 a b) a b, some (kKE.val (kadF A D a b, 0))) := by
 obtain ⟨s, p, l⟩ := a
 obtain ⟨t, q, m⟩ := b
 cases s <;> cases t <;> kernel_rfl
theorem kadC_of {Q : Sx -> Lp -> Lp -> Bool} {E : Int} {a b : Kx} (hE : (E != 0) = false) (hQ : a.1 ≠ .gr -> Q a.1 a.2.2 b.2.2 = true) : kadC Q E a b = true := by
 obtain ⟨s, p, l⟩ := a
 obtain ⟨t, q, m⟩ := b
 cases s with
 | gr => simp [kadC, hE]
 | li => have h := hQ (by simp); simp only at h; simp [kadC, hE, h]
 | mi => have h := hQ (by simp); simp only at h; simp [kadC, hE, h]
 | up n => have h := hQ (by simp); simp only at h; simp [kadC, hE, h]
 | neg n => have h := hQ (by simp); simp only at h; simp [kadC, hE, h]
def kadG (K : KK) (R : Sx -> W6) (C : W6 -> W6 -> Int) (A : Px -> Px -> Px × Int) (D : Sx -> Lp -> Lp -> Lp × Int) (a b : Kx) : Kx × Int :=
 bif ky2 K R C zW6 a b != 0 then (zKx, ky2 K R C zW6 a b) else (kadF A D a b, 0)
theorem kad_gives (K : KK) (R : Sx -> W6) (C : W6 -> W6 -> Int) (A : Px -> Px -> Px × Int) (Q : Sx -> Lp -> Lp -> Bool) (D : Sx -> Lp -> Lp -> Lp × Int) (hQ : ∀ a b : Kx, (ky2 K R C zW6 a b != 0) = false -> a.1 ≠ .gr -> Q a.1 a.2.2 b.2.2 = true) (a b : Kx) :
 Gives (afunR PR (kadE K R C A Q D) [14] (fun _ => none) 20 36 [cKx.agg.enc a, cKx.agg.enc b]) (kKE.val (kadG K R C A D a b)) := by
 unfold kadG
 cases hE : ky2 K R C zW6 a b != 0 with
 | true =>
  rw [cond_true]
  exact givesP (kad_err K R C A Q D a b) (by rw [hE]; rfl)
 | false =>
  rw [cond_false]
  exact givesP (kad_run K R C A Q D a b) (kadC_of hE (hQ a b hE))
theorem kad_ctx {K : KK} {R : Sx -> W6} {C : W6 -> W6 -> Int} {A : Px -> Px -> Px × Int} {Q : Sx -> Lp -> Lp -> Bool} {D : Sx -> Lp -> Lp -> Lp × Int} (hY : HeapOk PR 72 (kysV K R C))
 (hA : CallOk PR 75 (fn2 cPx.agg cPx.agg kPE A)) (hD : CallOk PR 76 (fnQ3 kSx cLp.agg cLp.agg kLE Q D)) : Ctx PR (kadE K R C A Q D) [14] (fun _ => none) 20 36 :=
 ctxB (envA_ok eqsT_ok (TabPOk.cons hA (TabPOk.cons hD TabPOk.nil)) (TabHOk.cons kys_ent hY TabHOk.nil) TabLOk.nil TabAOk.nil) mixed (by kernel_rfl)
theorem kad_ok {K : KK} {R : Sx -> W6} {C : W6 -> W6 -> Int} {A : Px -> Px -> Px × Int} {Q : Sx -> Lp -> Lp -> Bool} {D : Sx -> Lp -> Lp -> Lp × Int} (hY : HeapOk PR 72 (kysV K R C))
 (hA : CallOk PR 75 (fn2 cPx.agg cPx.agg kPE A)) (hD : CallOk PR 76 (fnQ3 kSx cLp.agg cLp.agg kLE Q D))
 (hQ : ∀ a b : Kx, (ky2 K R C zW6 a b != 0) = false -> a.1 ≠ .gr -> Q a.1 a.2.2 b.2.2 = true) : CallOk PR 36 (fn2 cKx.agg cKx.agg kKE (kadG K R C A D)) :=
 .inl ⟨entersB (by kernel_rfl), pure2 (kad_ctx hY hA hD) fun a b => kad_gives K R C A Q D hQ a b⟩
noncomputable def kmuE (K : KK) (R : Sx -> W6) (C : W6 -> W6 -> Int) (A : Px -> W6 -> Px × Int) (Q : Sx -> Lp -> BitVec 64 -> Bool) (D : Sx -> Lp -> BitVec 64 -> Lp × Int) : Env :=
 envA eqsT [(73, fn2 cPx.agg c6.agg kPE A), (74, fnQ3 kSx cLp.agg kU kLE Q D)] [(72, kysV K R C)] [] [] [] [] true [72]
def kmuF (A : Px -> W6 -> Px × Int) (D : Sx -> Lp -> BitVec 64 -> Lp × Int) : Kx -> W6 -> Kx
 | (.gr, p, _), n => (.gr, (A p n).1, zLx)
 | (s, _, l), n => (s, zPx, (D s l n.w0).1)
def kmuC (Q : Sx -> Lp -> BitVec 64 -> Bool) (E : Int) : Kx -> W6 -> Bool
 | (.gr, _, _), _ => bif E != 0 then false else true
 | (s, _, l), n => bif E != 0 then false else (bif (Q s l n.w0 && true) then true else false)
set_option maxRecDepth 100000 in
theorem kmu_err (K : KK) (R : Sx -> W6) (C : W6 -> W6 -> Int) (A : Px -> W6 -> Px × Int) (Q : Sx -> Lp -> BitVec 64 -> Bool) (D : Sx -> Lp -> BitVec 64 -> Lp × Int) (a : Kx) (n : W6) :
 valP [true] (afunR PR (kmuE K R C A Q D) [13] (fun _ => none) 20 35 [cKx.agg.enc a, c6.agg.enc n]) =
  some (bif ky1 K R C n a != 0 then true else false, some (kKE.val (zKx, ky1 K R C n a))) := by
 obtain ⟨s, p, l⟩ := a
 cases s <;> kernel_rfl
set_option maxRecDepth 100000 in
theorem kmu_run (K : KK) (R : Sx -> W6) (C : W6 -> W6 -> Int) (A : Px -> W6 -> Px × Int) (Q : Sx -> Lp -> BitVec 64 -> Bool) (D : Sx -> Lp -> BitVec 64 -> Lp × Int) (a : Kx) (n : W6) :
 valP [false] (afunR PR (kmuE K R C A Q D) [13] (fun _ => none) 20 35 [cKx.agg.enc a, c6.agg.enc n]) =
  some (kmuC Q (ky1 K R C n a) a n, some (kKE.val (kmuF A D a n, 0))) := by
 obtain ⟨s, p, l⟩ := a
 cases s <;> kernel_rfl
theorem kmuC_of {Q : Sx -> Lp -> BitVec 64 -> Bool} {E : Int} {a : Kx} {n : W6} (hE : (E != 0) = false) (hQ : a.1 ≠ .gr -> Q a.1 a.2.2 n.w0 = true) : kmuC Q E a n = true := by
 obtain ⟨s, p, l⟩ := a
 cases s with
 | gr => simp [kmuC, hE]
 | li => have h := hQ (by simp); simp only at h; simp [kmuC, hE, h]
 | mi => have h := hQ (by simp); simp only at h; simp [kmuC, hE, h]
 | up n => have h := hQ (by simp); simp only at h; simp [kmuC, hE, h]
 | neg n => have h := hQ (by simp); simp only at h; simp [kmuC, hE, h]
def kmuG (K : KK) (R : Sx -> W6) (C : W6 -> W6 -> Int) (A : Px -> W6 -> Px × Int) (D : Sx -> Lp -> BitVec 64 -> Lp × Int) (a : Kx) (n : W6) : Kx × Int :=
 bif ky1 K R C n a != 0 then (zKx, ky1 K R C n a) else (kmuF A D a n, 0)
theorem kmu_gives (K : KK) (R : Sx -> W6) (C : W6 -> W6 -> Int) (A : Px -> W6 -> Px × Int) (Q : Sx -> Lp -> BitVec 64 -> Bool) (D : Sx -> Lp -> BitVec 64 -> Lp × Int) (hQ : ∀ (a : Kx) (n : W6), (ky1 K R C n a != 0) = false -> a.1 ≠ .gr -> Q a.1 a.2.2 n.w0 = true) (a : Kx) (n : W6) :
 Gives (afunR PR (kmuE K R C A Q D) [13] (fun _ => none) 20 35 [cKx.agg.enc a, c6.agg.enc n]) (kKE.val (kmuG K R C A D a n)) := by
 unfold kmuG
 cases hE : ky1 K R C n a != 0 with
 | true =>
  rw [cond_true]
  exact givesP (kmu_err K R C A Q D a n) (by rw [hE]; rfl)
 | false =>
  rw [cond_false]
  exact givesP (kmu_run K R C A Q D a n) (kmuC_of hE (hQ a n hE))
theorem kmu_ctx {K : KK} {R : Sx -> W6} {C : W6 -> W6 -> Int} {A : Px -> W6 -> Px × Int} {Q : Sx -> Lp -> BitVec 64 -> Bool} {D : Sx -> Lp -> BitVec 64 -> Lp × Int} (hY : HeapOk PR 72 (kysV K R C))
 (hA : CallOk PR 73 (fn2 cPx.agg c6.agg kPE A)) (hD : CallOk PR 74 (fnQ3 kSx cLp.agg kU kLE Q D)) : Ctx PR (kmuE K R C A Q D) [13] (fun _ => none) 20 35 :=
 ctxB (envA_ok eqsT_ok (TabPOk.cons hA (TabPOk.cons hD TabPOk.nil)) (TabHOk.cons kys_ent hY TabHOk.nil) TabLOk.nil TabAOk.nil) mixed (by kernel_rfl)
theorem kmu_ok {K : KK} {R : Sx -> W6} {C : W6 -> W6 -> Int} {A : Px -> W6 -> Px × Int} {Q : Sx -> Lp -> BitVec 64 -> Bool} {D : Sx -> Lp -> BitVec 64 -> Lp × Int} (hY : HeapOk PR 72 (kysV K R C))
 (hA : CallOk PR 73 (fn2 cPx.agg c6.agg kPE A)) (hD : CallOk PR 74 (fnQ3 kSx cLp.agg kU kLE Q D))
 (hQ : ∀ (a : Kx) (n : W6), (ky1 K R C n a != 0) = false -> a.1 ≠ .gr -> Q a.1 a.2.2 n.w0 = true) : CallOk PR 35 (fn2 cKx.agg c6.agg kKE (kmuG K R C A D)) :=
 .inl ⟨entersB (by kernel_rfl), pure2 (kmu_ctx hY hA hD) fun a n => kmu_gives K R C A Q D hQ a n⟩
def kWE : Cod (W6 × Int) := kTup c6.agg (kInt .i64) (fun x => by simp only [CC.agg, flatA, c6.h1]) (fun _ => rfl)
abbrev ZZ : Type := Kz -> Kz -> Kz × Int
abbrev ZM : Type := Kz -> W6 -> Kz × Int
def eqWk (v w : W6) (b : Bool) : Bool := v.w0 == w.w0 && (v.w1 == w.w1 && (v.w2 == w.w2 && (v.w3 == w.w3 && (v.w4 == w.w4 && (v.w5 == w.w5 && b)))))
def eqKz (a b : Kz) : Bool := a.1 == b.1 && eqWk a.2.1.1 b.2.1.1 (eqWk a.2.1.2.1 b.2.1.2.1 (a.2.1.2.2 == b.2.1.2.2 && (a.2.2.1 == b.2.2.1 && (a.2.2.2.1 == b.2.2.2.1 && (a.2.2.2.2 == b.2.2.2.2 && true)))))
end Go.Rq.Sm

namespace Go.Rq.Cl
open Go Go.Proofs Go.Rq Go.Rq.Sm
def shr1 (a : W6) : W6 := ⟨a.w1 <<< 63 ||| a.w0 >>> 1, a.w2 <<< 63 ||| a.w1 >>> 1, a.w3 <<< 63 ||| a.w2 >>> 1, a.w4 <<< 63 ||| a.w3 >>> 1, a.w5 <<< 63 ||| a.w4 >>> 1, 0#64 ||| a.w5 >>> 1⟩
set_option maxRecDepth 100000 in
theorem shr1_run (a : W6) : (afunR PR (envOf eqsT []) [] (fun _ => none) 40 104 [c6.agg.enc a, (kInt .i64).enc (-1)]).strict = .leaf (c6.agg.enc (shr1 a)) := by kernel_rfl
theorem shr1_ok : CallOk PR 104 (fn2 c6.agg (kAt .i64 (-1)) c6.agg (fun a _ => shr1 a)) :=
 .inl ⟨entersB (by kernel_rfl), pure2 (C := kAt .i64 (-1)) shift_ctx (fun a _ => leafVal (B := c6.agg) (y := shr1 a) (shr1_run a))⟩
noncomputable def hfE (sh : W6 -> W6) (ad : W6 -> W6 -> W6 × Bool) : Env := envA eqsT [(104, fn2 c6.agg (kAt .i64 (-1)) c6.agg (fun a _ => sh a)), (123, fn2 c6.agg c6.agg kWB ad)] [] [] [] [] [] true []
theorem hf_run (sh : W6 -> W6) (ad : W6 -> W6 -> W6 × Bool) (m : Mo) (x : W6) : (afunP PR (hfE sh ad) [8] 10 129 163 m [c6.agg.enc x]).strict =
 .br (x.w0 &&& 1#64 == 1#64) (.leaf (c6.agg.enc (sh (ad x m.1).1))) (.leaf (c6.agg.enc (sh x))) := by kernel_rfl
def hfG (sh : W6 -> W6) (ad : W6 -> W6 -> W6 × Bool) (m : Mo) (x : W6) : W6 := bif x.w0 &&& 1#64 == 1#64 then sh (ad x m.1).1 else sh x
def hfW : Mo -> W6 -> W6 := hfG shr1 wAddW
theorem hf_gives (sh : W6 -> W6) (ad : W6 -> W6 -> W6 × Bool) (m : Mo) (x : W6) : GivesH (afun PR (hfE sh ad) [8] (fun _ => none) 10 129 (.ptr 0 0 :: [c6.agg.enc x]) (oneAH cFa 163 m) 1) (c6.agg.val (hfG sh ad m x)) :=
 givesP (hf_run sh ad m x) (holds_br (B := c6.agg) (holds_leaf (c6.agg.h1 _)) (holds_leaf (c6.agg.h1 _)))
theorem hfE_ok : EnvOk PR (hfE shr1 wAddW) := envA_ok eqsT_ok (TabPOk.cons shr1_ok (TabPOk.cons wadd_ok TabPOk.nil)) TabHOk.nil TabLOk.nil TabAOk.nil
theorem hf_ent : Enters PR 129 := entersB (by kernel_rfl)
theorem hf_ok : HeapOk PR 129 (rdp 163 cFa (mc1 c6.agg) c6.agg hfW) :=
 rdp_ok (E := hfE shr1 wAddW) (sym := [8]) (lf := 10) hfE_ok mixed (fn := Tryz.f129) (c := bodyOf PR 129) (by kernel_rfl) (by kernel_rfl) (by kernel_rfl) (fun m z => hf_gives shr1 wAddW m z)
def ccEmb {α β : Type} (C : CC α) (v : β -> α) (d : α -> Option β) (hd : ∀ a b, d a = some b -> v b = a) : CC β where
 n := C.n
 enc y := C.enc (v y)
 dec l := match C.dec l with
  | some x => d x
  | none => none
 val y := C.val (v y)
 len y := C.len (v y)
 h1 y := C.h1 (v y)
 h2 ρ cs vs x h r := by
  split at h
  . rename_i z hz
    rw [C.h2 ρ _ _ _ hz r, hd z x h]
  . cases h
def eqMd (a b : Mo) : Bool := bif eqW a.1 b.1 then (bif a.2.1 == b.2.1 then eqW a.2.2 b.2.2 else false) else false
theorem eqMd_ok (a b : Mo) (h : eqMd a b = true) : a = b := by
 obtain ⟨a1, a2, a3⟩ := a
 obtain ⟨b1, b2, b3⟩ := b
 unfold eqMd at h
 dsimp only at h
 cases h1 : eqW a1 b1 with
 | false => rw [h1] at h; cases h
 | true =>
  cases h2 : (a2 == b2) with
  | false => rw [h1, h2] at h; cases h
  | true =>
   rw [h1, h2] at h
   have h2 : a2 = b2 := by simpa using h2
   rw [(eqW_iff _ _).1 h1, h2, (eqW_iff _ _).1 h]
def mdOfMo (m : Mo) : Option Md := match mdOf m.1 with
 | some k => bif eqMd (modS k) m then some k else none
 | none => none
theorem mdOfMo_ok (m : Mo) (k : Md) (h : mdOfMo m = some k) : modS k = m := by
 unfold mdOfMo at h
 split at h
 . rename_i j _
   cases hb : eqMd (modS j) m with
   | true => rw [hb, cond_true] at h; cases h; exact eqMd_ok _ _ hb
   | false => rw [hb, cond_false] at h; cases h
 . cases h
def cMd : CC Md := ccEmb cFa modS mdOfMo mdOfMo_ok
structure IQ where
 sh : W6 -> W6
 hf : Mo -> W6 -> W6
 cm : W6 -> W6 -> Int
 sb : W6 -> W6 -> W6 × Bool
 ms : Mo -> W6 -> W6 -> W6
 rd : Mo -> W6 -> W6
def iqT (t : IQ) : PureTab := [(33, fn1 kU c6.agg ofW), (104, fn2 c6.agg (kAt .i64 (-1)) c6.agg (fun a _ => t.sh a)), (86, fn2 c6.agg c6.agg (kInt .i64) t.cm), (106, fn2 c6.agg c6.agg kWB t.sb)]
noncomputable def iqH (t : IQ) : HeapTab := [(122, rdp 163 cFa mc0 kBool (fun m _ => moNone m)), (129, rdp 163 cFa (mc1 c6.agg) c6.agg t.hf),
 (78, rdp 163 cFa (mc2 c6.agg c6.agg) c6.agg (fun m x => t.ms m x.1 x.2)), (111, rdp 163 cFa (mc1 c6.agg) c6.agg t.rd)]
noncomputable def iqE (t : IQ) : Env := envA eqsT (iqT t) (iqH t) [] [] [] [] true [122, 129, 78, 111]
def iqK : Keep := ⟨[0, 4, 5, 6, 7, 8, 9], [0, 2, 13, 14, 19, 20], 23⟩
def iqS : List Tmp := [24, 39, 35, 49, 45, 59, 55, 72]
@[irreducible] noncomputable def iqX (t : IQ) (k : Md) (a : W6) : XS := entryOf PR (iqE t) iqS (fun _ => none) 10 80 [.ptr 0 0, c6.agg.enc a] (oneAH cMd 163 k) 1 0 iqK
@[irreducible] noncomputable def iqI (t : IQ) (k : Md) (a : W6) (d : IS) : XS := ((((iqX t k a).setB 13 (c6.enc d.1)).setB 14 (c6.enc d.2.1)).setB 19 (c6.enc d.2.2.1)).setB 20 (c6.enc d.2.2.2)
@[irreducible] noncomputable def iqC : Code := roundOf PR 80 0
def ze0 (u : W6) : Bool := u.w0 == 0#64 && (u.w1 == 0#64 && (u.w2 == 0#64 && (u.w3 == 0#64 && (u.w4 == 0#64 && (u.w5 == 0#64 && true)))))
def ev0 (u : W6) : Bool := u.w0 &&& 1#64 == 0#64
def eq0 (v w : W6) : Bool := v.w0 == w.w0 && (v.w1 == w.w1 && (v.w2 == w.w2 && (v.w3 == w.w3 && (v.w4 == w.w4 && (v.w5 == w.w5 && true)))))
def ivOf (t : IQ) (k : Md) : IV := ⟨ze0, ev0, t.sh, t.hf (modS k), fun u v => decide (t.cm u v >= 0), fun u v => (t.sb u v).1, t.ms (modS k)⟩
def iqR (V : IV) (I : IS -> XS) (d : IS) : Tree (AExit × XS) :=
 .br (!V.ze d.1)
  (.br (V.ev d.1) (.leaf (.normal, I (V.sh d.1, d.2.1, V.hf d.2.2.1, d.2.2.2)))
   (.br (V.ev d.2.1) (.leaf (.normal, I (d.1, V.sh d.2.1, d.2.2.1, V.hf d.2.2.2)))
    (.br (V.ge d.1 d.2.1) (.leaf (.normal, I (V.sb d.1 d.2.1, d.2.1, V.ms d.2.2.1 d.2.2.2, d.2.2.2)))
     (.leaf (.normal, I (d.1, V.sb d.2.1 d.1, d.2.2.1, V.ms d.2.2.2 d.2.2.1))))))
  (.leaf (.exit 0, I d))
set_option maxRecDepth 1000000 in
theorem iq_round (t : IQ) (k : Md) (a : W6) (u v x y : W6) : (roundT PR (iqE t) iqS (fun _ => none) 10 iqK iqK iqK iqC (iqI t k a (u, v, x, y))).strict = iqR (ivOf t k) (iqI t k a) (u, v, x, y) := by cases k <;> kernel_rfl
def iqSt (t : IQ) (k : Md) (a : W6) : IS := (t.rd (modS k) a, mdB k, ofW (bitW true), zeroW)
set_option maxRecDepth 1000000 in
theorem iq_head (t : IQ) (k : Md) (a : W6) : iqX t k a = iqI t k a (iqSt t k a) := by cases k <;> kernel_rfl
theorem iq_blk : blkAll 0 (bodyOf PR 80) = [.loop iqC] := by kernel_rfl
@[irreducible] noncomputable def iqB (t : IQ) (k : Md) (a : W6) (r : IS) : BEnt := ⟨iqK.tm, iqK.ids, iqK.n, iqX t k a, .leaf (.normal, iqI t k a r)⟩
theorem iqB_n (t : IQ) (k : Md) (a : W6) (r : IS) : (iqB t k a r).n = 23 /\ (iqB t k a r).pre = iqX t k a /\ (iqB t k a r).post = .leaf (.normal, iqI t k a r) := by
 unfold iqB
 exact ⟨rfl, rfl, rfl⟩
set_option maxRecDepth 1000000 in
theorem iq_run (t : IQ) (k : Md) (a u v x y : W6) : ((afun PR (iqE t) iqS (tabOf [(0, iqB t k a (u, v, x, y))]) 10 80 [.ptr 0 0, c6.agg.enc a] (oneAH cMd 163 k) 1).bind fun q => .leaf q.1).strict =
 .same (iqX t k a) (iqX t k a) (.br (!eq0 v (ofW (bitW true))) (.leaf (kWE.enc (zW6, 6))) (.leaf (kWE.enc (y, 0)))) := by cases k <;> kernel_rfl
theorem iq_law {V : IV} {n a0 : Nat} (T : IvOk V n) (rt : XS -> Tree (AExit × XS)) (I : IS -> XS) (hr : ∀ d, (rt (I d)).strict = iqR V I d) {R : IS} {Q : AExit -> XS -> Prop} (hK : Q .normal (I R)) :
 ∀ d : IS, (IvI n a0 d /\ ∃ j, isz d <= j /\ ivR V j d = R) -> (rt (I d)).holds (fun r => match r.1 with
  | .normal => ∃ e : IS, (IvI n a0 e /\ ∃ j, isz e <= j /\ ivR V j e = R) /\ isz e < isz d /\ r.2 = I e
  | .exit q => if q = 0 then Q .normal r.2 else Q (.exit q) r.2
  | .ret => Q .ret r.2) := by
 rintro d ⟨h1, j, h2, h3⟩
 apply Tree.holds_strict
 rw [hr]
 cases hz : V.ze d.1 with
 | true =>
  have e : R = d := by
   rw [<- h3]
   cases j with
   | zero => rfl
   | succ j => simp only [ivR, hz, cond_true]
  unfold iqR
  rw [hz]
  refine ⟨fun h => (by cases h), fun _ => ?_⟩
  show (if (0 : Nat) = 0 then Q .normal (I d) else Q (.exit 0) (I d))
  rw [if_pos rfl, <- e]
  exact hK
 | false =>
  have hu : 0 < d.1.val := by
   have : ¬ d.1.val = 0 := fun e => by rw [(T.ze _).2 e] at hz; cases hz
   omega
  obtain ⟨g1, g2⟩ := ivS_ok T h1 hu
  have go : ∃ e : IS, (IvI n a0 e /\ ∃ j, isz e <= j /\ ivR V j e = R) /\ isz e < isz d /\ I (ivS V d) = I e := by
   refine ⟨ivS V d, ⟨g1, ?_⟩, g2, rfl⟩
   cases j with
   | zero =>
    unfold isz at h2
    omega
   | succ j =>
    refine ⟨j, by omega, ?_⟩
    simp only [ivR, hz, cond_false] at h3
    exact h3
  unfold iqR
  rw [hz]
  refine ⟨fun _ => ?_, fun h => (by cases h)⟩
  unfold ivS at go
  refine ⟨fun c1 => ?_, fun c1 => ⟨fun c2 => ?_, fun c2 => ⟨fun c3 => ?_, fun c3 => ?_⟩⟩⟩
  . rw [c1, cond_true] at go; exact go
  . rw [c1, cond_false, c2, cond_true] at go; exact go
  . rw [c1, cond_false, c2, cond_false, c3, cond_true] at go; exact go
  . rw [c1, cond_false, c2, cond_false, c3, cond_false] at go; exact go
theorem zero_of {a0 a1 a2 a3 a4 a5 : Nat} (h : a0 + 18446744073709551616 * a1 + 340282366920938463463374607431768211456 * a2 + 6277101735386680763835789423207666416102355444464034512896 * a3 + 115792089237316195423570985008687907853269984665640564039457584007913129639936 * a4 + 2135987035920910082395021706169552114602704522356652769947041607822219725780640550022962086936576 * a5 = 0) : a0 = 0 /\ a1 = 0 /\ a2 = 0 /\ a3 = 0 /\ a4 = 0 /\ a5 = 0 := by omega
theorem word_zero (x : BitVec 64) : (x == 0#64) = true ↔ x.toNat = 0 := by
 rw [beq_iff_eq]
 constructor
 . intro h; rw [h]; rfl
 . intro h; exact BitVec.eq_of_toNat_eq h
theorem ze0_val (u : W6) : ze0 u = true ↔ u.val = 0 := by
 unfold ze0
 simp only [Bool.and_eq_true, word_zero, and_true]
 constructor
 . rintro ⟨h0, h1, h2, h3, h4, h5⟩
   unfold W6.val
   rw [h0, h1, h2, h3, h4, h5]
 . intro h
   exact zero_of h
theorem and_one_nat (x : BitVec 64) : (x &&& 1#64).toNat = x.toNat % 2 := by
 rw [BitVec.toNat_and]
 exact Nat.and_one_is_mod _
theorem low_two {a0 a1 a2 a3 a4 a5 : Nat} : (a0 + 18446744073709551616 * a1 + 340282366920938463463374607431768211456 * a2 + 6277101735386680763835789423207666416102355444464034512896 * a3 + 115792089237316195423570985008687907853269984665640564039457584007913129639936 * a4 + 2135987035920910082395021706169552114602704522356652769947041607822219725780640550022962086936576 * a5) % 2 = a0 % 2 := by omega
theorem val_two (u : W6) : u.val % 2 = u.w0.toNat % 2 := by
 unfold W6.val
 exact low_two
theorem ev0_val (u : W6) : ev0 u = true ↔ u.val % 2 = 0 := by
 unfold ev0
 rw [beq_iff_eq, val_two, <- and_one_nat]
 constructor
 . intro h; rw [h]; rfl
 . intro h; exact BitVec.eq_of_toNat_eq h
theorem od0_val (u : W6) : (u.w0 &&& 1#64 == 1#64) = true ↔ u.val % 2 = 1 := by
 rw [beq_iff_eq, val_two, <- and_one_nat]
 constructor
 . intro h; rw [h]; rfl
 . intro h; exact BitVec.eq_of_toNat_eq h
theorem shr_or (a b : BitVec 64) : (b <<< 63 ||| a >>> 1).toNat = a.toNat / 2 + 9223372036854775808 * (b.toNat % 2) := by
 have ha : (a >>> 1).toNat = a.toNat / 2 := by rw [BitVec.toNat_ushiftRight, Nat.shiftRight_eq_div_pow]
 have hb : (b <<< 63).toNat = 9223372036854775808 * (b.toNat % 2) := by
  rw [BitVec.toNat_shiftLeft, Nat.shiftLeft_eq]
  omega
 have hal := a.isLt
 have h : (b <<< 63).toNat ||| (a >>> 1).toNat = (b <<< 63).toNat + (a >>> 1).toNat := by
  rw [hb, ha, show 9223372036854775808 * (b.toNat % 2) = 2 ^ 63 * (b.toNat % 2) from rfl]
  exact (Nat.two_pow_add_eq_or_of_lt (by omega) _).symm
 rw [BitVec.toNat_or, h, hb, ha]
 omega
theorem shr_sum {a0 a1 a2 a3 a4 a5 : Nat} : (a0 / 2 + 9223372036854775808 * (a1 % 2)) + 18446744073709551616 * (a1 / 2 + 9223372036854775808 * (a2 % 2)) + 340282366920938463463374607431768211456 * (a2 / 2 + 9223372036854775808 * (a3 % 2)) + 6277101735386680763835789423207666416102355444464034512896 * (a3 / 2 + 9223372036854775808 * (a4 % 2)) +
 115792089237316195423570985008687907853269984665640564039457584007913129639936 * (a4 / 2 + 9223372036854775808 * (a5 % 2)) + 2135987035920910082395021706169552114602704522356652769947041607822219725780640550022962086936576 * (a5 / 2) =
 (a0 + 18446744073709551616 * a1 + 340282366920938463463374607431768211456 * a2 + 6277101735386680763835789423207666416102355444464034512896 * a3 + 115792089237316195423570985008687907853269984665640564039457584007913129639936 * a4 + 2135987035920910082395021706169552114602704522356652769947041607822219725780640550022962086936576 * a5) / 2 := by omega
theorem shr1_val (u : W6) : (shr1 u).val = u.val / 2 := by
 have h5 : (0#64 ||| u.w5 >>> 1).toNat = u.w5.toNat / 2 := by
  rw [BitVec.zero_or, BitVec.toNat_ushiftRight, Nat.shiftRight_eq_div_pow]
 unfold W6.val
 show (u.w1 <<< 63 ||| u.w0 >>> 1).toNat + 18446744073709551616 * (u.w2 <<< 63 ||| u.w1 >>> 1).toNat + 340282366920938463463374607431768211456 * (u.w3 <<< 63 ||| u.w2 >>> 1).toNat + 6277101735386680763835789423207666416102355444464034512896 * (u.w4 <<< 63 ||| u.w3 >>> 1).toNat +
  115792089237316195423570985008687907853269984665640564039457584007913129639936 * (u.w5 <<< 63 ||| u.w4 >>> 1).toNat + 2135987035920910082395021706169552114602704522356652769947041607822219725780640550022962086936576 * (0#64 ||| u.w5 >>> 1).toNat = _
 rw [shr_or, shr_or, shr_or, shr_or, shr_or, h5]
 exact shr_sum
theorem hf_val {m : Mo} (ho : m.1.val % 2 = 1) (hs : 2 * m.1.val <= 39402006196394479212279040100143613805079739270465446667948293404245721771497210611414266254884915640806627990306816) (x : W6) (h : x.val < m.1.val) : (hfW m x).val < m.1.val /\ 2 * (hfW m x).val % m.1.val = x.val % m.1.val := by
 have e : hfW m x = bif x.w0 &&& 1#64 == 1#64 then shr1 (wAddW x m.1).1 else shr1 x := rfl
 rw [e]
 cases hb : (x.w0 &&& 1#64 == 1#64) with
 | true =>
  have o := (od0_val x).1 hb
  have h1 := wAdd_val x m.1 (by omega)
  rw [cond_true, shr1_val, h1]
  refine ⟨by omega, ?_⟩
  rw [show 2 * ((x.val + m.1.val) / 2) = x.val + m.1.val by omega, Nat.add_mod_right]
 | false =>
  have o : x.val % 2 = 0 := by
   have : ¬ x.val % 2 = 1 := fun e => by rw [(od0_val x).2 e] at hb; cases hb
   omega
  rw [cond_false, shr1_val]
  refine ⟨by omega, ?_⟩
  rw [show 2 * (x.val / 2) = x.val by omega]
theorem ge0_val (u v : W6) : decide (chainV (cmpL u v) 0 >= 0) = true ↔ v.val <= u.val := by
 have h := cmq_nat u v
 have e : cmW u v = chainV (cmpL u v) 0 := rfl
 rw [e] at h
 rw [decide_eq_true_iff]
 constructor
 . intro g
   have : ¬ u.val < v.val := fun l => by have := h.2 l; omega
   omega
 . intro g
   have : ¬ chainV (cmpL u v) 0 < 0 := fun l => by have := h.1 l; omega
   omega
def iqO : IQ := ⟨shr1, hfW, fun a b => chainV (cmpL a b) 0, wSubW, qsubW, moRedW⟩
theorem iqT_eq : [(33, fn1 kU c6.agg ofW), (104, fn2 c6.agg (kAt .i64 (-1)) c6.agg (fun a _ => shr1 a)), (86, fn2 c6.agg c6.agg (kInt .i64) fun a b => chainV (cmpL a b) 0), (106, fn2 c6.agg c6.agg kWB wSubW)] = iqT iqO := by kernel_rfl
theorem iqT_ok : TabPOk PR (iqT iqO) := Eq.subst (motive := TabPOk PR) iqT_eq (TabPOk.cons of_ok (TabPOk.cons shr1_ok (TabPOk.cons cmp_ok (TabPOk.cons wsub_ok TabPOk.nil))))
theorem iqH_eq : [(122, rdp 163 cFa mc0 kBool (fun m _ => moNone m)), (129, rdp 163 cFa (mc1 c6.agg) c6.agg hfW),
 (78, rdp 163 cFa (mc2 c6.agg c6.agg) c6.agg (fun m x => qsubW m x.1 x.2)), (111, rdp 163 cFa (mc1 c6.agg) c6.agg moRedW)] = iqH iqO := by kernel_rfl
theorem iqH_ok : TabHOk PR (iqH iqO) := Eq.subst (motive := TabHOk PR) iqH_eq (TabHOk.cons mn_ent mn_ok (TabHOk.cons hf_ent hf_ok (TabHOk.cons qsub_ent qsub_ok (TabHOk.cons mred_ent mred_ok TabHOk.nil))))
theorem iqE_ok : EnvOk PR (iqE iqO) := envA_ok eqsT_ok iqT_ok iqH_ok TabLOk.nil TabAOk.nil
theorem iq_codeOk : codeOk (iqE iqO) iqC = true := by kernel_rfl
theorem mdN_odd (k : Md) : mdN k % 2 = 1 := by cases k <;> decide +kernel
noncomputable abbrev vO (k : Md) : IV := ivOf iqO k
theorem vO_ok (k : Md) : IvOk (vO k) (mdN k) := by
 have M := mg_md k
 have hv := modS_val k
 have hs := M.small
 refine ⟨mdN_odd k, ze0_val, ev0_val, shr1_val, fun x h => ?_, ge0_val, fun u v h => ?_, fun x y hx hy => ?_⟩
 . have := hf_val (m := modS k) (by rw [hv]; exact mdN_odd k) hs x (by rw [hv]; exact h)
   rw [hv] at this
   exact this
 . exact ((wSub_val u v).1 h).2
 . have := mg_sub M x y
   rw [hv, Nat.mod_eq_of_lt hx, Nat.mod_eq_of_lt hy] at this
   exact this
theorem vO_rd (k : Md) (a : W6) : (moRedW (modS k) a).val = a.val % mdN k := by
 have := mg_red (mg_md k) a
 rw [modS_val] at this
 exact this
theorem iq_start (k : Md) (a : W6) : ∀ d : IS, d = iqSt iqO k a -> IvI (mdN k) a.val d := by
 rintro d rfl
 have hp := mdN_pos k
 have h1 : (ofW (bitW true)).val = 1 := by decide +kernel
 have h0 : zeroW.val = 0 := by decide +kernel
 have hr := vO_rd k a
 refine ⟨?_, ?_, ?_, ?_, ?_, ?_⟩
 . show 0 < (mdB k).val
   rw [mdB_nat]; omega
 . show (ofW (bitW true)).val < mdN k
   rw [h1]; exact hp.1
 . show zeroW.val < mdN k
   rw [h0]; omega
 . show a.val * (ofW (bitW true)).val % mdN k = (moRedW (modS k) a).val % mdN k
   rw [h1, hr, Nat.mul_one, Nat.mod_mod]
 . show a.val * zeroW.val % mdN k = (mdB k).val % mdN k
   rw [h0, mdB_nat, Nat.mul_zero, Nat.mod_self, Nat.zero_mod]
 . intro d d1 d2
   have d1 : d ∣ (moRedW (modS k) a).val := d1
   have d2 : d ∣ (mdB k).val := d2
   rw [hr] at d1
   rw [mdB_nat] at d2
   exact ⟨d2, (Nat.dvd_mod_iff d2).1 d1⟩
noncomputable def iqRes (k : Md) (a : W6) : IS := ivR (vO k) (isz (iqSt iqO k a)) (iqSt iqO k a)
theorem iq_loop (k : Md) (a : W6) {Fr0 : Fr} {ds : List Deferred} {Q : AExit -> XS -> Prop} (hK : Q .normal (iqI iqO k a (iqRes k a))) :
 Tri PR Fr0 ds 1 (.block 0 (.loop iqC)) (iqX iqO k a) Q :=
 Eq.subst (motive := fun y => Tri PR Fr0 ds 1 (.block 0 (.loop iqC)) y Q) (iq_head iqO k a).symm <| blockLoop (m := 1) iqE_ok mixed (sym := iqS) (tab := fun _ => none) (lf := 10) (k := iqK) (kx := iqK) (kr := iqK) (by decide) (by decide) (by decide) iq_codeOk (tabOk_none _)
  (iqI iqO k a) (fun d => IvI (mdN k) a.val d /\ ∃ j, isz d <= j /\ ivR (vO k) j d = iqRes k a) isz _ ⟨iq_start k a _ rfl, _, Nat.le_refl _, rfl⟩
  (iq_law (vO_ok k) _ (iqI iqO k a) (fun d => iq_round iqO k a d.1 d.2.1 d.2.2.1 d.2.2.2) hK)
def iqFin (r : IS) : W6 × Int := bif !eq0 r.2.1 (ofW (bitW true)) then (zW6, 6) else (r.2.2.2, 0)
theorem iq_ent : Enters PR 80 := entersB (by kernel_rfl)
theorem sameB {β : Type} {t : Tree (AV × AH)} {x : XS} {b : Bool} {B : Cod β} {y z : β} (h : (t.bind fun q => .leaf q.1).strict = .same x x (.br b (.leaf (B.enc y)) (.leaf (B.enc z)))) : GivesH t (B.val (bif b then y else z)) :=
 ⟨Tree.holds_bind (K := fun q : AV => flat q = some (B.val (bif b then y else z))) (g := fun q : AV × AH => Tree.leaf q.1) (Tree.holds_strict (by
  rw [h]
  refine ⟨rfl, fun hb => ?_, fun hb => ?_⟩
  . rw [hb, cond_true]; exact B.h1 _
  . rw [hb, cond_false]; exact B.h1 _))⟩
theorem iq_gives (t : IQ) (k : Md) (a : W6) (r : IS) : GivesH (afun PR (iqE t) iqS (tabOf [(0, iqB t k a r)]) 10 80 (.ptr 0 0 :: (mc1 c6.agg).enc a) (oneAH cMd 163 k) 1) (kWE.val (iqFin r)) :=
 sameB (iq_run t k a r.1 r.2.1 r.2.2.1 r.2.2.2)
noncomputable def iqTab (k : Md) (a : W6) : BTab := tabOf [(0, iqB iqO k a (iqRes k a))]
noncomputable def invF (k : Md) (a : W6) : W6 × Int := iqFin (iqRes k a)
theorem iq_tab (k : Md) (a : W6) : TabOk PR 1 (iqTab k a) (bodyOf PR 80) := by
 unfold iqTab
 exact tabOk_one (by rw [(iqB_n iqO k a (iqRes k a)).1]; decide) iq_blk fun Fr0 ds Q h => by
  obtain ⟨-, h2, h3⟩ := iqB_n iqO k a (iqRes k a)
  rw [h3] at h
  rw [h2]
  exact iq_loop k a h
theorem iq_giv (k : Md) (a : W6) : GivesH (afun PR (iqE iqO) iqS (iqTab k a) 10 80 (.ptr 0 0 :: (mc1 c6.agg).enc a) (oneAH cMd 163 k) 1) (kWE.val (invF k a)) := by
 unfold iqTab invF
 exact iq_gives iqO k a (iqRes k a)
theorem iq_code : codeOk (iqE iqO) (bodyOf PR 80) = true := by kernel_rfl
theorem iq_body : (Tryz.f80).body = some (bodyOf PR 80) := by kernel_rfl
theorem iq_fn : PR.funcs.toList[80]? = some Tryz.f80 := by kernel_rfl
theorem inv_okH : HeapOk PR 80 (rdp 163 cMd (mc1 c6.agg) kWE invF) :=
 rdpT_ok (E := iqE iqO) (sym := iqS) (lf := 10) (tab := iqTab) iqE_ok mixed iq_fn iq_body iq_code iq_tab iq_giv
theorem eq0_val (v w : W6) : eq0 v w = true ↔ v = w := by
 obtain ⟨v0, v1, v2, v3, v4, v5⟩ := v
 obtain ⟨w0, w1, w2, w3, w4, w5⟩ := w
 simp only [eq0, Bool.and_eq_true, beq_iff_eq, W6.mk.injEq, and_true]
theorem inv_val {k : Md} (hp : Pr (mdN k)) {a : W6} (ha : ¬ mdN k ∣ a.val) : (invF k a).2 = 0 /\ (invF k a).1.val < mdN k /\ a.val * (invF k a).1.val % mdN k = 1 := by
 obtain ⟨h1, h2, h3⟩ := iv_end (vO_ok k) hp ha (iq_start k a _ rfl) (Nat.le_refl _)
 have hone : (ofW (bitW true)).val = 1 := by decide +kernel
 have e : iqFin (iqRes k a) = ((iqRes k a).2.2.2, 0) := by
  unfold iqFin
  rw [(eq0_val _ _).2 (W6.val_inj (by rw [hone]; exact h1))]
  rfl
 unfold invF
 rw [e]
 exact ⟨rfl, h2, h3⟩
end Go.Rq.Cl

namespace Go.Rq.Sm
open Go Go.Proofs Go.Rq
def kneF (A : Px -> Px × Int) (D : Sx -> Lp -> Lp × Int) : Kx -> Kx
 | (.gr, p, _) => (.gr, (A p).1, zLx)
 | (s, _, l) => (s, zPx, (D s l).1)
def kneG (K : KK) (R : Sx -> W6) (C : W6 -> W6 -> Int) (A : Px -> Px × Int) (D : Sx -> Lp -> Lp × Int) (a : Kx) : Kx × Int :=
 bif ky1 K R C zW6 a != 0 then (zKx, ky1 K R C zW6 a) else (kneF A D a, 0)
abbrev S3 : Type := Int -> W6 -> W6 -> W6 × Int
def geR (O : Int -> W6 × Int) (C : W6 -> W6 -> Int) (s : Int) (x : W6) : Bool := decide (C x (O s).1 >= 0)
def nt (b c : Bool) : Bool := bif b then false else c
def knwF : Sx -> Bool
 | .gr => true
 | .li => true
 | .mi => true
 | _ => false
noncomputable def knwE : Env := envA eqsT [] [] [] [] [] [] true []
theorem knw_run (s : Sx) : valS (afunR PR knwE [] (fun _ => none) 10 60 [kSx.enc s]) = some (kBool.val (knwF s)) := by cases s <;> kernel_rfl
theorem knw_ctx : Ctx PR knwE [] (fun _ => none) 10 60 :=
 ctxB (envA_ok eqsT_ok TabPOk.nil TabHOk.nil TabLOk.nil TabAOk.nil) mixed (by kernel_rfl)
theorem knw_ok : CallOk PR 60 (fn1 kSx kBool knwF) :=
 .inl ⟨entersB (by kernel_rfl), pure1 knw_ctx fun s => givesV (knw_run s)⟩
noncomputable def sorE (N : Sx -> Bool) (R : Sx -> W6) : Env := envA eqsT [(60, fn1 kSx kBool N), (87, fn1 kSx c6.agg R)] [] [] [] [] [] true []
def sorF (R : Sx -> W6) : Sx -> W6 × Int
 | .gr => (R .gr, 0)
 | .li => (R .li, 0)
 | .mi => (R .mi, 0)
 | _ => (zW6, 2)
theorem sor_run (R : Sx -> W6) (s : Sx) : valS (afunR PR (sorE knwF R) [] (fun _ => none) 10 43 [kSx.enc s]) = some (kWE.val (sorF R s)) := by cases s <;> kernel_rfl
theorem sor_ctx : Ctx PR (sorE knwF (ordF rWx lorF ofW)) [] (fun _ => none) 10 43 :=
 ctxB (envA_ok eqsT_ok (TabPOk.cons knw_ok (TabPOk.cons ord_ok TabPOk.nil)) TabHOk.nil TabLOk.nil TabAOk.nil) mixed (by kernel_rfl)
theorem sor_okx : CallOk PR 43 (fn1 kSx kWE (sorF (ordF rWx lorF ofW))) :=
 .inl ⟨entersB (by kernel_rfl), pure1 sor_ctx fun s => givesV (sor_run _ s)⟩
theorem fnS1 {β : Type} {B : Cod β} {F : Sx -> β} : fn1 kSx B F = fn1 (kInt .i64) B (fun i => F (Sx.of i)) := by
 funext args
 unfold fn1
 split
 . rename_i a
   have e : kSx.dec a = ((kInt .i64).dec a).map Sx.of := by
    have e0 : kSx.dec a = (match (kInt .i64).dec a with
     | some i => some (Sx.of i)
     | none => none) := rfl
    rw [e0]
    cases (kInt .i64).dec a <;> rfl
   rw [e]
   cases (kInt .i64).dec a <;> rfl
 . rfl
theorem sor_ok : CallOk PR 43 (fn1 (kInt .i64) kWE (fun i => sorF (ordF rWx lorF ofW) (Sx.of i))) := by
 rw [<- fnS1 (F := sorF (ordF rWx lorF ofW))]
 exact sor_okx
theorem in_on {s : Su} {p : Lp} (h : inF s p = true) : onF s p = true := by
 unfold inF at h
 cases ho : onF s p with
 | true => rfl
 | false => rw [ho, cond_false] at h; cases h
theorem kch_on {I : Px -> Bool} {k : Kx} (h : kchF I (liF inF) k = true) (hs : k.1 ≠ .gr) : okL onF k.1 k.2.2 = true := by
 obtain ⟨s, p, l⟩ := k
 cases s with
 | gr => exact absurd rfl hs
 | li =>
  simp only [kchF] at h
  cases he : eqPx p with
  | true => rw [he, cond_true] at h; exact in_on (s := .lit) h
  | false => rw [he, cond_false] at h; cases h
 | mi =>
  simp only [kchF] at h
  cases he : eqPx p with
  | true => rw [he, cond_true] at h; exact in_on (s := .mid) h
  | false => rw [he, cond_false] at h; cases h
 | up n => rfl
 | neg n => rfl
theorem ky1_ok {K : KK} {R : Sx -> W6} {C : W6 -> W6 -> Int} {n : W6} {a : Kx} (h : (ky1 K R C n a != 0) = false) : K a = true := by
 cases hk : K a with
 | true => rfl
 | false => simp [ky1, hk] at h
theorem ky2_ok {K : KK} {R : Sx -> W6} {C : W6 -> W6 -> Int} {n : W6} {a b : Kx} (h : (ky2 K R C n a b != 0) = false) : K a = true /\ K b = true /\ a.1 = b.1 := by
 cases hk : K a with
 | false => simp [ky2, hk] at h
 | true =>
  cases hb : K b with
  | false => simp [ky2, hk, hb] at h
  | true =>
   refine ⟨rfl, rfl, Sx.int_inj ?_⟩
   cases he : a.1.int != b.1.int with
   | false => simpa using he
   | true => simp [ky2, hk, hb, he] at h
def toE (y : Kx × Int) : Kz × Int := (toKz y.1, y.2)
noncomputable abbrev kchX (I : Px -> Bool) : KK := kchF I (liF inF)
noncomputable abbrev ordX : Sx -> W6 := ordF rWx lorF ofW
noncomputable abbrev cmpX : W6 -> W6 -> Int := fun a b => chainV (cmpL a b) 0
theorem kysX_ok {I : Px -> Bool} (hI : CallOk PR 90 (fn1 cPx.agg kBool I)) : HeapOk PR 72 (kysV (kchX I) ordX cmpX) := kys_ok (kch_ok hI li_ok) ord_ok cmp_ok
noncomputable def kadX (I : Px -> Bool) (A : Px -> Px -> Px × Int) (a b : Kz) : Kz × Int := toE (kadG (kchX I) ordX cmpX A (ladF lSum) (toKx a) (toKx b))
theorem kadX_ok {I : Px -> Bool} {A : Px -> Px -> Px × Int} (hI : CallOk PR 90 (fn1 cPx.agg kBool I)) (hA : CallOk PR 75 (fn2 cPx.agg cPx.agg kPE A)) :
 CallOk PR 36 (fn2 cKz.agg cKz.agg kKzE (kadX I A)) := by
 have h := kad_ok (kysX_ok hI) hA lad_ok fun a b he hs => by
  obtain ⟨h1, h2, h3⟩ := ky2_ok he
  have k1 := kch_on h1 hs
  have k2 := kch_on h2 (by rw [<- h3]; exact hs)
  rw [<- h3] at k2
  rw [k1, k2]
  rfl
 rw [fnK2 (B' := kKzE) (ψ := toE) fun y => rfl] at h
 exact h
noncomputable def kmuX (I : Px -> Bool) (A : Px -> W6 -> Px × Int) (a : Kz) (n : W6) : Kz × Int := toE (kmuG (kchX I) ordX cmpX A (lmuF lTimes) (toKx a) n)
theorem kmuX_ok {I : Px -> Bool} {A : Px -> W6 -> Px × Int} (hI : CallOk PR 90 (fn1 cPx.agg kBool I)) (hA : CallOk PR 73 (fn2 cPx.agg c6.agg kPE A)) :
 CallOk PR 35 (fn2 cKz.agg c6.agg kKzE (kmuX I A)) := by
 have h := kmu_ok (kysX_ok hI) hA lmu_ok fun a n he hs => kch_on (ky1_ok he) hs
 rw [fnK1c (B' := kKzE) (ψ := toE) fun y => rfl] at h
 exact h
noncomputable def kneX (I : Px -> Bool) (A : Px -> Px × Int) (a : Kz) : Kz × Int := toE (kneG (kchX I) ordX cmpX A (lneF lSub) (toKx a))
theorem kchZ_ok {I : Px -> Bool} (hI : CallOk PR 90 (fn1 cPx.agg kBool I)) : CallOk PR 48 (fn1 cKz.agg kBool fun a => kchX I (toKx a)) := by
 have h := kch_ok hI li_ok
 rw [fnK1 (B' := kBool) (ψ := fun b => b) fun y => rfl] at h
 exact h
end Go.Rq.Sm

namespace Go.Rq.Cl
open Go Go.Proofs Go.Rq Go.Rq.Sm
def knS : Sx -> Bool
 | .gr => true
 | .li => true
 | .mi => true
 | _ => false
theorem kno_run (s : Sx) : valS (afunR PR (envOf eqsT []) [] (fun _ => none) 10 60 [kSx.enc s]) = some (kBool.val (knS s)) := by cases s <;> kernel_rfl
theorem kno_ok : CallOk PR 60 (fn1 kSx kBool knS) :=
 .inl ⟨entersB (by kernel_rfl), pure1 (ctxB (envOf_ok eqsT_ok TabPOk.nil) mixed (by kernel_rfl)) fun s => givesV (kno_run s)⟩
def mdS : Sx -> Option Md
 | .gr => some .ro
 | .li => some .rl
 | .mi => some .rm
 | _ => none
noncomputable def ariE (cm : W6 -> W6 -> Int) : Env := envD eqsT [(86, fn2 c6.agg c6.agg (kInt .i64) cm), (60, fn1 kSx kBool knS), (87, fn1 kSx c6.agg ordX)] [] [(115, layP kMd 163 cFa 0 modS)] [] [] false []
theorem ariE_ok : EnvOk PR (ariE cmpX) := envD_ok eqsT_ok (TabPOk.cons cmp_ok (TabPOk.cons kno_ok (TabPOk.cons ord_ok TabPOk.nil))) TabHOk.nil (TabLOk.cons nw_ent newS_okL TabLOk.nil) TabDOk.nil
noncomputable def ariG (ds : List Bool) (cm : W6 -> W6 -> Int) : List AV -> AH -> Nat -> Option (Bool × AV × AH) := deepP ds PR (ariE cm) [23] 30 79 4096 true
theorem ari_ent : Enters PR 79 := entersB (by kernel_rfl)
theorem ari_ok (ds : List Bool) : ActOk PR 4096 79 (ariG ds cmpX) := deepP_ok (ctxB ariE_ok mixed (by kernel_rfl))
structure AQ where
 cm : W6 -> W6 -> Int
 ad : Mo -> W6 -> W6 -> W6
 sb : Mo -> W6 -> W6 -> W6
 ml : Mo -> W6 -> W6 -> W6
noncomputable def cloE (f : Nat) (op : Mo -> W6 -> W6 -> W6) : Env := envD eqsT [] [(f, rdp 163 cFa (mc2 c6.agg c6.agg) c6.agg (fun m x => op m x.1 x.2))] [] [] [] false [f]
noncomputable def doG (t : AQ) : List AV -> AH -> Nat -> Option (Bool × AV × AH) := deepP [] PR (envD eqsT [] [] []
 [(79, ariG [false, false] t.cm), (70, deepG PR (cloE 71 t.ad) [] 20 70 4096 true), (77, deepG PR (cloE 78 t.sb) [] 20 77 4096 true), (81, deepG PR (cloE 82 t.ml) [] 20 81 4096 true)]
 [] false [79, 70, 77, 81]) [] 30 67 4096 true
noncomputable def sopE (t : AQ) : Env := envD eqsT [] [] [] [(67, doG t)] [] false [67]
def tt (b : Bool) : Bool := bif b then true else false
theorem tt_eq (b : Bool) : tt b = b := by cases b <;> rfl
noncomputable def nlt (t : AQ) (s : Sx) (a : W6) (b : Bool) : Bool := bif decide (t.cm a (ordX s) >= 0) then false else b
set_option maxRecDepth 100000 in
theorem sml_run (t : AQ) (s : Sx) (m : Md) (h : mdS s = some m) (a b : W6) : valP [] (afunR PR (sopE t) [13] (fun _ => none) 30 39 [kSx.enc s, c6.agg.enc a, c6.agg.enc b]) =
 some (tt (tt (tt (tt (tt (tt (nlt t s a (nlt t s b true))))))), some (kWE.val (t.ml (modS m) a b, 0))) := by
 cases s <;> cases h <;> kernel_rfl
set_option maxRecDepth 100000 in
theorem sad_run (t : AQ) (s : Sx) (m : Md) (h : mdS s = some m) (a b : W6) : valP [] (afunR PR (sopE t) [13] (fun _ => none) 30 34 [kSx.enc s, c6.agg.enc a, c6.agg.enc b]) =
 some (tt (tt (tt (tt (tt (tt (nlt t s a (nlt t s b true))))))), some (kWE.val (t.ad (modS m) a b, 0))) := by
 cases s <;> cases h <;> kernel_rfl
set_option maxRecDepth 100000 in
theorem ssb_run (t : AQ) (s : Sx) (m : Md) (h : mdS s = some m) (a b : W6) : valP [] (afunR PR (sopE t) [13] (fun _ => none) 30 37 [kSx.enc s, c6.agg.enc a, c6.agg.enc b]) =
 some (tt (tt (tt (tt (tt (tt (nlt t s a (nlt t s b true))))))), some (kWE.val (t.sb (modS m) a b, 0))) := by
 cases s <;> cases h <;> kernel_rfl
noncomputable def sivE (cm : W6 -> W6 -> Int) (iv : Md -> W6 -> W6 × Int) : Env := envD eqsT [] [(80, rdp 163 cMd (mc1 c6.agg) kWE iv)] [] [(79, ariG [false] cm)] [] false [79, 80]
set_option maxRecDepth 100000 in
theorem siv_run (cm : W6 -> W6 -> Int) (iv : Md -> W6 -> W6 × Int) (s : Sx) (m : Md) (h : mdS s = some m) (a : W6) : valP [] (afunR PR (sivE cm iv) [] (fun _ => none) 30 38 [kSx.enc s, c6.agg.enc a]) =
 some (tt (tt (tt (bif decide (cm a (ordX s) >= 0) then false else true))), some (kWE.val (iv m a))) := by
 cases s <;> cases h <;> kernel_rfl
end Go.Rq.Cl

namespace Go.Rq.Sm
open Go Go.Proofs Go.Rq
theorem eqWk_iff (v w : W6) (b : Bool) : eqWk v w b = true ↔ v = w /\ b = true := by
 obtain ⟨v0, v1, v2, v3, v4, v5⟩ := v
 obtain ⟨w0, w1, w2, w3, w4, w5⟩ := w
 simp only [eqWk, Bool.and_eq_true, beq_iff_eq, W6.mk.injEq]
 constructor
 . rintro ⟨h0, h1, h2, h3, h4, h5, h⟩; exact ⟨⟨h0, h1, h2, h3, h4, h5⟩, h⟩
 . rintro ⟨⟨h0, h1, h2, h3, h4, h5⟩, h⟩; exact ⟨h0, h1, h2, h3, h4, h5, h⟩
theorem eqKz_iff (a b : Kz) : eqKz a b = true ↔ a = b := by
 obtain ⟨s, ⟨x, y, z⟩, u, v, w⟩ := a
 obtain ⟨s', ⟨x', y', z'⟩, u', v', w'⟩ := b
 simp only [eqKz, Bool.and_eq_true, eqWk_iff, beq_iff_eq, Prod.mk.injEq, and_true]
 constructor
 . rintro ⟨h0, h1, h2, h3, h4, h5, h6⟩; exact ⟨h0, ⟨h1, h2, h3⟩, h4, h5, h6⟩
 . rintro ⟨h0, ⟨h1, h2, h3⟩, h4, h5, h6⟩; exact ⟨h0, h1, h2, h3, h4, h5, h6⟩
structure Cy (K : Kz -> Bool) (O : Int -> W6 × Int) (C : W6 -> W6 -> Int) (M : ZM) (A : ZZ) (N : Kz -> Kz × Int) (s : Int) (r : Nat) (φ : Nat -> Kz) : Prop where
 chk : ∀ n, K (φ n) = true
 sui : ∀ n, (φ n).1 = s
 cmp : ∀ x : W6, x.val < r -> decide (C x (O s).1 >= 0) = false
 mul : ∀ (n : Nat) (x : W6), x.val < r -> M (φ n) x = (φ (n * x.val), 0)
 add : ∀ m n, A (φ m) (φ n) = (φ (m + n), 0)
 neg : ∀ n, ∃ k, N (φ n) = (φ k, 0) /\ (n + k) % r = 0
 inj : ∀ m n, φ m = φ n ↔ m % r = n % r
section
variable {K : Kz -> Bool} {O : Int -> W6 × Int} {C : W6 -> W6 -> Int} {M : ZM} {A : ZZ} {N : Kz -> Kz × Int} {s : Int} {r : Nat} {φ : Nat -> Kz}
end
end Go.Rq.Sm

namespace Go.Rq.Sm
open Go Go.Proofs Go.Rq
set_option synthInstance.maxSize 100000
theorem cyc_inj {P : Type} {ν : Nat -> P} {S : P -> P -> P} {Z : P -> Bool} {r : Nat} (hr : 0 < r) (hS : ∀ m n, S (ν m) (ν n) = ν (m + n)) (hZ : ∀ n, Z (ν n) = decide (n % r = 0)) (hm : ∀ n, ν n = ν (n % r)) (m n : Nat) : ν m = ν n ↔ m % r = n % r := by
 constructor
 . intro e
   have e1 : Z (S (ν m) (ν (n * (r - 1)))) = Z (S (ν n) (ν (n * (r - 1)))) := by rw [e]
   have e2 : (n + n * (r - 1)) % r = 0 := by
    have : n + n * (r - 1) = n * r := by
     obtain ⟨q, rfl⟩ : ∃ q, r = q + 1 := ⟨r - 1, by omega⟩
     rw [Nat.add_sub_cancel, Nat.mul_succ, Nat.add_comm]
    rw [this, Nat.mul_mod_left]
   rw [hS, hS, hZ, hZ, e2] at e1
   have e3 : (m + n * (r - 1)) % r = 0 := by simpa using e1
   have h1 : (m + (n + n * (r - 1))) % r = m % r := by rw [Nat.add_mod, e2, Nat.add_zero, Nat.mod_mod]
   have h2 : (m + (n + n * (r - 1))) % r = n % r := by rw [Nat.add_left_comm, Nat.add_mod, e3, Nat.add_zero, Nat.mod_mod]
   rw [<- h1, h2]
 . intro e
   rw [hm m, e, <- hm n]
theorem neg_mod (n : Nat) {r : Nat} (hr : 0 < r) : (n + n * (r - 1)) % r = 0 := by
 have : n + n * (r - 1) = n * r := by
  obtain ⟨q, rfl⟩ : ∃ q, r = q + 1 := ⟨r - 1, by omega⟩
  rw [Nat.add_sub_cancel, Nat.mul_succ, Nat.add_comm]
 rw [this, Nat.mul_mod_left]
def suSx : Su -> Sx
 | .lit => .li
 | .mid => .mi
def suRn : Su -> Nat
 | .lit => 65521
 | .mid => 72057594037927889
theorem suR_nat (s : Su) : (suR s).toNat = suRn s := by cases s <;> rfl
theorem suRn_pos (s : Su) : 0 < suRn s := by cases s <;> decide
theorem suRn_lt (s : Su) : suRn s < 18446744073709551616 := by cases s <;> decide
theorem pr_suR (s : Su) : Pr (suRn s) := by
 cases s
 . exact pr_65521
 . exact pr_72057594037927889
theorem suX_lt (s : Su) : (suX s).toNat < suP s := by cases s <;> decide
theorem suY_lt (s : Su) : (suY s).toNat < suP s := by cases s <;> decide
def genA (s : Su) : Ap (Fsu s) := ⟨⟨(suX s).toNat, suX_lt s⟩, ⟨(suY s).toNat, suY_lt s⟩, false⟩
theorem genA_wp (s : Su) : wp (genA s) = (suX s, suY s, false) := by
 unfold wp genA
 rw [<- fw_of, <- fw_of]
theorem gen_on (s : Su) : onF s (suX s, suY s, false) = true := by cases s <;> kernel_rfl
theorem gen_in (s : Su) : inF s (suX s, suY s, false) = true := by cases s <;> kernel_rfl
theorem genA_pt (s : Su) : Cw.Pt (genA s) := by
 obtain ⟨A, h1, h2⟩ := on_iff.1 (gen_on s)
 rw [<- genA_wp] at h1
 rw [wp_inj h1]
 exact h2
abbrev nu (s : Su) (n : Nat) : Ap (Fsu s) := Cw.nsm ivF eqF (genA s) n
theorem nu_pt (s : Su) (n : Nat) : Cw.Pt (nu s n) := Cw.nsm_pt (fdS s) (genA_pt s) n
theorem gen_order (s : Su) : nu s (suRn s) = ⟨0, 0, true⟩ := by
 have h := gen_in s
 unfold inF at h
 rw [gen_on, cond_true, <- genA_wp, lTimes_wp (genA_pt s), suR_nat] at h
 exact (nu_pt s (suRn s)).z h
theorem nu_add (s : Su) (m n : Nat) : Cw.sumW ivF eqF (nu s m) (nu s n) = nu s (m + n) := (Cw.nsm_add (fdS s) (genA_pt s) m n).symm
theorem nu_mul (s : Su) (m n : Nat) : Cw.nsm ivF eqF (nu s m) n = nu s (m * n) := (Cw.nsm_mul (fdS s) (genA_pt s) m n).symm
theorem nu_mod (s : Su) (n : Nat) : nu s n = nu s (n % suRn s) := Cw.nsm_mod (fdS s) (genA_pt s) (gen_order s) n
theorem nu_zero (s : Su) (n : Nat) : (nu s n).zero = decide (n % suRn s = 0) := Cw.nsm_none (fdS s) (genA_pt s) (pr_suR s) (gen_order s) rfl n
theorem nu_none (s : Su) {n : Nat} (h : n % suRn s = 0) : nu s n = ⟨0, 0, true⟩ := (nu_pt s n).z (by rw [nu_zero, h]; rfl)
theorem nu_inj (s : Su) (m n : Nat) : nu s m = nu s n ↔ m % suRn s = n % suRn s :=
 cyc_inj (ν := nu s) (S := Cw.sumW ivF eqF) (Z := fun a => a.zero) (suRn_pos s) (nu_add s) (nu_zero s) (nu_mod s) m n
theorem nu_neg (s : Su) (n : Nat) : negK (nu s n) = nu s (n * (suRn s - 1)) := by
 have h := Cw.sum_cancel (fdS s) (nu_pt s (n * (suRn s - 1))) (nu_pt s n)
 rw [nu_add, nu_none s (n := n * (suRn s - 1) + n) (by rw [Nat.add_comm]; exact neg_mod n (suRn_pos s))] at h
 exact h
def phS (s : Su) (n : Nat) : Kz := ((suSx s).int, zPx, wp (nu s n))
theorem phS_kx (s : Su) (n : Nat) : toKx (phS s n) = (suSx s, zPx, wp (nu s n)) := by
 unfold toKx phS
 rw [Sx.of_int]
theorem on_nu (s : Su) (n : Nat) : onF s (wp (nu s n)) = true := on_iff.2 ⟨_, rfl, nu_pt s n⟩
theorem in_nu (s : Su) (n : Nat) : inF s (wp (nu s n)) = true := by
 unfold inF
 rw [on_nu, cond_true, lTimes_wp (nu_pt s n), suR_nat, nu_mul]
 show (nu s (n * suRn s)).zero = true
 rw [nu_zero, Nat.mul_mod_left]; rfl
theorem zPx_is : eqPx zPx = true := rfl
theorem kch_nu (I : Px -> Bool) (s : Su) (n : Nat) : kchX I (toKx (phS s n)) = true := by
 rw [phS_kx]
 have h := in_nu s n
 cases s
 . show (bif eqPx zPx then inF .lit (wp (nu .lit n)) else false) = true
   rw [zPx_is, cond_true, h]
 . show (bif eqPx zPx then inF .mid (wp (nu .mid n)) else false) = true
   rw [zPx_is, cond_true, h]
theorem ofW_val (x : BitVec 64) : (ofW x).val = x.toNat := by
 unfold ofW W6.val
 simp
theorem ordX_val (s : Su) : (ordX (suSx s)).val = suRn s := by
 cases s
 . exact ofW_val 65521#64
 . exact ofW_val 72057594037927889#64
theorem cmpX_ge {x o : W6} (h : x.val < o.val) : decide (cmpX x o >= 0) = false := by
 have := (cmW_nat x o).2 h
 have e : cmpX x o = cmW x o := rfl
 rw [e, decide_eq_false_iff_not]
 omega
theorem ky1_nu (I : Px -> Bool) (s : Su) (n : Nat) {x : W6} (h : x.val < suRn s) : ky1 (kchX I) ordX cmpX x (suSx s, zPx, wp (nu s n)) = 0 := by
 unfold ky1
 rw [<- phS_kx, kch_nu, phS_kx]
 dsimp only
 rw [cmpX_ge (by rw [ordX_val]; exact h)]
 simp
theorem ky2_nu (I : Px -> Bool) (s : Su) (m n : Nat) : ky2 (kchX I) ordX cmpX zW6 (suSx s, zPx, wp (nu s m)) (suSx s, zPx, wp (nu s n)) = 0 := by
 unfold ky2
 rw [<- phS_kx, <- phS_kx, kch_nu, kch_nu, phS_kx, phS_kx]
 dsimp only
 rw [cmpX_ge (by rw [ordX_val]; exact suRn_pos s)]
 simp
theorem w0_val {x : W6} (h : x.val < 18446744073709551616) : x.w0.toNat = x.val := by
 unfold W6.val at h ⊢
 omega
theorem lneg_wp {s : Su} (A : Ap (Fsu s)) : ((wp A).1, lSub s 0#64 (wp A).2.1, (wp A).2.2) = wp (negK A) := by
 unfold wp negK
 rw [<- fw_zero (s := s), lSub_fw]
 have e : (0 : Fsu s) - A.y = -A.y := rg [A.y]
 rw [e]
theorem cy_lit (I : Px -> Bool) (A1 : Px -> Px -> Px × Int) (M1 : Px -> W6 -> Px × Int) (N1 : Px -> Px × Int) (s : Su) :
 Cy (fun a => kchX I (toKx a)) (fun i => sorF ordX (Sx.of i)) cmpX (kmuX I M1) (kadX I A1) (kneX I N1) (suSx s).int (suRn s) (phS s) where
 chk n := kch_nu I s n
 sui n := rfl
 cmp x h := by
  have e : (sorF ordX (Sx.of (suSx s).int)).1 = ordX (suSx s) := by rw [Sx.of_int]; cases s <;> rfl
  rw [e]
  exact cmpX_ge (by rw [ordX_val]; exact h)
 mul n x h := by
  unfold kmuX kmuG
  rw [phS_kx, ky1_nu I s n h]
  have e : (lTimes s (wp (nu s n)) x.w0) = wp (nu s (n * x.val)) := by
   rw [lTimes_wp (nu_pt s n), nu_mul, w0_val (Nat.lt_trans h (suRn_lt s))]
  cases s
  . show (((1 : Int), zPx, lTimes .lit (wp (nu .lit n)) x.w0), (0 : Int)) = _
    rw [e]; rfl
  . show (((2 : Int), zPx, lTimes .mid (wp (nu .mid n)) x.w0), (0 : Int)) = _
    rw [e]; rfl
 add m n := by
  unfold kadX kadG
  rw [phS_kx, phS_kx, ky2_nu I s m n]
  have e : lSum s (wp (nu s m)) (wp (nu s n)) = wp (nu s (m + n)) := by
   rw [lSum_wp (nu_pt s m) (nu_pt s n), nu_add]
  cases s
  . show (((1 : Int), zPx, lSum .lit (wp (nu .lit m)) (wp (nu .lit n))), (0 : Int)) = _
    rw [e]; rfl
  . show (((2 : Int), zPx, lSum .mid (wp (nu .mid m)) (wp (nu .mid n))), (0 : Int)) = _
    rw [e]; rfl
 neg n := by
  refine ⟨n * (suRn s - 1), ?_, neg_mod n (suRn_pos s)⟩
  unfold kneX kneG
  rw [phS_kx, ky1_nu I s n (x := zW6) (suRn_pos s)]
  have e := lneg_wp (nu s n)
  rw [nu_neg] at e
  cases s
  . show (((1 : Int), zPx, ((wp (nu .lit n)).1, lSub .lit 0#64 (wp (nu .lit n)).2.1, (wp (nu .lit n)).2.2)), (0 : Int)) = _
    rw [e]; rfl
  . show (((2 : Int), zPx, ((wp (nu .mid n)).1, lSub .mid 0#64 (wp (nu .mid n)).2.1, (wp (nu .mid n)).2.2)), (0 : Int)) = _
    rw [e]; rfl
 inj m n := by
  rw [<- nu_inj]
  constructor
  . intro h
    have h : wp (nu s m) = wp (nu s n) := (Prod.mk.inj (Prod.mk.inj h).2).2
    exact wp_inj h
  . intro h
    unfold phS; rw [h]
end Go.Rq.Sm

namespace Go.Rq
open Go Go.Proofs
def shl1 (a : W6) : W6 := ⟨a.w0 <<< 1, a.w1 <<< 1 ||| a.w0 >>> 63, a.w2 <<< 1 ||| a.w1 >>> 63, a.w3 <<< 1 ||| a.w2 >>> 63, a.w4 <<< 1 ||| a.w3 >>> 63, a.w5 <<< 1 ||| a.w4 >>> 63⟩
set_option maxRecDepth 100000 in
theorem shl1_run (a : W6) : (afunR PR (envOf eqsT []) [] (fun _ => none) 40 104 [c6.agg.enc a, (kInt .i64).enc 1]).strict = .leaf (c6.agg.enc (shl1 a)) := by kernel_rfl
theorem shl1_ok : CallOk PR 104 (fn2 c6.agg (kAt .i64 1) c6.agg (fun a _ => shl1 a)) :=
 .inl ⟨entersB (by kernel_rfl), pure2 (C := kAt .i64 1) shift_ctx (fun a _ => leafVal (B := c6.agg) (y := shl1 a) (shl1_run a))⟩
theorem shl_or (a b : BitVec 64) : (a <<< 1 ||| b >>> 63).toNat = 2 * a.toNat % 18446744073709551616 + b.toNat / 9223372036854775808 := by
 have hb : (b >>> 63).toNat = b.toNat / 9223372036854775808 := by rw [BitVec.toNat_ushiftRight, Nat.shiftRight_eq_div_pow]
 have hbl := b.isLt
 have ha : (a <<< 1).toNat = 2 * a.toNat % 18446744073709551616 := by
  rw [BitVec.toNat_shiftLeft, Nat.shiftLeft_eq, Nat.mul_comm]
 have hz : (a <<< 1) &&& (b >>> 63) = 0#64 := by
  apply BitVec.eq_of_toNat_eq
  rw [BitVec.toNat_and, ha, hb]
  have hc : b.toNat / 9223372036854775808 = 0 \/ b.toNat / 9223372036854775808 = 1 := by omega
  rcases hc with h | h
  . rw [h, Nat.and_zero]; rfl
  . rw [h, Nat.and_one_is_mod]
    show _ = 0
    omega
 rw [<- BitVec.add_eq_or_of_and_eq_zero _ _ hz, BitVec.toNat_add, ha, hb]
 apply Nat.mod_eq_of_lt
 omega
theorem shl_sum {a0 a1 a2 a3 a4 a5 m0 m1 m2 m3 m4 m5 c0 c1 c2 c3 c4 : Nat} (d0 : m0 + 18446744073709551616 * c0 = 2 * a0) (d1 : m1 + 18446744073709551616 * c1 = 2 * a1) (d2 : m2 + 18446744073709551616 * c2 = 2 * a2) (d3 : m3 + 18446744073709551616 * c3 = 2 * a3) (d4 : m4 + 18446744073709551616 * c4 = 2 * a4) (d5 : m5 + 18446744073709551616 * 0 = 2 * a5) :
 m0 + 18446744073709551616 * (m1 + c0) + 340282366920938463463374607431768211456 * (m2 + c1) + 6277101735386680763835789423207666416102355444464034512896 * (m3 + c2) + 115792089237316195423570985008687907853269984665640564039457584007913129639936 * (m4 + c3) + 2135987035920910082395021706169552114602704522356652769947041607822219725780640550022962086936576 * (m5 + c4) =
 2 * (a0 + 18446744073709551616 * a1 + 340282366920938463463374607431768211456 * a2 + 6277101735386680763835789423207666416102355444464034512896 * a3 + 115792089237316195423570985008687907853269984665640564039457584007913129639936 * a4 + 2135987035920910082395021706169552114602704522356652769947041607822219725780640550022962086936576 * a5) := by
 omega
theorem top_zero {a0 a1 a2 a3 a4 a5 : Nat} (h : a0 + 18446744073709551616 * a1 + 340282366920938463463374607431768211456 * a2 + 6277101735386680763835789423207666416102355444464034512896 * a3 + 115792089237316195423570985008687907853269984665640564039457584007913129639936 * a4 + 2135987035920910082395021706169552114602704522356652769947041607822219725780640550022962086936576 * a5 < 52435875175126190479447740508185965837690552500527637822603658699938581184513) : a5 = 0 := by
 omega
theorem dbl_parts (v : Nat) : 2 * v % 18446744073709551616 + 18446744073709551616 * (v / 9223372036854775808) = 2 * v := by omega
theorem shl1_words (x : W6) : (shl1 x).val = (2 * x.w0.toNat % 18446744073709551616) + 18446744073709551616 * (2 * x.w1.toNat % 18446744073709551616 + x.w0.toNat / 9223372036854775808) + 340282366920938463463374607431768211456 * (2 * x.w2.toNat % 18446744073709551616 + x.w1.toNat / 9223372036854775808) +
 6277101735386680763835789423207666416102355444464034512896 * (2 * x.w3.toNat % 18446744073709551616 + x.w2.toNat / 9223372036854775808) + 115792089237316195423570985008687907853269984665640564039457584007913129639936 * (2 * x.w4.toNat % 18446744073709551616 + x.w3.toNat / 9223372036854775808) +
 2135987035920910082395021706169552114602704522356652769947041607822219725780640550022962086936576 * (2 * x.w5.toNat % 18446744073709551616 + x.w4.toNat / 9223372036854775808) := by
 have h0 : (x.w0 <<< 1).toNat = 2 * x.w0.toNat % 18446744073709551616 := by rw [BitVec.toNat_shiftLeft, Nat.shiftLeft_eq, Nat.mul_comm]
 rw [<- h0, <- shl_or, <- shl_or, <- shl_or, <- shl_or, <- shl_or]
 rfl
theorem shl1_nat (x : W6) (h : x.val < 52435875175126190479447740508185965837690552500527637822603658699938581184513) : (shl1 x).val = 2 * x.val := by
 have top : x.w5.toNat = 0 := top_zero h
 have d5 : 2 * x.w5.toNat % 18446744073709551616 + 18446744073709551616 * 0 = 2 * x.w5.toNat := by rw [top]
 rw [shl1_words]
 exact shl_sum (dbl_parts x.w0.toNat) (dbl_parts x.w1.toNat) (dbl_parts x.w2.toNat) (dbl_parts x.w3.toNat) (dbl_parts x.w4.toNat) d5
end Go.Rq

namespace Go.Rq
open Go Go.Proofs
set_option maxRecDepth 100000
end Go.Rq

namespace Go.Rq
open Go Go.Proofs
structure GP (K : Type) where
 ck : Ap K -> Bool
 ad : Ap K -> Ap K -> Ap K × Int
 ne : Ap K -> Ap K × Int
def zeroP1 : Ap W6 := ⟨zeroW, zeroW, true⟩
section
variable {K : Type} [Rg K] {iv : K -> K} {e : K -> K -> Bool} {R : K -> D6 -> Prop} {t : RO}
end
section
variable {K : Type} [Rg K] {iv : K -> K} {e : K -> K -> Bool} {M P : K -> D6 -> Prop} {f : Fl K}
end
section
variable {K : Type} [Rg K] {iv : K -> K} {e : K -> K -> Bool} {R : K -> W6 -> Prop} {t : RO}
end
section
variable {K V : Type} [Rg K] {iv : K -> K} {e : K -> K -> Bool} {F : Fd K iv e} {b : K}
theorem pt_on (F : Fd K iv e) {f : Fl K} {A : Ap K} (h : Pt f.b A) : onE (foK iv) e f A = true := by
 unfold onE
 cases h with
 | zero =>
  show (bif e (0 : K) 0 then e (0 : K) 0 else false) = true
  rw [F.refl]; rfl
 | of h =>
  rename_i x y
  show e (y * y) (x * x * x + f.b) = true
  exact F.eq.2 h
theorem on_pt (F : Fd K iv e) {f : Fl K} {A : Ap K} (h : onE (foK iv) e f A = true) : Pt f.b A := by
 cases hz : A.zero with
 | true => rw [on_none F h hz]; exact .zero
 | false =>
  unfold onE at h
  rw [hz, cond_false] at h
  have h := F.eq.1 h
  obtain ⟨x, y, z⟩ := A
  simp only at hz
  subst hz
  exact .of h
structure Br (F : Fd K iv e) (b : K) (R : Ap K -> Ap V -> Prop) (eqP : Ap V -> Ap V -> Bool) (zp : Ap V) (t : GP V) : Prop where
 pt : ∀ {p : Ap V}, t.ck p = true -> ∃ A, R A p /\ Pt b A
 ck : ∀ {A : Ap K} {p : Ap V}, R A p -> Pt b A -> t.ck p = true
 ad : ∀ {A B : Ap K} {p q : Ap V}, R A p -> R B q -> Pt b A -> Pt b B -> (t.ad p q).2 = 0 /\ R (sumA iv e A B) (t.ad p q).1
 ne : ∀ {A : Ap K} {p : Ap V}, R A p -> Pt b A -> (t.ne p).2 = 0 /\ R (negK A) (t.ne p).1
 zp : R ⟨0, 0, true⟩ zp
 inj : ∀ {A : Ap K} {p q : Ap V}, R A p -> R A q -> p = q
 refl : ∀ p, eqP p p = true
end
def gpO1 : GP W6 := ⟨checkP1, addP1, negP1⟩
section
variable {K : Type} [Rg K] {iv : K -> K} {e : K -> K -> Bool} {M P : K -> W6 -> Prop} {f : Fl K}
theorem Lk.ckPt (L : Lk iv e M P f) (hlt : ∀ {x : K} {w : W6}, P x w -> w.val < pN) {A : Ap K} {p : Ap W6} (h : RA P A p) (hA : Pt f.b A) : checkP1 p = true := by
 have hb : belowP1 p = true := by
  unfold belowP1
  rw [belowI_nat, belowI_nat, decide_eq_true (hlt h.x), decide_eq_true (hlt h.y)]
  rfl
 unfold checkP1
 rw [hb, cond_true, <- on_rel L.rel L.fl (L.inn h)]
 exact pt_on L.F hA
theorem Lk.br (L : Lk iv e M P f) (hlt : ∀ {x : K} {w : W6}, P x w -> w.val < pN) : Br L.F f.b (RA P) eqP13 zeroP1 gpO1 where
 pt := fun {p} h => by
  have h' : rcheck1 p = true := by rw [<- L.check]; exact h
  obtain ⟨-, A, hP, hon⟩ := L.point h'
  exact ⟨A, hP, on_pt L.F hon⟩
 ck h hA := L.ckPt hlt h hA
 ad := fun {A B p q} ha hb a2 b2 => by
  have c1 : rcheck1 p = true := by rw [<- L.check]; exact L.ckPt hlt ha a2
  have c2 : rcheck1 q = true := by rw [<- L.check]; exact L.ckPt hlt hb b2
  have h4 : RA P (sumA iv e A B) (radd1 p q) := radd_rel L.ref ha hb
  have h5 : addP1 p q = (radd1 p q, 0) := by rw [L.add, c1, c2]; rfl
  show (addP1 p q).2 = 0 /\ RA P (sumA iv e A B) (addP1 p q).1
  rw [h5]
  exact ⟨rfl, h4⟩
 ne := fun {A p} ha a2 => by
  have c1 : rcheck1 p = true := by rw [<- L.check]; exact L.ckPt hlt ha a2
  have h4 := rneg_rel L.ref ha
  have h5 : negP1 p = (rneg1G roO p, 0) := by rw [L.neg, c1]; rfl
  show (negP1 p).2 = 0 /\ RA P (negK A) (negP1 p).1
  rw [h5]
  exact ⟨rfl, h4⟩
 zp := ⟨L.ref.zero, L.ref.zero, rfl⟩
 inj h k := ra_inj L.ref h k
 refl p := (eqP13_iff p p).2 rfl
end
section
variable {K : Type} [Rg K] {iv : K -> K} {e : K -> K -> Bool} {M P : K -> D6 -> Prop} {f : Fl K}
end
theorem four_rv {b : F1} (hb : RP b (ofW 4#64)) : RV (p := pN) b 4 := ⟨by rw [<- hb.eq]; exact four_val.symm⟩
theorem link1c : ∃ b : F1, Lk iv1 eq1 RM RP ⟨1, b⟩ /\ Cv fd1 b := by
 obtain ⟨b, hb⟩ := rp_of four_lt
 exact ⟨b, ⟨fd1, relM, rm_one, rm_zero, rm_to, rp_from, rp_of, rrel1, rfl, hb⟩, cv1 (four_rv hb)⟩
section
variable {K : Type} [Rg K] {iv : K -> K} {e : K -> K -> Bool}
theorem ga1_nsm (F : Fd K iv e) {f : Fl K} (C : Cv F f.b) (hf : f.one = 1) {A : Ap K} (hA : Pt f.b A) (n : W6) : ga1 (gaF iv e) 0 f A n = (nsm iv e A n.val, 0) := by
 have h : ga1 (gaF iv e) 0 f A n = bif onE (foK iv) e f A then (lowerE (foK iv) e (sumE (foK iv) e f ⟨f.one, f.one, 0⟩ (timesF iv e f (raiseJ (foK iv) f A) n)), 0) else (⟨0, 0, false⟩, 5) := rfl
 have h0 : Jr (⟨f.one, f.one, 0⟩ : Jp K) (nsm iv e A 0) := .none rfl
 have h1 := jr_run F C f n.bit (jr_raise F hf hA) hA (lenI n).toNat 0 h0
 rw [bitsV_val n (fun i hi => len_bits n hi), Nat.zero_mul, Nat.zero_add] at h1
 rw [h, pt_on F hA, cond_true, sum_none F f rfl]
 unfold timesF
 rw [times_run, jr_low F h1]
end
section
variable {K : Type} [Rg K] {iv : K -> K} {e : K -> K -> Bool} {M P : K -> W6 -> Prop} {f : Fl K}
theorem Lk.nsm (L : Lk iv e M P f) (hlt : ∀ {x : K} {w : W6}, P x w -> w.val < pN) (C : Cv L.F f.b) {A : Ap K} {p : Ap W6} (hP : RA P A p) (hA : Pt f.b A) (n : W6) : (sumP1W p n).2 = 0 /\ RA P (Go.Rq.nsm iv e A n.val) (sumP1W p n).1 := by
 have hc : rcheck1 p = true := by rw [<- L.check]; exact L.ckPt hlt hP hA
 obtain ⟨h1, h2⟩ := ga1_rel L.ga L.m0 L.fl (L.inn hP) n
 rw [ga1_nsm L.F C L.f1 hA n] at h1 h2
 rw [sum1_def, (L.point hc).1, cond_true]
 exact ⟨h2.symm, L.out h1⟩
end
section
variable {K : Type} [Rg K] {iv : K -> K} {e : K -> K -> Bool} {M P : K -> D6 -> Prop} {f : Fl K}
end
section
variable {K V : Type} [Rg K] {iv : K -> K} {e : K -> K -> Bool} {F : Fd K iv e} {b : K}
end
section
variable {K : Type} [Rg K] {iv : K -> K} {e : K -> K -> Bool} {M P : K -> W6 -> Prop} {f : Fl K}
theorem Lk.ingN (L : Lk iv e M P f) (hlt : ∀ {x : K} {w : W6}, P x w -> w.val < pN) (C : Cv L.F f.b) {A : Ap K} {p : Ap W6} (hP : RA P A p) (hA : Pt f.b A) : inGroup1 p = (Go.Rq.nsm iv e A rN).zero := by
 have hc : rcheck1 p = true := by rw [<- L.check]; exact L.ckPt hlt hP hA
 have h1 := (L.nsm hlt C hP hA orderW).2
 rw [order_val, L.mul, hc, cond_true] at h1
 rw [L.ing, hc, cond_true, rin1_def, hc, cond_true, <- h1.z]
theorem Lk.gen (L : Lk iv e M P f) (hlt : ∀ {x : K} {w : W6}, P x w -> w.val < pN) (C : Cv L.F f.b) : ∃ G : Ap K, RA P G gen1P /\ Pt f.b G /\ G.zero = false /\ Go.Rq.nsm iv e G rN = ⟨0, 0, true⟩ := by
 have hc : rcheck1 gen1P = true := by rw [<- L.check]; exact check_gen
 obtain ⟨-, G, hG, hon⟩ := L.point hc
 have hP := on_pt L.F hon
 have h1 := (L.nsm hlt C hG hP orderW).2
 rw [mul_order, order_val] at h1
 exact ⟨G, hG, hP, hG.z, (nsm_pt L.F hP rN).z h1.z⟩
end
section
variable {K : Type} [Rg K] {iv : K -> K} {e : K -> K -> Bool} {M P : K -> D6 -> Prop} {f : Fl K}
end
end Go.Rq

namespace Go.Rq.Sm
open Go Go.Proofs Go.Rq
def toAp (p : Px) : Ap W6 := ⟨p.1, p.2.1, p.2.2⟩
def ofAp (a : Ap W6) : Px := (a.x, a.y, a.zero)
def ofE (y : Ap W6 × Int) : Px × Int := (ofAp y.1, y.2)
theorem toAp_ofAp (a : Ap W6) : toAp (ofAp a) = a := rfl
theorem decA (a : AV) : aW.agg.dec a = (cPx.agg.dec a).map toAp := by
 simp only [CC.agg]
 cases aggOf a with
 | none => rfl
 | some l =>
  show (cAp c6).dec l = _
  unfold cAp cPx CC.iso
  dsimp only
  cases (CC.prod c6 (CC.prod c6 cBool)).dec l <;> rfl
theorem fnA1 {β β' : Type} {B : Cod β} {B' : Cod β'} {F : Ap W6 -> β} {ψ : β -> β'} (hB : ∀ y, B.enc y = B'.enc (ψ y)) : fn1 aW.agg B F = fn1 cPx.agg B' (fun a => ψ (F (toAp a))) := by
 funext args
 unfold fn1
 split
 . rename_i a
   rw [decA]
   cases cPx.agg.dec a with
   | none => rfl
   | some x => simp only [Option.map, hB]
 . rfl
theorem fnA1c {γ β β' : Type} {D : Cod γ} {B : Cod β} {B' : Cod β'} {F : Ap W6 -> γ -> β} {ψ : β -> β'} (hB : ∀ y, B.enc y = B'.enc (ψ y)) : fn2 aW.agg D B F = fn2 cPx.agg D B' (fun a d => ψ (F (toAp a) d)) := by
 funext args
 unfold fn2
 split
 . rename_i a d
   rw [decA]
   cases cPx.agg.dec a with
   | none => rfl
   | some x => cases D.dec d <;> simp only [Option.map, hB]
 . rfl
theorem fnA2 {β β' : Type} {B : Cod β} {B' : Cod β'} {F : Ap W6 -> Ap W6 -> β} {ψ : β -> β'} (hB : ∀ y, B.enc y = B'.enc (ψ y)) : fn2 aW.agg aW.agg B F = fn2 cPx.agg cPx.agg B' (fun a b => ψ (F (toAp a) (toAp b))) := by
 funext args
 unfold fn2
 split
 . rename_i a b
   rw [decA, decA]
   cases cPx.agg.dec a with
   | none => rfl
   | some x => cases cPx.agg.dec b <;> simp only [Option.map, hB]
 . rfl
theorem kPW_enc (y : Ap W6 × Int) : kPW.enc y = kPE.enc (ofE y) := rfl
theorem in_to {I : Ap W6 -> Bool} (h : CallOk PR 90 (fn1 aW.agg kBool I)) : CallOk PR 90 (fn1 cPx.agg kBool (fun p => I (toAp p))) := by
 rw [fnA1 (B' := kBool) (ψ := fun b => b) fun y => rfl] at h
 exact h
theorem ad_to {A : Ap W6 -> Ap W6 -> Ap W6 × Int} (h : CallOk PR 75 (fn2 aW.agg aW.agg kPW A)) : CallOk PR 75 (fn2 cPx.agg cPx.agg kPE (fun p q => ofE (A (toAp p) (toAp q)))) := by
 rw [fnA2 (B' := kPE) (ψ := ofE) kPW_enc] at h
 exact h
theorem mu_to {M : Ap W6 -> W6 -> Ap W6 × Int} (h : CallOk PR 73 (fn2 aW.agg c6.agg kPW M)) : CallOk PR 73 (fn2 cPx.agg c6.agg kPE (fun p n => ofE (M (toAp p) n))) := by
 rw [fnA1c (B' := kPE) (ψ := ofE) kPW_enc] at h
 exact h
structure GrOk (I : Ap W6 -> Bool) (A : Ap W6 -> Ap W6 -> Ap W6 × Int) (M : Ap W6 -> W6 -> Ap W6 × Int) (N : Ap W6 -> Ap W6 × Int) (g : Ap W6) (ν : Nat -> Ap W6) : Prop where
 chk : ∀ n, I (ν n) = true
 add : ∀ m n, (A (ν m) (ν n)).1 = ν (m + n)
 mul : ∀ (n : Nat) (x : W6), (M (ν n) x).1 = ν (n * x.val)
 neg : ∀ n, (N (ν n)).1 = ν (n * (rN - 1))
 inj : ∀ m n, ν m = ν n ↔ m % rN = n % rN
 gen : ν 1 = g
theorem rN_pos : 0 < rN := by unfold rN; decide
section
variable {K : Type} [Rg K] {iv : K -> K} {e : K -> K -> Bool} {M P : K -> W6 -> Prop} {f : Fl K}
theorem gr_of (L : Lk iv e M P f) (hlt : ∀ {x : K} {w : W6}, P x w -> w.val < pN) (C : Cv L.F f.b) : ∃ ν : Nat -> Ap W6, GrOk inGroup1 addP1 sumP1W negP1 gen1P ν := by
 obtain ⟨G, g1, g2, g3, g4⟩ := L.gen hlt C
 have B := L.br hlt
 have pt : ∀ n, Go.Rq.Pt f.b (Go.Rq.nsm iv e G n) := fun n => nsm_pt L.F g2 n
 have ex : ∀ n, ∃ p : Ap W6, RA P (Go.Rq.nsm iv e G n) p := by
  intro n
  induction n with
  | zero => exact ⟨_, B.zp⟩
  | succ n ih =>
   obtain ⟨p, hp⟩ := ih
   exact ⟨_, (B.ad hp g1 (pt n) g2).2⟩
 obtain ⟨ν, hν⟩ : ∃ ν : Nat -> Ap W6, ∀ n, RA P (Go.Rq.nsm iv e G n) (ν n) := ⟨fun n => Classical.choose (ex n), fun n => Classical.choose_spec (ex n)⟩
 have hadd : ∀ m n, (addP1 (ν m) (ν n)).1 = ν (m + n) := fun m n => by
  have h := (B.ad (hν m) (hν n) (pt m) (pt n)).2
  rw [<- nsm_add L.F C g2] at h
  exact B.inj h (hν (m + n))
 refine ⟨ν, fun n => ?_, hadd, fun n x => ?_, fun n => ?_, ?_, ?_⟩
 . rw [L.ingN hlt C (hν n) (pt n), <- nsm_mul L.F C g2, Nat.mul_comm, nsm_mul L.F C g2, g4, nsm_zero]
 . have h := (L.nsm hlt C (hν n) (pt n) x).2
   rw [<- nsm_mul L.F C g2] at h
   exact B.inj h (hν (n * x.val))
 . have h := (B.ne (hν n) (pt n)).2
   have hc := sum_cancel L.F C (pt (n * (rN - 1))) (pt n)
   rw [<- nsm_add L.F C g2, nsm_mod L.F C g2 g4, Nat.add_comm, neg_mod n rN_pos] at hc
   have h0 : sumA iv e (Go.Rq.nsm iv e G 0) (negK (Go.Rq.nsm iv e G n)) = negK (Go.Rq.nsm iv e G n) := rfl
   rw [h0] at hc
   rw [hc] at h
   exact B.inj h (hν (n * (rN - 1)))
 . exact cyc_inj (ν := ν) (S := fun p q => (addP1 p q).1) (Z := fun p => p.zero) rN_pos hadd
    (fun n => by
     show (ν n).zero = _
     rw [<- (hν n).z, nsm_none L.F C g2 pr_r g4 g3])
    (fun n => by
     have h := hν n
     rw [nsm_mod L.F C g2 g4] at h
     exact B.inj h (hν (n % rN)))
 . have h := hν 1
   rw [nsm_one] at h
   exact B.inj h g1
end
theorem gr_ex : ∃ ν : Nat -> Ap W6, GrOk inGroup1 addP1 sumP1W negP1 gen1P ν := by
 obtain ⟨b, L, C⟩ := link1c
 exact gr_of L rp_lt C
def phG (ν : Nat -> Ap W6) (n : Nat) : Kz := (0, ofAp (ν n), zLx)
section
variable {I : Ap W6 -> Bool} {A : Ap W6 -> Ap W6 -> Ap W6 × Int} {M : Ap W6 -> W6 -> Ap W6 × Int} {N : Ap W6 -> Ap W6 × Int} {g : Ap W6} {ν : Nat -> Ap W6}
theorem rWx_val : rWx.val = rN := by decide +kernel
theorem zLx_is : eqLz zLx = true := rfl
theorem kch_gr (h : GrOk I A M N g ν) (n : Nat) : kchX (fun p => I (toAp p)) (toKx (phG ν n)) = true := by
 show (bif eqLz zLx then I (toAp (ofAp (ν n))) else false) = true
 rw [zLx_is, cond_true, toAp_ofAp, h.chk]
theorem ky1_gr (h : GrOk I A M N g ν) (n : Nat) {x : W6} (hx : x.val < rN) : ky1 (kchX (fun p => I (toAp p))) ordX cmpX x (toKx (phG ν n)) = 0 := by
 unfold ky1
 rw [kch_gr h]
 have e : ordX (toKx (phG ν n)).1 = rWx := rfl
 rw [e, cmpX_ge (by rw [rWx_val]; exact hx)]
 simp
theorem ky2_gr (h : GrOk I A M N g ν) (m n : Nat) : ky2 (kchX (fun p => I (toAp p))) ordX cmpX zW6 (toKx (phG ν m)) (toKx (phG ν n)) = 0 := by
 unfold ky2
 rw [kch_gr h, kch_gr h]
 have e : ordX (toKx (phG ν m)).1 = rWx := rfl
 have e2 : (toKx (phG ν m)).1.int = (toKx (phG ν n)).1.int := rfl
 rw [e, cmpX_ge (by rw [rWx_val]; exact rN_pos), e2]
 simp
theorem cy_gr (h : GrOk I A M N g ν) :
 Cy (fun a => kchX (fun p => I (toAp p)) (toKx a)) (fun i => sorF ordX (Sx.of i)) cmpX (kmuX (fun p => I (toAp p)) (fun p n => ofE (M (toAp p) n))) (kadX (fun p => I (toAp p)) (fun p q => ofE (A (toAp p) (toAp q))))
  (kneX (fun p => I (toAp p)) (fun p => ofE (N (toAp p)))) 0 rN (phG ν) where
 chk n := kch_gr h n
 sui n := rfl
 cmp x hx := by
  have e : (sorF ordX (Sx.of 0)).1 = rWx := rfl
  rw [e]
  exact cmpX_ge (by rw [rWx_val]; exact hx)
 mul n x hx := by
  unfold kmuX kmuG
  rw [ky1_gr h n hx]
  show (((0 : Int), ofAp (M (toAp (ofAp (ν n))) x).1, zLx), (0 : Int)) = _
  rw [toAp_ofAp, h.mul]
  rfl
 add m n := by
  unfold kadX kadG
  rw [ky2_gr h m n]
  show (((0 : Int), ofAp (A (toAp (ofAp (ν m))) (toAp (ofAp (ν n)))).1, zLx), (0 : Int)) = _
  rw [toAp_ofAp, toAp_ofAp, h.add]
  rfl
 neg n := by
  refine ⟨n * (rN - 1), ?_, neg_mod n rN_pos⟩
  unfold kneX kneG
  rw [ky1_gr h n (x := zW6) rN_pos]
  show (((0 : Int), ofAp (N (toAp (ofAp (ν n)))).1, zLx), (0 : Int)) = _
  rw [toAp_ofAp, h.neg]
  rfl
 inj m n := by
  rw [<- h.inj]
  constructor
  . intro hh
    have hh : ofAp (ν m) = ofAp (ν n) := (Prod.mk.inj (Prod.mk.inj hh).2).1
    rw [<- toAp_ofAp (ν m), hh, toAp_ofAp]
  . intro hh
    unfold phG; rw [hh]
end
end Go.Rq.Sm

namespace Go.Rq
open Go Go.Proofs
def envX (eqs : List (TypeId × List Nat)) (ps : PureTab) : Env := ⟨lookP ps, fun _ => none, lookE eqs, true, true, [], [], fun _ => none, none, fun _ => none, false, [], 2⟩
theorem envX_ok {P : Program} {eqs : List (TypeId × List Nat)} {ps : PureTab} (he : EqsOk P eqs) (hp : TabPOk P ps) : EnvOk P (envX eqs ps) :=
 ⟨fun _ _ h => he _ (lookE_mem h), fun _ _ h => hp _ (lookP_mem h), fun _ _ h => by simp [envX] at h, fun _ _ h => by simp [envX] at h, fun _ _ h => by simp [envX] at h, by show 1 <= 2; omega⟩
structure DV where
 ln : W6 -> Int
 bt : W6 -> Int -> Int
 sh : W6 -> W6
 cm : W6 -> W6 -> Int
 su : W6 -> W6 -> W6 × Bool
def dvT (t : DV) : PureTab := [(103, fn1 c6.agg (kInt .i64) t.ln), (105, fn2 c6.agg (kInt .i64) (kInt .i64) t.bt), (104, fn2 c6.agg (kAt .i64 1) c6.agg (fun a _ => t.sh a)),
 (86, fn2 c6.agg c6.agg (kInt .i64) t.cm), (106, fn2 c6.agg c6.agg kWB t.su)]
def dvE (t : DV) : Env := envX eqsT (dvT t)
def dvK : Keep := ⟨[2, 3, 4, 5, 6, 7, 8, 9], [0, 2, 4, 6, 16, 18], 26⟩
@[irreducible] noncomputable def dvX (t : DV) (a b : W6) : XS := (entryOf PR (dvE t) [13, 20, 38, 43] (fun _ => none) 10 57 [c6.agg.enc a, c6.agg.enc orderW] [] 0 0 dvK).setB 2 (c6.enc b)
@[irreducible] noncomputable def dvI (t : DV) (a b : W6) (d : Int × (W6 × W6)) : XS := (((dvX t a b).setT 9 (.v (.int .i64 d.1))).setB 16 (c6.enc d.2.1)).setB 18 (c6.enc d.2.2)
@[irreducible] noncomputable def dvC : Code := roundOf PR 57 0
def dvOff (z : Int) : Nat := 0 + (quo64 z).toNat * 1
def dvCond (z : Int) : Bool := Nat.blt (dvOff z) 6 && (decide (0 <= quo64 z /\ quo64 z < 6) && (decide (0 <= Int.tmod z 64) && (decide (dvOff z < 6) && (decide (0 <= quo64 z /\ quo64 z < 6) && true))))
def dvBit (z : Int) (o : W6) : BitVec 64 := [o.w0, o.w1, o.w2, o.w3, o.w4, o.w5].getD (dvOff z) 0#64 ||| (1#64 <<< Nat.min (Int.tmod z 64).toNat 64)
def dvPut (z : Int) (o : W6) (u : BitVec 64) : W6 := ⟨bif Nat.beq (dvOff z) 0 then u else o.w0, bif Nat.beq (dvOff z) 1 then u else o.w1, bif Nat.beq (dvOff z) 2 then u else o.w2, bif Nat.beq (dvOff z) 3 then u else o.w3, bif Nat.beq (dvOff z) 4 then u else o.w4, bif Nat.beq (dvOff z) 5 then u else o.w5⟩
def dvNext (t : DV) (a : W6) (z : Int) (l : W6) : W6 := ⟨(t.sh l).w0 ||| BitVec.ofInt 64 (t.bt a z), (t.sh l).w1, (t.sh l).w2, (t.sh l).w3, (t.sh l).w4, (t.sh l).w5⟩
def dvTop (l : W6) : Bool := l.w5 >>> 63 == 1#64
set_option maxRecDepth 1000000 in
theorem dv_round (t : DV) (a b : W6) (z : Int) (o l : W6) : Tree.but [6] 0 (roundT PR (dvE t) [13, 20, 38, 43] (fun _ => none) 10 dvK dvK dvK dvC (dvI t a b (z, (o, l)))) =
 .br (decide (z >= 0))
  (.br (dvTop l)
   (.need (dvCond z) (.leaf (.normal, dvI t a b (IntKind.i64.wrap (z - 1), (dvPut z o (dvBit z o), (t.su (dvNext t a z l) b).1)))))
   (.br (decide (t.cm (dvNext t a z l) b >= 0))
    (.need (dvCond z) (.leaf (.normal, dvI t a b (IntKind.i64.wrap (z - 1), (dvPut z o (dvBit z o), (t.su (dvNext t a z l) b).1)))))
    (.need true (.leaf (.normal, dvI t a b (IntKind.i64.wrap (z - 1), (o, dvNext t a z l)))))))
  (.leaf (.exit 0, dvI t a b (z, (o, l)))) := by kernel_rfl
set_option maxRecDepth 1000000 in
theorem dv_head (t : DV) (a b : W6) : dvX t a b = dvI t a b (IntKind.i64.wrap (t.ln a - 1), (zeroW, zeroW)) := by kernel_rfl
theorem dv_blk : blkAll 0 (bodyOf PR 57) = [.loop dvC] := by kernel_rfl
@[irreducible] noncomputable def dvB (t : DV) (a b q r : W6) : BEnt := ⟨dvK.tm, dvK.ids, dvK.n, dvX t a b, .leaf (.normal, dvI t a b (-1, (q, r)))⟩
theorem dvB_n (t : DV) (a b q r : W6) : (dvB t a b q r).n = 26 /\ (dvB t a b q r).pre = dvX t a b /\ (dvB t a b q r).post = .leaf (.normal, dvI t a b (-1, (q, r))) := by
 unfold dvB
 exact ⟨rfl, rfl, rfl⟩
def kWWE : Cod (W6 × (W6 × Int)) where
 enc x := .tup [c6.agg.enc x.1, c6.agg.enc x.2.1, .v (.int .i64 x.2.2)]
 dec _ := none
 val x := .tuple #[c6.agg.val x.1, c6.agg.val x.2.1, .int .i64 x.2.2]
 h1 x := by rfl
 h2 ρ a v x h r := by cases h
set_option maxRecDepth 1000000 in
theorem dv_run (t : DV) (a b q r : W6) : (afunR PR (dvE t) [13, 20, 38, 43] (tabOf [(0, dvB t a b q r)]) 10 57 [c6.agg.enc a, c6.agg.enc b]).strict =
 .br (eqW b zeroW) (.leaf (kWWE.enc (zeroW, (zeroW, 2)))) (.same (dvX t a b) (dvX t a b) (.leaf (kWWE.enc (q, (r, 0))))) := by kernel_rfl
end Go.Rq
