/- The reference's multiples: contracts. -/
import Derived.Test.YtdbcjiggimppdaaGreatRq16
import Derived.Test.YtdbcjiggimppdaaGreatRq15
import Derived.Test.YtdbcjiggimppdaaGreatRq10
import Derived.Test.YtdbcjiggimppdaaGreatRq14
namespace Go.Rq
open Go Go.Proofs

/-- Three outcomes. -/
def kTup3 {α β γ : Type} (A : Cod α) (B : Cod β) (C : Cod γ) (hA : ∀ x, flatA (A.enc x) = some (A.val x)) (hB : ∀ x, flatA (B.enc x) = some (B.val x)) (hC : ∀ x, flatA (C.enc x) = some (C.val x)) : Cod (α × β × γ) where
  enc x := .tup [A.enc x.1, B.enc x.2.1, C.enc x.2.2]
  dec a := match a with
    | .tup [a, b, c] => match A.dec a, B.dec b, C.dec c with
      | some x, some y, some z => some (x, y, z)
      | _, _, _ => none
    | _ => none
  val x := .tuple #[A.val x.1, B.val x.2.1, C.val x.2.2]
  h1 x := by simp [flat, flatsA, hA, hB, hC]
  h2 ρ a v x h r := by
    split at h
    · split at h
      · rename_i p q s hp hq hs
        simp at h; subst h
        obtain ⟨xs, rfl, hx⟩ := r.tup_iff
        obtain ⟨v0, y0, e0, h0, r0⟩ := hx.uncons
        obtain ⟨v1, y1, e1, h1, r1⟩ := r0.uncons
        obtain ⟨v2, y2, e2, h2, r2⟩ := r1.uncons
        have e3 := r2.unnil
        subst e3; subst e2; subst e1
        rw [A.h2 ρ _ _ _ hp h0, B.h2 ρ _ _ _ hq h1, C.h2 ρ _ _ _ hs h2] at e0
        have : xs = #[A.val p, B.val q, C.val s] := by apply Array.ext'; simpa using e0
        rw [this]
      · cases h
    · cases h

/-! The two elements. -/
def kT3 : Cod (D6 × D6 × Bool) := kTup3 c12.agg c12.agg kBool (fun _ => by kernel_rfl) (fun _ => by kernel_rfl) (fun _ => rfl)
theorem twoFlat (a b : D6) (o : Bool) : flat (.tup [c12.agg.enc a, c12.agg.enc b, .lit o]) = some (kT3.val (a, b, o)) := by kernel_rfl
def twT (t : RO) (i2 : D6 → D6) (mu : Th → D6 → D6 → D6) : PureTab := (162, fn3 cTh.agg c12.agg c12.agg c12.agg mu) :: (161, fn1 c12.agg c12.agg i2) :: roT t
def twP (mu : Th → D6 → D6 → D6) (p : Th) (z : D6) : D6 × D6 × Bool := (mu p p.x (mu p z z), mu p p.y (mu p (mu p z z) z), true)
def twA (mu : Th → D6 → D6 → D6) (p : Th) (z : D6) : AV := .tup [c12.agg.enc (twP mu p z).1, c12.agg.enc (twP mu p z).2.1, .lit true]
theorem two_run (t : RO) (i2 : D6 → D6) (mu : Th → D6 → D6 → D6) (p : Th) : (afunR PR (envOf eqsT (twT t i2 mu)) [10, 14] (fun _ => none) 40 113 [cTh.agg.enc p]).strict =
    .br (eqD p.z zeroD) (.leaf (.tup [c12.agg.enc zeroD, c12.agg.enc zeroD, .lit false])) (.br p.one (.leaf (twA mu p ⟨t.iv t.fp p.z.a, zeroW⟩)) (.leaf (twA mu p (i2 p.z)))) := by kernel_rfl
def twG (t : RO) (i2 : D6 → D6) (mu : Th → D6 → D6 → D6) (p : Th) : D6 × D6 × Bool := bif eqD p.z zeroD then (zeroD, zeroD, false) else bif p.one then twP mu p ⟨t.iv t.fp p.z.a, zeroW⟩ else twP mu p (i2 p.z)
theorem two_gives (t : RO) (i2 : D6 → D6) (mu : Th → D6 → D6 → D6) (p : Th) : Gives (afunR PR (envOf eqsT (twT t i2 mu)) [10, 14] (fun _ => none) 40 113 [cTh.agg.enc p]) (kT3.val (twG t i2 mu p)) :=
  givesOf (two_run t i2 mu p) (holds_br (B := kT3) (holds_leaf (twoFlat zeroD zeroD false)) (holds_br (B := kT3) (holds_leaf (twoFlat _ _ true)) (holds_leaf (twoFlat _ _ true))))
theorem two_ctx : Ctx PR (envOf eqsT (twT roO (rinv2G roO) thmW)) [10, 14] (fun _ => none) 40 113 :=
  ctx_of (envOf_ok eqsT_ok (TabPOk.cons thm_ok (TabPOk.cons rinv2_ok roT_ok))) mixed (fn := Tryz.f113) (by kernel_rfl) (by kernel_rfl) (by kernel_rfl) (tabOk_none _)
def twW : Th → D6 × D6 × Bool := twG roO (rinv2G roO) thmW
theorem two_ok : CallOk PR 113 (fn1 cTh.agg kT3 twW) :=
  .inl ⟨enters_of (fn := Tryz.f113) (by kernel_rfl) (by kernel_rfl) (by kernel_rfl), pure1 two_ctx (fun p => two_gives roO (rinv2G roO) thmW p)⟩

/-! By the bits of words. -/
structure MO where
  dbl : Th → Th
  ad : Th → Th → Th
def moT (t : MO) : PureTab := [(158, fn1 cTh.agg cTh.agg t.dbl), (159, fn2 cTh.agg cTh.agg cTh.agg t.ad)]
def moO : MO := ⟨dblW, taddW⟩
theorem moT_eq : [(158, fn1 cTh.agg cTh.agg dblW), (159, fn2 cTh.agg cTh.agg cTh.agg taddW)] = moT moO := by kernel_rfl
theorem moT_ok : TabPOk PR (moT moO) := Eq.subst (motive := TabPOk PR) moT_eq (TabPOk.cons dbl_ok (TabPOk.cons tadd_ok TabPOk.nil))
noncomputable def muE (t : MO) : Env := envL eqsT (moT t) [] [] true
theorem muE_ok : EnvOk PR (muE moO) := envL_ok eqsT_ok moT_ok TabHOk.nil TabLOk.nil
def muK : Keep := ⟨[1, 2, 4, 5, 6], [0, 1, 2, 6], 13⟩
@[irreducible] noncomputable def muX (t : MO) (p : Th) (w : W6) (len cap : Nat) : XS := entryOf PR (muE t) [15, 29] (fun _ => none) 10 112 [cTh.agg.enc p, .slc 0 0 len cap] (oneAH c6 24 w) 1 0 muK
@[irreducible] noncomputable def muI (t : MO) (p : Th) (w : W6) (len cap : Nat) (d : Int × Th) : XS := ((muX t p w len cap).setT 6 (.v (.int .i64 d.1))).setB 6 (cTh.enc d.2)
@[irreducible] noncomputable def muC : Code := roundOf PR 112 0

def muCond (z : Int) (len : Nat) : Bool := decide (0 ≤ Int.tmod z 64) && (decide (0 + (quo64 z).toNat * 1 < 6) && (decide (0 ≤ quo64 z ∧ quo64 z < (len : Int)) && true))
def muR (t : MO) (p : Th) (w : W6) (len : Nat) (I : Int × Th → XS) (z : Int) (o : Th) : Tree (AExit × XS) :=
    .br (decide (z ≥ 0))
      (.br (((w.get (0 + (quo64 z).toNat * 1) >>> Nat.min (Int.tmod z 64).toNat 64) &&& bitW true) == bitW true)
        (.need (muCond z len) (.leaf (.normal, I (IntKind.i64.wrap (z - 1), t.ad (t.dbl o) p))))
        (.need (muCond z len) (.leaf (.normal, I (IntKind.i64.wrap (z - 1), t.dbl o)))))
      (.leaf (.exit 0, I (z, o)))
set_option maxRecDepth 100000 in
theorem mu_round (t : MO) (p o : Th) (w : W6) (len cap : Nat) (z : Int) : Tree.but [2] 0 (roundT PR (muE t) [15, 29] (fun _ => none) 10 muK muK muK muC (muI t p w len cap (z, o))) = muR t p w len (muI t p w len cap) z o := by kernel_rfl

def multG (t : MO) (p : Th) (w : W6) : Nat → Th → Th
  | 0, o => o
  | k + 1, o => multG t p w k (bif w.bit k then t.ad (t.dbl o) p else t.dbl o)
def multW (p : Th) (w : W6) (len : Nat) : Th := multG moO p w (64 * len) (noneT p.one)

theorem mu_law (t : MO) (p : Th) (w : W6) (len : Nat) (hlen : len ≤ 6) (rt : XS → Tree (AExit × XS)) (I : Int × Th → XS) (hr : ∀ (z : Int) (o : Th), Tree.but [2] 0 (rt (I (z, o))) = muR t p w len I z o)
    {R : Th} {Q : AExit → XS → Prop} (hK : Q .normal (I (-1, R))) :
    ∀ d : Int × Th, (-1 ≤ d.1 ∧ d.1 < 64 * (len : Int) ∧ multG t p w (d.1 + 1).toNat d.2 = R) → (rt (I d)).holds (fun r => match r.1 with
      | .normal => ∃ j : Int × Th, (-1 ≤ j.1 ∧ j.1 < 64 * (len : Int) ∧ multG t p w (j.1 + 1).toNat j.2 = R) ∧ (j.1 + 1).toNat < (d.1 + 1).toNat ∧ r.2 = I j
      | .exit q => if q = 0 then Q .normal r.2 else Q (.exit q) r.2
      | .ret => Q .ret r.2) := by
  rintro ⟨z, o⟩ ⟨h0, h1, h2⟩
  simp only at h0 h1
  apply Tree.holds_but (l := [2]) (i := 0)
  rw [hr]
  unfold muR
  refine ⟨fun hz => ?_, fun hz => ?_⟩
  · have hz : 0 ≤ z := by simpa using hz
    have hq := quo64_eq (z := z) hz (by omega)
    have hm : Int.tmod z 64 = z % 64 := Int.tmod_eq_emod_of_nonneg hz
    have hw : IntKind.i64.wrap (z - 1) = z - 1 := wrap_id (by omega) (by omega)
    have hc : muCond z len = true := by
      unfold muCond
      rw [hq, hm]
      simp
      omega
    have hk : (z + 1).toNat = z.toNat + 1 := by omega
    have hg : (((w.get (0 + (quo64 z).toNat * 1) >>> Nat.min (Int.tmod z 64).toNat 64) &&& bitW true) == bitW true) = w.bit z.toNat := by
      have e1 : 0 + (quo64 z).toNat * 1 = z.toNat / 64 := by rw [hq]; omega
      have e2 : Nat.min (Int.tmod z 64).toNat 64 = z.toNat % 64 := by rw [hm]; show min _ _ = _; omega
      rw [e1, e2]
      rfl
    rw [hg]
    simp only at h2
    rw [hk] at h2
    simp only [multG] at h2
    have hk' : (z - 1 + 1).toNat = z.toNat := by omega
    refine ⟨fun hb => ⟨hc, ⟨z - 1, t.ad (t.dbl o) p⟩, ⟨by simp only; omega, by simp only; omega, ?_⟩, ?_, ?_⟩, fun hb => ⟨hc, ⟨z - 1, t.dbl o⟩, ⟨by simp only; omega, by simp only; omega, ?_⟩, ?_, ?_⟩⟩
    · rw [hb] at h2
      simp only [hk']
      exact h2
    · show (z - 1 + 1).toNat < (z + 1).toNat
      omega
    · rw [hw]
    · rw [hb] at h2
      simp only [hk']
      exact h2
    · show (z - 1 + 1).toNat < (z + 1).toNat
      omega
    · rw [hw]
  · have hz : z = -1 := by
      have : ¬ 0 ≤ z := by simpa using hz
      omega
    subst hz
    have h2 : o = R := h2
    show (if (0 : Nat) = 0 then Q .normal (I (-1, o)) else Q (.exit 0) (I (-1, o)))
    rw [if_pos rfl, h2]
    exact hK

@[irreducible] noncomputable def muB (t : MO) (p : Th) (w : W6) (len cap : Nat) (r : Th) : BEnt := ⟨muK.tm, muK.ids, muK.n, muX t p w len cap, .leaf (.normal, muI t p w len cap (-1, r))⟩
theorem muB_n (t : MO) (p : Th) (w : W6) (len cap : Nat) (r : Th) : (muB t p w len cap r).n = 13 ∧ (muB t p w len cap r).pre = muX t p w len cap ∧ (muB t p w len cap r).post = .leaf (.normal, muI t p w len cap (-1, r)) := by
  unfold muB
  exact ⟨rfl, rfl, rfl⟩
def afunT (P : Program) (E : Env) (sym : List Tmp) (tab : BTab) (lf f : Nat) (args : List AV) (h : AH) (n : Nat) : Tree AV := (afun P E sym tab lf f args h n).bind fun q => .leaf q.1
theorem givesT {P : Program} {E : Env} {sym : List Tmp} {tab : BTab} {lf f : Nat} {args : List AV} {h : AH} {n : Nat} {u : Tree AV} {v : Value} (e : (afunT P E sym tab lf f args h n).strict = u) (hu : u.holds (fun q => flat q = some v)) :
    GivesH (afun P E sym tab lf f args h n) v := ⟨Tree.holds_bind (Tree.holds_strict (by rw [show ((afun P E sym tab lf f args h n).bind fun q => Tree.leaf q.1).strict = u from e]; exact hu))⟩
set_option maxRecDepth 100000 in
theorem mu_run (t : MO) (p : Th) (w : W6) (len cap : Nat) (r : Th) : (afunT PR (muE t) [15, 29] (tabOf [(0, muB t p w len cap r)]) 10 112 [cTh.agg.enc p, .slc 0 0 len cap] (oneAH c6 24 w) 1).strict =
    .same (muX t p w len cap) (muX t p w len cap) (.leaf (cTh.agg.enc r)) := by kernel_rfl
set_option maxRecDepth 100000 in
theorem mu_head (t : MO) (p : Th) (w : W6) (len cap : Nat) : muX t p w len cap = muI t p w len cap (IntKind.i64.wrap (IntKind.i64.wrap (64 * (len : Int)) - 1), noneT p.one) := by kernel_rfl
theorem mu_blk : blkAll 0 (bodyOf PR 112) = [.loop muC] := by kernel_rfl
theorem mu_codeOk : codeOk (muE moO) muC = true := by kernel_rfl

theorem mu_start (p : Th) (w : W6) (len : Nat) (hlen : len ≤ 6) : ∀ d : Int × Th, d = (IntKind.i64.wrap (IntKind.i64.wrap (64 * (len : Int)) - 1), noneT p.one) → -1 ≤ d.1 ∧ d.1 < 64 * (len : Int) ∧ multG moO p w (d.1 + 1).toNat d.2 = multW p w len := by
  rintro d rfl
  have e1 : IntKind.i64.wrap (64 * (len : Int)) = 64 * (len : Int) := wrap_id (by omega) (by omega)
  have e2 : IntKind.i64.wrap (64 * (len : Int) - 1) = 64 * (len : Int) - 1 := wrap_id (by omega) (by omega)
  rw [e1, e2]
  refine ⟨by simp only; omega, by simp only; omega, ?_⟩
  show multG moO p w (64 * (len : Int) - 1 + 1).toNat (noneT p.one) = multG moO p w (64 * len) (noneT p.one)
  rw [show (64 * (len : Int) - 1 + 1).toNat = 64 * len by omega]

theorem mu_loop (p : Th) (w : W6) (len cap : Nat) (hlen : len ≤ 6) {Fr0 : Fr} {ds : List Deferred} {Q : AExit → XS → Prop} (hK : Q .normal (muI moO p w len cap (-1, multW p w len))) :
    Tri PR Fr0 ds 1 (.block 0 (.loop muC)) (muX moO p w len cap) Q :=
  Eq.subst (motive := fun y => Tri PR Fr0 ds 1 (.block 0 (.loop muC)) y Q) (mu_head moO p w len cap).symm <| blockLoop (m := 1) muE_ok mixed (sym := [15, 29]) (tab := fun _ => none) (lf := 10) (k := muK) (kx := muK) (kr := muK) (by decide) (by decide) (by decide) mu_codeOk (tabOk_none _)
    (muI moO p w len cap) (fun d => -1 ≤ d.1 ∧ d.1 < 64 * (len : Int) ∧ multG moO p w (d.1 + 1).toNat d.2 = multW p w len) (fun d => (d.1 + 1).toNat) _ (mu_start p w len hlen _ rfl)
    (mu_law moO p w len hlen _ (muI moO p w len cap) (fun z o => mu_round moO p o w len cap z) hK)
set_option maxRecDepth 100000
def le6 (n : Nat) : Bool := Nat.ble n 6
theorem mu_okH : HeapOk PR 112 (slv 24 cTh.agg c6 cTh.agg le6 multW) :=
  slv_ok (E := muE moO) (sym := [15, 29]) (lf := 10) (tab := fun p w len cap => tabOf [(0, muB moO p w len cap (multW p w len))]) muE_ok mixed (fn := Tryz.f112) (c := bodyOf PR 112) (by kernel_rfl) (by kernel_rfl) (by kernel_rfl)
    (fun p w len cap hk => tabOk_one (by rw [(muB_n moO p w len cap (multW p w len)).1]; decide) mu_blk fun Fr0 ds Q h => by
      obtain ⟨-, h2, h3⟩ := muB_n moO p w len cap (multW p w len)
      rw [h3] at h
      rw [h2]
      exact mu_loop p w len cap (Nat.le_of_ble_eq_true hk) h)
    (fun p w len cap _ => givesT (mu_run moO p w len cap (multW p w len)) ⟨rfl, cTh.agg.h1 _⟩)
theorem mu_ent : Enters PR 112 := enters_of (fn := Tryz.f112) (by kernel_rfl) (by kernel_rfl) (by kernel_rfl)
end Go.Rq

/- The reference's multiples of a point by a number: contracts; the law's own function. -/
namespace Go.Rq
open Go Go.Proofs

/-! A number's words, without noughts at the end. -/
def wdK (ln : W6 → Int) (n : W6) : Int := quo64 (IntKind.i64.wrap (ln n + 63))
def wdL (ln : W6 → Int) (n : W6) : Nat := (wdK ln n).toNat - 0
def wdCond (k : Int) : Bool := (decide (0 ≤ k ∧ k ≤ ((6 : Nat) : Int)) && decide ((0 : Int) ≤ 0 ∧ (0 : Int) ≤ k)) && true
def wdT (ln : W6 → Int) : PureTab := [(167, fn1 c6.agg (kInt .i64) ln)]
theorem words_run (ln : W6 → Int) (n : W6) : Tree.but [2] 0 (afunS PR (envOf eqsT (wdT ln)) [] 40 156 24 [c6.agg.enc n]) =
    .need (wdCond (wdK ln n)) (.leaf (.tup [.slc 0 0 (wdL ln n) 6, .agg (c6.enc n)])) := by kernel_rfl
theorem words_ctx : Ctx PR (envOf eqsT (wdT rlenI)) [] (fun _ => none) 40 156 :=
  ctx_of (envOf_ok eqsT_ok (TabPOk.cons rlen_ok TabPOk.nil)) mixed (fn := Tryz.f156) (by kernel_rfl) (by kernel_rfl) (by kernel_rfl) (tabOk_none _)
theorem wdK_eq (n : W6) : wdK rlenI n = (rlenI n + 63) / 64 := by
  have h := rlenI_le n
  unfold wdK quo64
  rw [wrap_id (n := rlenI n + 63) (by omega) (by omega), Int.tdiv_eq_ediv_of_nonneg (by omega), wrap_id (by omega) (by omega)]
theorem wdL_eq (n : W6) : wdL rlenI n = (rlenI n).toNat / 64 + (if (rlenI n).toNat % 64 = 0 then 0 else 1) := by
  have h := rlenI_le n
  unfold wdL
  rw [wdK_eq]
  split <;> omega
theorem wdL_le (n : W6) : wdL rlenI n ≤ 6 ∧ (rlenI n).toNat ≤ 64 * wdL rlenI n := by
  have h := rlenI_le n
  unfold wdL
  rw [wdK_eq]
  omega
theorem words_okL : LayOk PR 156 (layS c6.agg 24 c6 (wdL rlenI) 6 (fun n => n)) :=
  layS_ok words_ctx fun n => Tree.holds_but (l := [2]) (i := 0) (by
    rw [words_run]
    refine ⟨?_, rfl⟩
    have h := rlenI_le n
    unfold wdCond
    rw [wdK_eq]
    simp
    omega)
theorem words_ent : Enters PR 156 := enters_of (fn := Tryz.f156) (by kernel_rfl) (by kernel_rfl) (by kernel_rfl)

/-! A point by words. -/
def thOf (p : Ap W6) : Th := ⟨⟨p.x, zeroW⟩, ⟨p.y, zeroW⟩, ⟨numOne, zeroW⟩, true⟩
def maT (tw : Th → D6 × D6 × Bool) : PureTab := [(113, fn1 cTh.agg kT3 tw)]
noncomputable def maE (tw : Th → D6 × D6 × Bool) (ok : Nat → Bool) (mu : Th → W6 → Nat → Th) : Env := envL eqsT (maT tw) [(112, slv 24 cTh.agg c6 cTh.agg ok mu)] [] false
set_option maxRecDepth 100000 in
theorem many_run (tw : Th → D6 × D6 × Bool) (ok : Nat → Bool) (mu : Th → W6 → Nat → Th) (p : Ap W6) (w : W6) (len cap : Nat) : Tree.but [3] 0 (afunT PR (maE tw ok mu) [10, 33] (fun _ => none) 40 81 [aW.agg.enc p, .slc 0 0 len cap] (oneAH c6 24 w) 1) =
    .br p.zero (.leaf (aW.agg.enc p)) (.need (ok len && true) (.br (!(tw (mu (thOf p) w len)).2.2) (.leaf (apA ⟨zeroW, zeroW, true⟩ true)) (.leaf (apA ⟨(tw (mu (thOf p) w len)).1.a, (tw (mu (thOf p) w len)).2.1.a, false⟩ false)))) := by kernel_rfl
def manyG (tw : Th → D6 × D6 × Bool) (mu : Th → W6 → Nat → Th) (p : Ap W6) (w : W6) (len : Nat) : Ap W6 :=
  bif p.zero then p else bif !(tw (mu (thOf p) w len)).2.2 then ⟨zeroW, zeroW, true⟩ else ⟨(tw (mu (thOf p) w len)).1.a, (tw (mu (thOf p) w len)).2.1.a, false⟩
theorem givesU {P : Program} {E : Env} {sym : List Tmp} {tab : BTab} {lf f : Nat} {args : List AV} {h : AH} {n : Nat} {l : List Nat} {u : Tree AV} {v : Value} (e : Tree.but l 0 (afunT P E sym tab lf f args h n) = u) (hu : u.holds (fun q => flat q = some v)) :
    GivesH (afun P E sym tab lf f args h n) v := ⟨Tree.holds_bind (Tree.holds_but (l := l) (i := 0) (by rw [show Tree.but l 0 ((afun P E sym tab lf f args h n).bind fun q => Tree.leaf q.1) = u from e]; exact hu))⟩
theorem many_gives (tw : Th → D6 × D6 × Bool) (ok : Nat → Bool) (mu : Th → W6 → Nat → Th) (p : Ap W6) (w : W6) (len cap : Nat) (hk : ok len = true) :
    GivesH (afun PR (maE tw ok mu) [10, 33] (fun _ => none) 40 81 [aW.agg.enc p, .slc 0 0 len cap] (oneAH c6 24 w) 1) (aW.agg.val (manyG tw mu p w len)) :=
  givesU (many_run tw ok mu p w len cap) (holds_br (B := aW.agg) (holds_leaf (aW.agg.h1 _)) ⟨by rw [hk]; rfl, holds_br (B := aW.agg) (holds_leaf (apA_flat _ _ rfl)) (holds_leaf (apA_flat _ _ rfl))⟩)
theorem maE_ok : EnvOk PR (maE twW le6 multW) := envL_ok eqsT_ok (TabPOk.cons two_ok TabPOk.nil) (TabHOk.cons mu_ent mu_okH TabHOk.nil) TabLOk.nil
def manyW : Ap W6 → W6 → Nat → Ap W6 := manyG twW multW
theorem many_okH : HeapOk PR 81 (slv 24 aW.agg c6 aW.agg le6 manyW) :=
  slv_ok (E := maE twW le6 multW) (sym := [10, 33]) (lf := 40) (tab := fun _ _ _ _ => fun _ => none) maE_ok mixed (fn := Tryz.f81) (c := bodyOf PR 81) (by kernel_rfl) (by kernel_rfl) (by kernel_rfl)
    (fun _ _ _ _ _ => tabOk_none _) (fun p w len cap hk => many_gives twW le6 multW p w len cap hk)
theorem many_ent : Enters PR 81 := enters_of (fn := Tryz.f81) (by kernel_rfl) (by kernel_rfl) (by kernel_rfl)

/-! A point by a number. -/
noncomputable def mlE (ok : Nat → Bool) (ma : Ap W6 → W6 → Nat → Ap W6) (L : W6 → Nat) : Env :=
  envL eqsT [] [(81, slv 24 aW.agg c6 aW.agg ok ma)] [(156, layS c6.agg 24 c6 L 6 (fun n => n))] false
theorem mul1_run (ok : Nat → Bool) (ma : Ap W6 → W6 → Nat → Ap W6) (L : W6 → Nat) (p : Ap W6) (n : W6) : Tree.but [1] 0 (afunR PR (mlE ok ma L) [] (fun _ => none) 40 122 [aW.agg.enc p, c6.agg.enc n]) =
    .need (ok (L n) && true) (.leaf (aW.agg.enc (ma p n (L n)))) := by kernel_rfl
theorem mlE_ok : EnvOk PR (mlE le6 manyW (wdL rlenI)) := envL_ok eqsT_ok TabPOk.nil (TabHOk.cons many_ent many_okH TabHOk.nil) (TabLOk.cons words_ent words_okL TabLOk.nil)
theorem mul1_ctx : Ctx PR (mlE le6 manyW (wdL rlenI)) [] (fun _ => none) 40 122 :=
  ctx_of mlE_ok mixed (fn := Tryz.f122) (by kernel_rfl) (by kernel_rfl) (by kernel_rfl) (tabOk_none _)
theorem givesB {t u : Tree AV} {v : Value} {l : List Nat} (e : Tree.but l 0 t = u) (hu : u.holds (fun q => flat q = some v)) : Gives t v := ⟨Tree.holds_but (l := l) (i := 0) (by rw [e]; exact hu)⟩
theorem mul1_gives (ok : Nat → Bool) (ma : Ap W6 → W6 → Nat → Ap W6) (L : W6 → Nat) (p : Ap W6) (n : W6) (h : ok (L n) = true) : Gives (afunR PR (mlE ok ma L) [] (fun _ => none) 40 122 [aW.agg.enc p, c6.agg.enc n]) (aW.agg.val (ma p n (L n))) :=
  givesB (mul1_run ok ma L p n) ⟨by rw [h]; rfl, aW.agg.h1 _⟩
def rmul1 (p : Ap W6) (n : W6) : Ap W6 := manyW p n (wdL rlenI n)
theorem rmul1_ok : CallOk PR 122 (fn2 aW.agg c6.agg aW.agg rmul1) :=
  .inl ⟨enters_of (fn := Tryz.f122) (by kernel_rfl) (by kernel_rfl) (by kernel_rfl), pure2 mul1_ctx (fun p n => mul1_gives le6 manyW (wdL rlenI) p n (Nat.ble_eq_true_of_le (wdL_le n).1))⟩

/-! Is it of the group? -/
def rinT1 (ck : Ap W6 → Bool) (od : W6) (ml : Ap W6 → W6 → Ap W6) : PureTab := [(20, fn1 aW.agg kBool ck), (106, fn0 c6.agg od), (122, fn2 aW.agg c6.agg aW.agg ml)]
theorem rin1_run (ck : Ap W6 → Bool) (od : W6) (ml : Ap W6 → W6 → Ap W6) (p : Ap W6) : (afunR PR (envOf eqsT (rinT1 ck od ml)) [5] (fun _ => none) 40 75 [aW.agg.enc p]).strict =
    .br (ck p) (.leaf (kBool.enc (ml p od).zero)) (.leaf (.lit false)) := by kernel_rfl
def rin1G (ck : Ap W6 → Bool) (od : W6) (ml : Ap W6 → W6 → Ap W6) (p : Ap W6) : Bool := bif ck p then (ml p od).zero else false
theorem rin1_gives (ck : Ap W6 → Bool) (od : W6) (ml : Ap W6 → W6 → Ap W6) (p : Ap W6) : Gives (afunR PR (envOf eqsT (rinT1 ck od ml)) [5] (fun _ => none) 40 75 [aW.agg.enc p]) (kBool.val (rin1G ck od ml p)) :=
  givesOf (rin1_run ck od ml p) (holds_br (B := kBool) (holds_leaf (kBool.h1 _)) (holds_leaf (a := .lit false) (v := kBool.val false) rfl))
def rin1 : Ap W6 → Bool := rin1G rcheck1 orderW rmul1
theorem rin1_ctx : Ctx PR (envOf eqsT (rinT1 rcheck1 orderW rmul1)) [5] (fun _ => none) 40 75 :=
  ctx_of (envOf_ok eqsT_ok (TabPOk.cons rck_ok (TabPOk.cons rorder_ok (TabPOk.cons rmul1_ok TabPOk.nil)))) mixed (fn := Tryz.f75) (by kernel_rfl) (by kernel_rfl) (by kernel_rfl) (tabOk_none _)
theorem rin1_ok : CallOk PR 75 (fn1 aW.agg kBool rin1) :=
  .inl ⟨enters_of (fn := Tryz.f75) (by kernel_rfl) (by kernel_rfl) (by kernel_rfl), pure1 rin1_ctx (fun p => rin1_gives rcheck1 orderW rmul1 p)⟩

/-! Is what is told the wanted one? -/
def fn4 {α γ δ ε β : Type} (A : Cod α) (C : Cod γ) (D : Cod δ) (E : Cod ε) (B : Cod β) (F : α → γ → δ → ε → β) : List AV → Option (Bool × AV)
  | [a, c, d, e] => match A.dec a, C.dec c, D.dec d, E.dec e with
    | some x, some y, some z, some u => some (true, B.enc (F x y z u))
    | _, _, _, _ => none
  | _ => none
theorem pure4 {P : Program} {E : Env} {sym : List Tmp} {tab : BTab} {lf f : Nat} {α β γ δ ε : Type} {A : Cod α} {B : Cod β} {C : Cod γ} {D : Cod δ} {D' : Cod ε} (X : Ctx P E sym tab lf f) {F : α → γ → δ → ε → β}
    (h : ∀ x y z u, Gives (afunR P E sym tab lf f [A.enc x, C.enc y, D.enc z, D'.enc u]) (B.val (F x y z u))) : PureOk P f (fn4 A C D D' B F) := by
  refine pure_core X fun args r hg => ?_
  unfold fn4 at hg
  split at hg
  · rename_i a c d e
    split at hg
    · rename_i x y z u hx hy hz hu
      simp at hg; subst hg
      refine ⟨[A.enc x, C.enc y, D.enc z, D'.enc u], [A.val x, C.val y, D.val z, D'.val u], fun ρ xs hxs => ?_, by simp [flatL, A.h1, C.h1, D.h1, D'.h1], _, B.h1 _, (h x y z u).out⟩
      obtain ⟨v0, y0, rfl, h0, r0⟩ := hxs.uncons
      obtain ⟨v1, y1, rfl, h1, r1⟩ := r0.uncons
      obtain ⟨v2, y2, rfl, h2, r2⟩ := r1.uncons
      obtain ⟨v3, y3, rfl, h3, r3⟩ := r2.uncons
      rw [r3.unnil, A.h2 ρ _ _ _ hx h0, C.h2 ρ _ _ _ hy h1, D.h2 ρ _ _ _ hz h2, D'.h2 ρ _ _ _ hu h3]
    · cases hg
  · cases hg
def noneP : Ap W6 := ⟨zeroW, zeroW, false⟩
def oneG (p : Ap W6) (e : Int) (f : Bool) (w : Ap W6) : Bool := bif !f then (bif eqP13 p noneP then e == 5 else false) else (bif eqP13 p w then e == 0 else false)
end Go.Rq

/- The reference's formulas over a field; multiples by the program and by the reference. -/
namespace Go.Rq
open Go Go.Proofs

/-! Points of three elements, by the reference. -/
section
variable {K : Type} [Rg K] {iv : K → K} {e : K → K → Bool}

/-- The reference's operations go like a field's. -/
structure TRel (S : K → D6 → Prop) (o : Bool) (e : K → K → Bool) (t : TH) : Prop where
  mu : ∀ {p : Th} {x y : K} {a b : D6}, p.one = o → S x a → S y b → S (x * y) (t.mu p a b)
  tm : ∀ {x : K} {a : D6} (s : Sm), S x a → S (tmK x s.n) (t.tm a s)
  sb : ∀ {x y : K} {a b : D6}, S x a → S y b → S (x - y) (t.sb a b)
  zero : S 0 zeroD
  eq : ∀ {x y : K} {a b : D6}, S x a → S y b → e x y = eqD a b

structure TJ (S : K → D6 → Prop) (o : Bool) (p : Jp K) (q : Th) : Prop where
  x : S p.x q.x
  y : S p.y q.y
  z : S p.z q.z
  one : q.one = o

variable {S : K → D6 → Prop} {o : Bool} {t : TH}

theorem noneT_rel (h : TRel S o e t) {b : Bool} (hq : b = o) : TJ S o noneJ (noneT b) := ⟨h.zero, h.zero, h.zero, hq⟩

theorem dblF_rel (h : TRel S o e t) {p : Jp K} {q : Th} (hp : TJ S o p q) : TJ S o (dblF p) (dblP t q) := by
  have yy := h.mu hp.one hp.y hp.y
  have s := h.tm .n4 (h.mu hp.one hp.x yy)
  have m := h.tm .n3 (h.mu hp.one hp.x hp.x)
  have x := h.sb (h.mu hp.one m m) (h.tm .n2 s)
  exact ⟨x, h.sb (h.mu hp.one m (h.sb s x)) (h.tm .n8 (h.mu hp.one yy yy)), h.tm .n2 (h.mu hp.one hp.y hp.z), hp.one⟩

theorem dbl_rel (h : TRel S o e t) {p : Jp K} {q : Th} (hp : TJ S o p q) : TJ S o (dblK e p) (dblG t q) := by
  unfold dblK dblG
  rw [h.eq hp.z h.zero, h.eq hp.y h.zero]
  cases eqD q.z zeroD
  · cases eqD q.y zeroD
    · exact dblF_rel h hp
    · exact noneT_rel h hp.one
  · exact noneT_rel h hp.one

theorem hK_rel (h : TRel S o e t) {p u : Jp K} {q v : Th} (hp : TJ S o p q) (hu : TJ S o u v) : S (hK p u) (tAddH t q v) := h.sb (h.mu hp.one hu.x (h.mu hp.one hp.z hp.z)) hp.x
theorem kK_rel (h : TRel S o e t) {p u : Jp K} {q v : Th} (hp : TJ S o p q) (hu : TJ S o u v) : S (kK p u) (tAddK t q v) := h.sb (h.mu hp.one hu.y (h.mu hp.one (h.mu hp.one hp.z hp.z) hp.z)) hp.y

theorem addF_rel (h : TRel S o e t) {p u : Jp K} {q v : Th} (hp : TJ S o p q) (hu : TJ S o u v) (D : Th → Th) : TJ S o (addF p u) (addP t D q v) := by
  have hh := hK_rel h hp hu
  have k := kK_rel h hp hu
  have h2 := h.mu hp.one hh hh
  have h3 := h.mu hp.one h2 hh
  have w := h.mu hp.one hp.x h2
  have x := h.sb (h.sb (h.mu hp.one k k) h3) (h.tm .n2 w)
  exact ⟨x, h.sb (h.mu hp.one k (h.sb w x)) (h.mu hp.one hp.y h3), h.mu hp.one hp.z hh, hp.one⟩

theorem add_rel (h : TRel S o e t) {p u : Jp K} {q v : Th} (hp : TJ S o p q) (hu : TJ S o u v) : TJ S o (addK e p u) (addG t (dblG t) q v) := by
  unfold addK addG
  rw [h.eq hp.z h.zero, h.eq (hK_rel h hp hu) h.zero, h.eq (kK_rel h hp hu) h.zero]
  cases eqD q.z zeroD
  · cases eqD (tAddH t q v) zeroD
    · exact addF_rel h hp hu (dblG t)
    · cases eqD (tAddK t q v) zeroD
      · exact noneT_rel h hp.one
      · exact dbl_rel h hp
  · exact hu

theorem mult_rel (h : TRel S o e t) {p : Jp K} {q : Th} (hp : TJ S o p q) (w : W6) : ∀ (k : Nat) {u : Jp K} {v : Th}, TJ S o u v → TJ S o (multK e w.bit p k u) (multG ⟨dblG t, addG t (dblG t)⟩ q w k v)
  | 0, u, v, hu => hu
  | k + 1, u, v, hu => by
    simp only [multK, multG]
    apply mult_rel h hp w k
    cases w.bit k
    · exact dbl_rel h hu
    · exact add_rel h (dbl_rel h hu) hp

/-- The two elements. -/
theorem two_rel (h : TRel S o e t) {r : RO} {i2 : D6 → D6} (hi : ∀ {x : K} {a : D6}, S x a → S (iv x) (bif o then ⟨r.iv r.fp a.a, zeroW⟩ else i2 a)) {p : Jp K} {q : Th} (hp : TJ S o p q) :
    (twG r i2 t.mu q).2.2 = !(lowK iv e p).zero ∧ S (lowK iv e p).x (twG r i2 t.mu q).1 ∧ S (lowK iv e p).y (twG r i2 t.mu q).2.1 := by
  have low : ∀ {d : D6}, S (iv p.z) d → S (p.x * (iv p.z * iv p.z)) (twP t.mu q d).1 ∧ S (p.y * ((iv p.z * iv p.z) * iv p.z)) (twP t.mu q d).2.1 := fun {d} hd =>
    ⟨h.mu hp.one hp.x (h.mu hp.one hd hd), h.mu hp.one hp.y (h.mu hp.one (h.mu hp.one hd hd) hd)⟩
  unfold twG lowK
  rw [h.eq hp.z h.zero]
  cases eqD q.z zeroD
  · have hz := hi hp.z
    rw [hp.one]
    cases ho : o
    · rw [ho, cond_false] at hz
      exact ⟨rfl, low hz⟩
    · rw [ho, cond_true] at hz
      exact ⟨rfl, low hz⟩
  · exact ⟨rfl, h.zero, h.zero⟩
end

/-! Bits and lengths. -/
theorem bit_out (n : W6) {i : Nat} (h : 384 ≤ i) : n.bit i = false := by
  unfold W6.bit
  have : n.get (i / 64) = 0#64 := by
    unfold W6.get
    rw [List.getD_eq_getElem?_getD, List.getElem?_eq_none (by simp; omega)]
    rfl
  rw [this, BitVec.zero_ushiftRight]
  rfl

theorem bitI_bit (n : W6) (i : Nat) : (bitI n (i : Int) == 1) = n.bit i := by
  unfold bitI
  rw [show decide ((i : Int) < 0) = false from decide_eq_false (by omega)]
  by_cases h : 384 ≤ i
  · rw [show decide ((i : Int) ≥ 384) = true from decide_eq_true (by omega), bit_out n h]; rfl
  · rw [show decide ((i : Int) ≥ 384) = false from decide_eq_false (by omega)]
    rw [show ((i : Int)).toNat = i from rfl]
    cases n.bit i <;> rfl

theorem rlenL_zero (B : W6 → Int → Int) (n : W6) : ∀ (k i : Nat), i < k → chainV (rlenL B n k) 0 ≤ (i : Int) → (B n (i : Int) == 1) = false
  | 0, i, h, _ => by omega
  | k + 1, i, h, hc => by
    simp only [rlenL, chainV] at hc
    cases hb : B n (k : Int) == 1 with
    | true =>
      rw [hb, cond_true] at hc
      omega
    | false =>
      rw [hb, cond_false] at hc
      by_cases he : i = k
      · subst he; exact hb
      · exact rlenL_zero B n k i (by omega) hc

theorem rlen_bits (n : W6) {i : Nat} (h : (rlenI n).toNat ≤ i) : n.bit i = false := by
  by_cases hi : 384 ≤ i
  · exact bit_out n hi
  · rw [← bitI_bit]
    refine rlenL_zero bitI n 384 i (by omega) ?_
    have := (rlenI_le n).1
    show rlenI n ≤ (i : Int)
    omega

theorem word_bit (w : BitVec 64) {j : Nat} (h : w.toNat < 2 ^ j) : (((w >>> j) &&& 1#64) == 1#64) = false := by
  have : w >>> j = 0#64 := by
    apply BitVec.eq_of_toNat_eq
    rw [BitVec.toNat_ushiftRight, Nat.shiftRight_eq_div_pow, Nat.div_eq_of_lt h]
    rfl
  rw [this]
  rfl

theorem bl_bits {w : BitVec 64} {j : Nat} (h : bl w.toNat ≤ j) : (((w >>> j) &&& 1#64) == 1#64) = false := word_bit w (bl_spec.1 h)

theorem bl_le (x : BitVec 64) : bl x.toNat ≤ 64 := bl_spec.2 x.isLt

theorem len_step {w : BitVec 64} {k : Int} {l : List (Bool × Int)} {i : Nat} (h0 : 0 ≤ k) (h1 : k ≤ 320) (h : chainV ((w != 0#64, IntKind.i64.wrap (k + ((bl w.toNat : Nat) : Int))) :: l) 0 ≤ (i : Int)) :
    k + ((bl w.toNat : Nat) : Int) ≤ (i : Int) ∨ (w = 0#64 ∧ chainV l 0 ≤ (i : Int)) := by
  have hb := bl_le w
  simp only [chainV] at h
  cases hc : w != 0#64 with
  | true =>
    rw [hc, cond_true, wrap_id (by omega) (by omega)] at h
    exact .inl h
  | false =>
    rw [hc, cond_false] at h
    exact .inr ⟨by simpa using hc, h⟩

theorem len_bits (n : W6) {i : Nat} (h : (lenI n).toNat ≤ i) : n.bit i = false := by
  by_cases hi : 384 ≤ i
  · exact bit_out n hi
  have h0 := (lenI_le n).1
  have h' : lenI n ≤ (i : Int) := by omega
  have z : ∀ j, (((0#64 >>> j) &&& 1#64) == 1#64) = false := fun j => word_bit 0#64 (by simp; exact Nat.two_pow_pos j)
  have hcases : i / 64 = 0 ∨ i / 64 = 1 ∨ i / 64 = 2 ∨ i / 64 = 3 ∨ i / 64 = 4 ∨ i / 64 = 5 := by omega
  have gb : ∀ {w : BitVec 64} {k : Nat}, n.get (i / 64) = w → i / 64 = k → 64 * (k : Int) + ((bl w.toNat : Nat) : Int) ≤ (i : Int) → n.bit i = false := fun {w k} hw hk hl => by
    unfold W6.bit
    rw [hw]
    exact bl_bits (by omega)
  have gz : n.get (i / 64) = 0#64 → n.bit i = false := fun hw => by
    unfold W6.bit
    rw [hw]
    exact z _
  have b0 := bl_le n.w0; have b1 := bl_le n.w1; have b2 := bl_le n.w2; have b3 := bl_le n.w3; have b4 := bl_le n.w4; have b5 := bl_le n.w5
  have up : ∀ {m : Nat} {x : Nat}, i / 64 < m → (64 * m + x : Int) ≤ (i : Int) → False := fun {m x} h1 h2 => by omega
  unfold lenI lenL at h'
  rcases len_step (by omega) (by omega) h' with h5 | ⟨z5, h'⟩
  · rcases hcases with c | c | c | c | c | c
    · exact (up (m := 5) (by omega) h5).elim
    · exact (up (m := 5) (by omega) h5).elim
    · exact (up (m := 5) (by omega) h5).elim
    · exact (up (m := 5) (by omega) h5).elim
    · exact (up (m := 5) (by omega) h5).elim
    · exact gb (by rw [c]; rfl) c h5
  rcases len_step (by omega) (by omega) h' with h4 | ⟨z4, h'⟩
  · rcases hcases with c | c | c | c | c | c
    · exact (up (m := 4) (by omega) h4).elim
    · exact (up (m := 4) (by omega) h4).elim
    · exact (up (m := 4) (by omega) h4).elim
    · exact (up (m := 4) (by omega) h4).elim
    · exact gb (by rw [c]; rfl) c h4
    · exact gz (by rw [c]; exact z5)
  rcases len_step (by omega) (by omega) h' with h3 | ⟨z3, h'⟩
  · rcases hcases with c | c | c | c | c | c
    · exact (up (m := 3) (by omega) h3).elim
    · exact (up (m := 3) (by omega) h3).elim
    · exact (up (m := 3) (by omega) h3).elim
    · exact gb (by rw [c]; rfl) c h3
    · exact gz (by rw [c]; exact z4)
    · exact gz (by rw [c]; exact z5)
  rcases len_step (by omega) (by omega) h' with h2 | ⟨z2, h'⟩
  · rcases hcases with c | c | c | c | c | c
    · exact (up (m := 2) (by omega) h2).elim
    · exact (up (m := 2) (by omega) h2).elim
    · exact gb (by rw [c]; rfl) c h2
    · exact gz (by rw [c]; exact z3)
    · exact gz (by rw [c]; exact z4)
    · exact gz (by rw [c]; exact z5)
  rcases len_step (by omega) (by omega) h' with h1 | ⟨z1, h'⟩
  · rcases hcases with c | c | c | c | c | c
    · exact (up (m := 1) (by omega) h1).elim
    · exact gb (by rw [c]; rfl) c h1
    · exact gz (by rw [c]; exact z2)
    · exact gz (by rw [c]; exact z3)
    · exact gz (by rw [c]; exact z4)
    · exact gz (by rw [c]; exact z5)
  rcases len_step (by omega) (by omega) h' with h0 | ⟨z0, h'⟩
  · rcases hcases with c | c | c | c | c | c
    · exact gb (by rw [c]; rfl) c h0
    · exact gz (by rw [c]; exact z1)
    · exact gz (by rw [c]; exact z2)
    · exact gz (by rw [c]; exact z3)
    · exact gz (by rw [c]; exact z4)
    · exact gz (by rw [c]; exact z5)
  · rcases hcases with c | c | c | c | c | c
    · exact gz (by rw [c]; exact z0)
    · exact gz (by rw [c]; exact z1)
    · exact gz (by rw [c]; exact z2)
    · exact gz (by rw [c]; exact z3)
    · exact gz (by rw [c]; exact z4)
    · exact gz (by rw [c]; exact z5)

/-! Multiples, by the program. -/
section
variable {K : Type} [Rg K] {iv : K → K} {e : K → K → Bool}

theorem times_run (f : Fl K) (p : Jp K) (n : W6) : ∀ (k : Nat) (u : Jp K), timesG (tOf (foK iv) e) f p n k u = runK iv e f n.bit p k u
  | 0, u => rfl
  | k + 1, u => by
    show timesG (tOf (foK iv) e) f p n k (bif bitI n (k : Int) == 1 then sumE (foK iv) e f (twiceJ (foK iv) u) p else twiceJ (foK iv) u) = _
    rw [bitI_bit, times_run f p n k]
    rfl

def timesF (iv : K → K) (e : K → K → Bool) (f : Fl K) (p : Jp K) (n : W6) : Jp K := timesG (tOf (foK iv) e) f p n (lenI n).toNat ⟨f.one, f.one, 0⟩
def gaF (iv : K → K) (e : K → K → Bool) : GO K := gOf (foK iv) e (timesF iv e)

theorem twice_none {u : Jp K} (hu : u.z = 0) : (twiceJ (foK iv) u).z = 0 := by rw [twice_z, hu]; exact rg [u.y]

theorem run_none (F : Fd K iv e) {f : Fl K} {b : Nat → Bool} {p : Jp K} (hp : p.z = 0) : ∀ (k : Nat) {u : Jp K}, u.z = 0 → (runK iv e f b p k u).z = 0
  | 0, u, hu => hu
  | k + 1, u, hu => by
    simp only [runK]
    apply run_none F hp k
    cases b k
    · exact twice_none hu
    · show (sumE (foK iv) e f (twiceJ (foK iv) u) p).z = 0
      unfold sumE
      rw [show (foK iv).zero = (0 : K) from rfl, F.eq.2 (twice_none hu)]
      exact hp

theorem low_none (F : Fd K iv e) {u : Jp K} (hu : u.z = 0) : lowerE (foK iv) e u = ⟨0, 0, true⟩ := by
  unfold lowerE
  rw [show (foK iv).zero = (0 : K) from rfl, F.eq.2 hu]
  rfl

theorem sum_none (F : Fd K iv e) (f : Fl K) {u v : Jp K} (hu : u.z = 0) : sumE (foK iv) e f u v = v := by
  unfold sumE
  rw [show (foK iv).zero = (0 : K) from rfl, F.eq.2 hu]
  rfl

/-- A multiple by the program is that by the reference. -/
theorem times_low (F : Fd K iv e) {f : Fl K} (hf : f.one = 1) {p : Ap K} (hp : p.zero = true → p = ⟨0, 0, true⟩) (n : W6) {l : Nat} (hl : (rlenI n).toNat ≤ l) :
    lowerE (foK iv) e (timesF iv e f (raiseJ (foK iv) f p) n) = bif p.zero then p else lowK iv e (multK e n.bit ⟨p.x, p.y, 1⟩ l noneJ) := by
  unfold timesF
  rw [times_run]
  cases hz : p.zero with
  | true =>
    have hr : (raiseJ (foK iv) f p).z = 0 := by unfold raiseJ; rw [hz]; rfl
    rw [low_none F (run_none F hr _ rfl), cond_true]
    exact (hp hz).symm
  | false =>
    have hr : raiseJ (foK iv) f p = ⟨p.x, p.y, 1⟩ := by unfold raiseJ; rw [hz, hf]; rfl
    rw [hr, cond_false]
    exact low_eq F (run_mult2 F rfl (fun i hi => len_bits n hi) (fun i hi => rlen_bits n (Nat.le_trans hl hi)) rfl rfl)

theorem ga1_low (F : Fd K iv e) {f : Fl K} (hf : f.one = 1) {p : Ap K} (hp : p.zero = true → p = ⟨0, 0, true⟩) (hon : onE (foK iv) e f p = true) (n : W6) {l : Nat} (hl : (rlenI n).toNat ≤ l) :
    ga1 (gaF iv e) 0 f p n = (bif p.zero then p else lowK iv e (multK e n.bit ⟨p.x, p.y, 1⟩ l noneJ), 0) := by
  have h : ga1 (gaF iv e) 0 f p n = bif onE (foK iv) e f p then (lowerE (foK iv) e (sumE (foK iv) e f ⟨f.one, f.one, 0⟩ (timesF iv e f (raiseJ (foK iv) f p) n)), 0) else (⟨0, 0, false⟩, 5) := rfl
  rw [h, hon, cond_true, sum_none F f rfl, times_low F hf hp n hl]

theorem one_len : (lenI (ofW (bitW true))).toNat = 1 := by decide +kernel
theorem one_bit : (ofW (bitW true)).bit 0 = true := by decide +kernel
theorem times_one (F : Fd K iv e) (f : Fl K) (p : Jp K) : timesF iv e f p (ofW (bitW true)) = p := by
  unfold timesF
  rw [times_run, one_len]
  simp only [runK]
  rw [one_bit, cond_true, sum_none F f (twice_none rfl)]

theorem ga2_low (F : Fd K iv e) {f : Fl K} (hf : f.one = 1) {p q : Ap K} (hp : p.zero = true → p = ⟨0, 0, true⟩) (hq : q.zero = true → q = ⟨0, 0, true⟩) (hon : onE (foK iv) e f p = true) (hoq : onE (foK iv) e f q = true) :
    ga2 (gaF iv e) 0 f (p, q) (ofW (bitW true), ofW (bitW true)) = (sumA iv e p q, 0) := by
  have h : ga2 (gaF iv e) 0 f (p, q) (ofW (bitW true), ofW (bitW true)) = bif onE (foK iv) e f p then (bif onE (foK iv) e f q then (lowerE (foK iv) e (sumE (foK iv) e f (sumE (foK iv) e f ⟨f.one, f.one, 0⟩ (timesF iv e f (raiseJ (foK iv) f p) (ofW (bitW true)))) (timesF iv e f (raiseJ (foK iv) f q) (ofW (bitW true)))), 0) else (⟨0, 0, false⟩, 5)) else (⟨0, 0, false⟩, 5) := rfl
  have eqn : ∀ {p : Ap K}, onE (foK iv) e f p = true → p.zero = false → p.y * p.y = p.x * p.x * p.x + f.b := fun {p} h1 h2 => by
    unfold onE at h1
    rw [h2, cond_false] at h1
    exact F.eq.1 h1
  rw [h, hon, hoq, cond_true, cond_true, times_one F, times_one F, sum_none F f (u := ⟨f.one, f.one, 0⟩) rfl, sum_slope F hf hp hq (eqn hon) (eqn hoq)]
end
end Go.Rq

/- The law CurveFirst, gone through: what is called left open. -/
namespace Go.Rq
open Go Go.Proofs

/-- What the law calls, left open. -/
structure LO (K : Type) where
  ck : Ap K → Bool
  ckP : Ap K → Bool
  ig : Ap K → Bool
  igP : Ap K → Bool
  ge : Ap K
  geP : Ap K
  ne : Ap K → Ap K
  neP : Ap K → Ap K × Int
  ad : Ap K → Ap K → Ap K
  adP : Ap K → Ap K → Ap K × Int
  mu : Ap K → W6 → Ap K
  muP : Ap K → W6 → Ap K × Int
  on : Ap K → Int → Bool → Ap K → Bool
def loFalse : Tree AV := .leaf (.lit false)
def loEnd {K : Type} (t : LO K) (a _b : Ap K) (n : W6) (sum : Bool) : Tree AV :=
  .br (t.on (t.neP a).1 (t.neP a).2 true (t.ne a)) (.br sum (.leaf (kBool.enc (t.on (t.muP a n).1 (t.muP a n).2 true (t.mu a n)))) loFalse) loFalse
def loMain {K : Type} (t : LO K) (a b : Ap K) (n : W6) : Tree AV :=
  .br (!t.ck a)
    (.br (t.on (t.neP a).1 (t.neP a).2 false a) (.br (t.on (t.adP a b).1 (t.adP a b).2 false a) (.leaf (kBool.enc (t.on (t.muP a n).1 (t.muP a n).2 false a))) loFalse) loFalse)
    (.br (t.ck b) (loEnd t a b n (t.on (t.adP a b).1 (t.adP a b).2 true (t.ad a b))) (loEnd t a b n (t.on (t.adP a b).1 (t.adP a b).2 false a)))
def loTree {K : Type} (eqP : Ap K → Ap K → Bool) (t : LO K) (a b : Ap K) (n : W6) : Tree AV :=
  .br (!(t.ckP a == t.ck a)) loFalse
    (.br (t.ck a) (.br (!(t.igP a == t.ig a)) loFalse (.br (!(eqP t.geP t.ge)) loFalse (loMain t a b n)))
      (.br (!(t.igP a == false)) loFalse (.br (!(eqP t.geP t.ge)) loFalse (loMain t a b n))))
/-- What makes the law true. -/
structure LOk {K : Type} (eqP : Ap K → Ap K → Bool) (none : Ap K) (t : LO K) : Prop where
  on : ∀ p e f w, t.on p e f w = bif !f then (bif eqP p none then e == 5 else false) else (bif eqP p w then e == 0 else false)
  refl : ∀ p, eqP p p = true
  ck : ∀ p, t.ckP p = t.ck p
  ig : ∀ p, t.igP p = bif t.ck p then t.ig p else false
  ge : t.geP = t.ge
  ne : ∀ p, t.neP p = bif t.ck p then (t.ne p, 0) else (none, 5)
  ad : ∀ p q, t.adP p q = bif t.ck p then (bif t.ck q then (t.ad p q, 0) else (none, 5)) else (none, 5)
  mu : ∀ p n, t.muP p n = bif t.ck p then (t.mu p n, 0) else (none, 5)

theorem loTree_true {K : Type} {eqP : Ap K → Ap K → Bool} {none : Ap K} {t : LO K} (h : LOk eqP none t) (a b : Ap K) (n : W6) : (loTree eqP t a b n).holds (fun q => flat q = some (.bool true)) := by
  have hmain : (loMain t a b n).holds (fun q => flat q = some (.bool true)) := by
    unfold loMain loEnd loFalse
    rw [h.ne, h.ad, h.mu]
    cases ha : t.ck a <;> cases hb : t.ck b <;> simp [Tree.holds, h.on, h.refl, kBool, flat, scal]
  unfold loTree
  rw [h.ck, h.ig, h.ge, h.refl]
  refine ⟨fun h1 => by simp at h1, fun _ => ⟨fun h2 => ⟨fun h3 => ?_, fun _ => ⟨fun h4 => by simp at h4, fun _ => hmain⟩⟩, fun h2 => ⟨fun h3 => ?_, fun _ => ⟨fun h4 => by simp at h4, fun _ => hmain⟩⟩⟩⟩
  · rw [h2] at h3; simp at h3
  · rw [h2] at h3; simp at h3
end Go.Rq
