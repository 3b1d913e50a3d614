/- The reference's multiples of a point by a number: contracts; the law's own function. -/
import Derived.Test.YtdbcjiggimppdaaRq16
import Derived.Test.YtdbcjiggimppdaaRq14
import Derived.Test.YtdbcjiggimppdaaRq15
import Derived.Test.YtdbcjiggimppdaaRq08
namespace Go.Rq
open Go Go.Proofs

/-! A number's words, without noughts at the end. -/
def wdK (ln : W6 → Int) (n : W6) : Int := quo64 (IntKind.i64.wrap (ln n + 63))
def wdL (ln : W6 → Int) (n : W6) : Nat := (wdK ln n).toNat - 0
def wdCond (k : Int) : Bool := (decide (0 ≤ k ∧ k ≤ ((6 : Nat) : Int)) && decide ((0 : Int) ≤ 0 ∧ (0 : Int) ≤ k)) && true
def wdT (ln : W6 → Int) : PureTab := [(147, fn1 c6.agg (kInt .i64) ln)]
theorem words_run (ln : W6 → Int) (n : W6) : Tree.but [2] 0 (afunS PR (envOf eqsT (wdT ln)) [] 40 98 47 [c6.agg.enc n]) =
    .need (wdCond (wdK ln n)) (.leaf (.tup [.slc 0 0 (wdL ln n) 6, .agg (c6.enc n)])) := by kernel_rfl
theorem words_ctx : Ctx PR (envOf eqsT (wdT rlenI)) [] (fun _ => none) 40 98 :=
  ctx_of (envOf_ok eqsT_ok (TabPOk.cons rlen_ok TabPOk.nil)) mixed (fn := Try.f98) (by kernel_rfl) (by kernel_rfl) (by kernel_rfl) (tabOk_none _)
theorem wdK_eq (n : W6) : wdK rlenI n = (rlenI n + 63) / 64 := by
  have h := rlenI_le n
  unfold wdK quo64
  rw [wrap_id (n := rlenI n + 63) (by omega) (by omega), Int.tdiv_eq_ediv_of_nonneg (by omega), wrap_id (by omega) (by omega)]
theorem wdL_eq (n : W6) : wdL rlenI n = (rlenI n).toNat / 64 + (if (rlenI n).toNat % 64 = 0 then 0 else 1) := by
  have h := rlenI_le n
  unfold wdL
  rw [wdK_eq]
  split <;> omega
theorem wdL_le (n : W6) : wdL rlenI n ≤ 6 ∧ (rlenI n).toNat ≤ 64 * wdL rlenI n := by
  have h := rlenI_le n
  unfold wdL
  rw [wdK_eq]
  omega
theorem words_okL : LayOk PR 98 (layS c6.agg 47 c6 (wdL rlenI) 6 (fun n => n)) :=
  layS_ok words_ctx fun n => Tree.holds_but (l := [2]) (i := 0) (by
    rw [words_run]
    refine ⟨?_, rfl⟩
    have h := rlenI_le n
    unfold wdCond
    rw [wdK_eq]
    simp
    omega)
theorem words_ent : Enters PR 98 := enters_of (fn := Try.f98) (by kernel_rfl) (by kernel_rfl) (by kernel_rfl)

/-! A point by words. -/
def thOf (p : Ap W6) : Th := ⟨⟨p.x, zeroW⟩, ⟨p.y, zeroW⟩, ⟨numOne, zeroW⟩, true⟩
def maT (tw : Th → D6 × D6 × Bool) : PureTab := [(146, fn1 cTh.agg kT3 tw)]
noncomputable def maE (tw : Th → D6 × D6 × Bool) (ok : Nat → Bool) (mu : Th → W6 → Nat → Th) : Env := envL eqsT (maT tw) [(145, slv 47 cTh.agg c6 cTh.agg ok mu)] [] false
set_option maxRecDepth 100000 in
theorem many_run (tw : Th → D6 × D6 × Bool) (ok : Nat → Bool) (mu : Th → W6 → Nat → Th) (p : Ap W6) (w : W6) (len cap : Nat) : Tree.but [3] 0 (afunT PR (maE tw ok mu) [10, 33] (fun _ => none) 40 97 [aW.agg.enc p, .slc 0 0 len cap] (oneAH c6 47 w) 1) =
    .br p.zero (.leaf (aW.agg.enc p)) (.need (ok len && true) (.br (!(tw (mu (thOf p) w len)).2.2) (.leaf (apA ⟨zeroW, zeroW, true⟩ true)) (.leaf (apA ⟨(tw (mu (thOf p) w len)).1.a, (tw (mu (thOf p) w len)).2.1.a, false⟩ false)))) := by kernel_rfl
def manyG (tw : Th → D6 × D6 × Bool) (mu : Th → W6 → Nat → Th) (p : Ap W6) (w : W6) (len : Nat) : Ap W6 :=
  bif p.zero then p else bif !(tw (mu (thOf p) w len)).2.2 then ⟨zeroW, zeroW, true⟩ else ⟨(tw (mu (thOf p) w len)).1.a, (tw (mu (thOf p) w len)).2.1.a, false⟩
theorem givesU {P : Program} {E : Env} {sym : List Tmp} {tab : BTab} {lf f : Nat} {args : List AV} {h : AH} {n : Nat} {l : List Nat} {u : Tree AV} {v : Value} (e : Tree.but l 0 (afunT P E sym tab lf f args h n) = u) (hu : u.holds (fun q => flat q = some v)) :
    GivesH (afun P E sym tab lf f args h n) v := ⟨Tree.holds_bind (Tree.holds_but (l := l) (i := 0) (by rw [show Tree.but l 0 ((afun P E sym tab lf f args h n).bind fun q => Tree.leaf q.1) = u from e]; exact hu))⟩
theorem many_gives (tw : Th → D6 × D6 × Bool) (ok : Nat → Bool) (mu : Th → W6 → Nat → Th) (p : Ap W6) (w : W6) (len cap : Nat) (hk : ok len = true) :
    GivesH (afun PR (maE tw ok mu) [10, 33] (fun _ => none) 40 97 [aW.agg.enc p, .slc 0 0 len cap] (oneAH c6 47 w) 1) (aW.agg.val (manyG tw mu p w len)) :=
  givesU (many_run tw ok mu p w len cap) (holds_br (B := aW.agg) (holds_leaf (aW.agg.h1 _)) ⟨by rw [hk]; rfl, holds_br (B := aW.agg) (holds_leaf (apA_flat _ _ rfl)) (holds_leaf (apA_flat _ _ rfl))⟩)
theorem maE_ok : EnvOk PR (maE twW le6 multW) := envL_ok eqsT_ok (TabPOk.cons two_ok TabPOk.nil) (TabHOk.cons mu_ent mu_okH TabHOk.nil) TabLOk.nil
def manyW : Ap W6 → W6 → Nat → Ap W6 := manyG twW multW
theorem many_okH : HeapOk PR 97 (slv 47 aW.agg c6 aW.agg le6 manyW) :=
  slv_ok (E := maE twW le6 multW) (sym := [10, 33]) (lf := 40) (tab := fun _ _ _ _ => fun _ => none) maE_ok mixed (fn := Try.f97) (c := bodyOf PR 97) (by kernel_rfl) (by kernel_rfl) (by kernel_rfl)
    (fun _ _ _ _ _ => tabOk_none _) (fun p w len cap hk => many_gives twW le6 multW p w len cap hk)
theorem many_ent : Enters PR 97 := enters_of (fn := Try.f97) (by kernel_rfl) (by kernel_rfl) (by kernel_rfl)

/-! A point by a number. -/
noncomputable def mlE (ok : Nat → Bool) (ma : Ap W6 → W6 → Nat → Ap W6) (L : W6 → Nat) : Env :=
  envL eqsT [] [(97, slv 47 aW.agg c6 aW.agg ok ma)] [(98, layS c6.agg 47 c6 L 6 (fun n => n))] false
theorem mul1_run (ok : Nat → Bool) (ma : Ap W6 → W6 → Nat → Ap W6) (L : W6 → Nat) (p : Ap W6) (n : W6) : Tree.but [1] 0 (afunR PR (mlE ok ma L) [] (fun _ => none) 40 41 [aW.agg.enc p, c6.agg.enc n]) =
    .need (ok (L n) && true) (.leaf (aW.agg.enc (ma p n (L n)))) := by kernel_rfl
theorem mlE_ok : EnvOk PR (mlE le6 manyW (wdL rlenI)) := envL_ok eqsT_ok TabPOk.nil (TabHOk.cons many_ent many_okH TabHOk.nil) (TabLOk.cons words_ent words_okL TabLOk.nil)
theorem mul1_ctx : Ctx PR (mlE le6 manyW (wdL rlenI)) [] (fun _ => none) 40 41 :=
  ctx_of mlE_ok mixed (fn := Try.f41) (by kernel_rfl) (by kernel_rfl) (by kernel_rfl) (tabOk_none _)
theorem givesB {t u : Tree AV} {v : Value} {l : List Nat} (e : Tree.but l 0 t = u) (hu : u.holds (fun q => flat q = some v)) : Gives t v := ⟨Tree.holds_but (l := l) (i := 0) (by rw [e]; exact hu)⟩
theorem mul1_gives (ok : Nat → Bool) (ma : Ap W6 → W6 → Nat → Ap W6) (L : W6 → Nat) (p : Ap W6) (n : W6) (h : ok (L n) = true) : Gives (afunR PR (mlE ok ma L) [] (fun _ => none) 40 41 [aW.agg.enc p, c6.agg.enc n]) (aW.agg.val (ma p n (L n))) :=
  givesB (mul1_run ok ma L p n) ⟨by rw [h]; rfl, aW.agg.h1 _⟩
def rmul1 (p : Ap W6) (n : W6) : Ap W6 := manyW p n (wdL rlenI n)
theorem rmul1_ok : CallOk PR 41 (fn2 aW.agg c6.agg aW.agg rmul1) :=
  .inl ⟨enters_of (fn := Try.f41) (by kernel_rfl) (by kernel_rfl) (by kernel_rfl), pure2 mul1_ctx (fun p n => mul1_gives le6 manyW (wdL rlenI) p n (Nat.ble_eq_true_of_le (wdL_le n).1))⟩

/-! Is it of the group? -/
def rinT1 (ck : Ap W6 → Bool) (od : W6) (ml : Ap W6 → W6 → Ap W6) : PureTab := [(29, fn1 aW.agg kBool ck), (89, fn0 c6.agg od), (41, fn2 aW.agg c6.agg aW.agg ml)]
theorem rin1_run (ck : Ap W6 → Bool) (od : W6) (ml : Ap W6 → W6 → Ap W6) (p : Ap W6) : (afunR PR (envOf eqsT (rinT1 ck od ml)) [5] (fun _ => none) 40 32 [aW.agg.enc p]).strict =
    .br (ck p) (.leaf (kBool.enc (ml p od).zero)) (.leaf (.lit false)) := by kernel_rfl
def rin1G (ck : Ap W6 → Bool) (od : W6) (ml : Ap W6 → W6 → Ap W6) (p : Ap W6) : Bool := bif ck p then (ml p od).zero else false
theorem rin1_gives (ck : Ap W6 → Bool) (od : W6) (ml : Ap W6 → W6 → Ap W6) (p : Ap W6) : Gives (afunR PR (envOf eqsT (rinT1 ck od ml)) [5] (fun _ => none) 40 32 [aW.agg.enc p]) (kBool.val (rin1G ck od ml p)) :=
  givesOf (rin1_run ck od ml p) (holds_br (B := kBool) (holds_leaf (kBool.h1 _)) (holds_leaf (a := .lit false) (v := kBool.val false) rfl))
def rin1 : Ap W6 → Bool := rin1G rcheck1 orderW rmul1
theorem rin1_ctx : Ctx PR (envOf eqsT (rinT1 rcheck1 orderW rmul1)) [5] (fun _ => none) 40 32 :=
  ctx_of (envOf_ok eqsT_ok (TabPOk.cons rck_ok (TabPOk.cons rorder_ok (TabPOk.cons rmul1_ok TabPOk.nil)))) mixed (fn := Try.f32) (by kernel_rfl) (by kernel_rfl) (by kernel_rfl) (tabOk_none _)
theorem rin1_ok : CallOk PR 32 (fn1 aW.agg kBool rin1) :=
  .inl ⟨enters_of (fn := Try.f32) (by kernel_rfl) (by kernel_rfl) (by kernel_rfl), pure1 rin1_ctx (fun p => rin1_gives rcheck1 orderW rmul1 p)⟩

/-! Is what is told the wanted one? -/
def fn4 {α γ δ ε β : Type} (A : Cod α) (C : Cod γ) (D : Cod δ) (E : Cod ε) (B : Cod β) (F : α → γ → δ → ε → β) : List AV → Option (Bool × AV)
  | [a, c, d, e] => match A.dec a, C.dec c, D.dec d, E.dec e with
    | some x, some y, some z, some u => some (true, B.enc (F x y z u))
    | _, _, _, _ => none
  | _ => none
theorem pure4 {P : Program} {E : Env} {sym : List Tmp} {tab : BTab} {lf f : Nat} {α β γ δ ε : Type} {A : Cod α} {B : Cod β} {C : Cod γ} {D : Cod δ} {D' : Cod ε} (X : Ctx P E sym tab lf f) {F : α → γ → δ → ε → β}
    (h : ∀ x y z u, Gives (afunR P E sym tab lf f [A.enc x, C.enc y, D.enc z, D'.enc u]) (B.val (F x y z u))) : PureOk P f (fn4 A C D D' B F) := by
  refine pure_core X fun args r hg => ?_
  unfold fn4 at hg
  split at hg
  · rename_i a c d e
    split at hg
    · rename_i x y z u hx hy hz hu
      simp at hg; subst hg
      refine ⟨[A.enc x, C.enc y, D.enc z, D'.enc u], [A.val x, C.val y, D.val z, D'.val u], fun ρ xs hxs => ?_, by simp [flatL, A.h1, C.h1, D.h1, D'.h1], _, B.h1 _, (h x y z u).out⟩
      obtain ⟨v0, y0, rfl, h0, r0⟩ := hxs.uncons
      obtain ⟨v1, y1, rfl, h1, r1⟩ := r0.uncons
      obtain ⟨v2, y2, rfl, h2, r2⟩ := r1.uncons
      obtain ⟨v3, y3, rfl, h3, r3⟩ := r2.uncons
      rw [r3.unnil, A.h2 ρ _ _ _ hx h0, C.h2 ρ _ _ _ hy h1, D.h2 ρ _ _ _ hz h2, D'.h2 ρ _ _ _ hu h3]
    · cases hg
  · cases hg
def noneP : Ap W6 := ⟨zeroW, zeroW, false⟩
theorem onl1_run (p : Ap W6) (e : Int) (f : Bool) (w : Ap W6) : (afunR PR (envOf eqsT []) [10, 14, 21] (fun _ => none) 40 38 [aW.agg.enc p, (kInt .i64).enc e, kBool.enc f, aW.agg.enc w]).strict =
    .br (!f) (.br (eqP13 p noneP) (.leaf (kBool.enc (e == 5))) (.leaf (.lit false))) (.br (eqP13 p w) (.leaf (kBool.enc (e == 0))) (.leaf (.lit false))) := by kernel_rfl
def oneG (p : Ap W6) (e : Int) (f : Bool) (w : Ap W6) : Bool := bif !f then (bif eqP13 p noneP then e == 5 else false) else (bif eqP13 p w then e == 0 else false)
theorem onl1_ctx : Ctx PR (envOf eqsT []) [10, 14, 21] (fun _ => none) 40 38 :=
  ctx_of (envOf_ok eqsT_ok TabPOk.nil) mixed (fn := Try.f38) (by kernel_rfl) (by kernel_rfl) (by kernel_rfl) (tabOk_none _)
theorem onl1_ok : CallOk PR 38 (fn4 aW.agg (kInt .i64) kBool aW.agg kBool oneG) :=
  .inl ⟨enters_of (fn := Try.f38) (by kernel_rfl) (by kernel_rfl) (by kernel_rfl), pure4 onl1_ctx (fun p e f w => givesOf (onl1_run p e f w)
    (holds_br (B := kBool) (holds_br (B := kBool) (holds_leaf (kBool.h1 _)) (holds_leaf (a := .lit false) (v := kBool.val false) rfl)) (holds_br (B := kBool) (holds_leaf (kBool.h1 _)) (holds_leaf (a := .lit false) (v := kBool.val false) rfl))))⟩
end Go.Rq

/- The reference's points of the second curve: contracts. Written by a program of ours. -/
namespace Go.Rq
open Go Go.Proofs

/-- The reference's elements of two parts, left open. -/
structure DO where
  mu : D6 → D6 → D6
  ad : D6 → D6 → D6
  sb : D6 → D6 → D6
  iv : D6 → D6
  ne : D6 → D6
def doT (t : DO) : PureTab := [(99, fn2 c12.agg c12.agg c12.agg t.mu), (148, fn2 c12.agg c12.agg c12.agg t.ad), (109, fn2 c12.agg c12.agg c12.agg t.sb), (160, fn1 c12.agg c12.agg t.iv), (110, fn1 c12.agg c12.agg t.ne)]
def doO : DO := ⟨rmul2G roO, radd2G roO, rsub2G roO, rinv2G roO, rneg2G roO⟩
theorem doT_eq : [(99, fn2 c12.agg c12.agg c12.agg (rmul2G roO)), (148, fn2 c12.agg c12.agg c12.agg (radd2G roO)), (109, fn2 c12.agg c12.agg c12.agg (rsub2G roO)), (160, fn1 c12.agg c12.agg (rinv2G roO)), (110, fn1 c12.agg c12.agg (rneg2G roO))] = doT doO := by kernel_rfl
theorem doT_ok : TabPOk PR (doT doO) := Eq.subst (motive := TabPOk PR) doT_eq (TabPOk.cons rmul2_ok (TabPOk.cons radd2_ok (TabPOk.cons rsub2_ok (TabPOk.cons rinv2_ok (TabPOk.cons rneg2_ok TabPOk.nil)))))

/-! What is added in the equation. -/
def fourD : D6 := ⟨ofW 4#64, ofW 4#64⟩
theorem rfour_ctx : Ctx PR (envOf eqsT []) [] (fun _ => none) 10 149 :=
  ctx_of (envOf_ok eqsT_ok TabPOk.nil) mixed (fn := Try.f149) (by kernel_rfl) (by kernel_rfl) (by kernel_rfl) (tabOk_none _)
theorem rfour_run : (afunR PR (envOf eqsT []) [] (fun _ => none) 10 149 []).strict = .leaf (c12.agg.enc fourD) := by kernel_rfl
theorem rfour_ok : CallOk PR 149 (fn0 c12.agg fourD) :=
  .inl ⟨enters_of (fn := Try.f149) (by kernel_rfl) (by kernel_rfl) (by kernel_rfl), pure0 rfour_ctx (leafVal (B := c12.agg) (y := fourD) rfour_run)⟩

def rside2G (t : DO) (four : D6) (x : D6) : D6 := t.ad (t.mu (t.mu x x) x) four
def rsd2T (t : DO) (four : D6) : PureTab := (149, fn0 c12.agg four) :: doT t
theorem rside2_run (t : DO) (four : D6) (x : D6) : (afunR PR (envOf eqsT (rsd2T t four)) [] (fun _ => none) 40 100 [c12.agg.enc x]).strict = .leaf (c12.agg.enc (rside2G t four x)) := by kernel_rfl
theorem rside2_ctx : Ctx PR (envOf eqsT (rsd2T doO fourD)) [] (fun _ => none) 40 100 :=
  ctx_of (envOf_ok eqsT_ok (TabPOk.cons rfour_ok doT_ok)) mixed (fn := Try.f100) (by kernel_rfl) (by kernel_rfl) (by kernel_rfl) (tabOk_none _)
theorem rside2_ok : CallOk PR 100 (fn1 c12.agg c12.agg (rside2G doO fourD)) :=
  .inl ⟨enters_of (fn := Try.f100) (by kernel_rfl) (by kernel_rfl) (by kernel_rfl), pure1 rside2_ctx (fun a => leafVal (B := c12.agg) (y := rside2G doO fourD a) (rside2_run doO fourD a))⟩

/-! Is it a point? -/
set_option maxRecDepth 100000
def rck2T (t : DO) (bl : W6 → Bool) (sd : D6 → D6) : PureTab := (80, fn1 c6.agg kBool bl) :: (100, fn1 c12.agg c12.agg sd) :: doT t
theorem rck2_run (t : DO) (bl : W6 → Bool) (sd : D6 → D6) (p : Ap D6) : (afunR PR (envOf eqsT (rck2T t bl sd)) [4, 9, 19, 25, 31, 37] (fun _ => none) 40 42 [aD.agg.enc p]).strict =
    .br p.zero (.br (eqD p.x zeroD) (.leaf (kBool.enc (eqD p.y zeroD))) (.leaf (.lit false)))
      (.br (bl p.x.a) (.br (bl p.x.b) (.br (bl p.y.a) (.br (bl p.y.b) (.leaf (kBool.enc (eqD (t.mu p.y p.y) (sd p.x)))) (.leaf (.lit false))) (.leaf (.lit false))) (.leaf (.lit false))) (.leaf (.lit false))) := by kernel_rfl
def rcheck2G (t : DO) (bl : W6 → Bool) (sd : D6 → D6) (p : Ap D6) : Bool := bif p.zero then (bif eqD p.x zeroD then eqD p.y zeroD else false) else
  bif bl p.x.a then (bif bl p.x.b then (bif bl p.y.a then (bif bl p.y.b then eqD (t.mu p.y p.y) (sd p.x) else false) else false) else false) else false
theorem noHolds : (Tree.leaf (AV.lit false)).holds (fun q => flat q = some (kBool.val false)) := holds_leaf (a := .lit false) (v := kBool.val false) rfl
theorem rck2_gives (t : DO) (bl : W6 → Bool) (sd : D6 → D6) (p : Ap D6) : Gives (afunR PR (envOf eqsT (rck2T t bl sd)) [4, 9, 19, 25, 31, 37] (fun _ => none) 40 42 [aD.agg.enc p]) (kBool.val (rcheck2G t bl sd p)) :=
  givesOf (rck2_run t bl sd p)
    (holds_br (B := kBool) (holds_br (B := kBool) (holds_leaf (kBool.h1 _)) noHolds) (holds_br (B := kBool) (holds_br (B := kBool) (holds_br (B := kBool) (holds_br (B := kBool) (holds_leaf (kBool.h1 _)) noHolds) noHolds) noHolds) noHolds))
def rcheck2 : Ap D6 → Bool := rcheck2G doO belowI (rside2G doO fourD)
theorem rck2_ctx : Ctx PR (envOf eqsT (rck2T doO belowI (rside2G doO fourD))) [4, 9, 19, 25, 31, 37] (fun _ => none) 40 42 :=
  ctx_of (envOf_ok eqsT_ok (TabPOk.cons rbelow_ok (TabPOk.cons rside2_ok doT_ok))) mixed (fn := Try.f42) (by kernel_rfl) (by kernel_rfl) (by kernel_rfl) (tabOk_none _)
theorem rck2_ok : CallOk PR 42 (fn1 aD.agg kBool rcheck2) :=
  .inl ⟨enters_of (fn := Try.f42) (by kernel_rfl) (by kernel_rfl) (by kernel_rfl), pure1 rck2_ctx (fun p => rck2_gives doO belowI (rside2G doO fourD) p)⟩

/-! The negated one. -/
def rneg2P (t : DO) (p : Ap D6) : Ap D6 := ⟨p.x, t.ne p.y, p.zero⟩
theorem rneg2P_run (t : DO) (p : Ap D6) : (afunR PR (envOf eqsT (doT t)) [] (fun _ => none) 40 53 [aD.agg.enc p]).strict = .leaf (aD.agg.enc (rneg2P t p)) := by kernel_rfl
theorem rneg2P_ctx : Ctx PR (envOf eqsT (doT doO)) [] (fun _ => none) 40 53 :=
  ctx_of (envOf_ok eqsT_ok doT_ok) mixed (fn := Try.f53) (by kernel_rfl) (by kernel_rfl) (by kernel_rfl) (tabOk_none _)
theorem rneg2P_ok : CallOk PR 53 (fn1 aD.agg aD.agg (rneg2P doO)) :=
  .inl ⟨enters_of (fn := Try.f53) (by kernel_rfl) (by kernel_rfl) (by kernel_rfl), pure1 rneg2P_ctx (fun p => leafVal (B := aD.agg) (y := rneg2P doO p) (rneg2P_run doO p))⟩

/-! The sum by the slope. -/
def eqP25 (a b : Ap D6) : Bool := (a.x.a.w0 == b.x.a.w0) && ((a.x.a.w1 == b.x.a.w1) && ((a.x.a.w2 == b.x.a.w2) && ((a.x.a.w3 == b.x.a.w3) && ((a.x.a.w4 == b.x.a.w4) && ((a.x.a.w5 == b.x.a.w5) && ((a.x.b.w0 == b.x.b.w0) && ((a.x.b.w1 == b.x.b.w1) && ((a.x.b.w2 == b.x.b.w2) && ((a.x.b.w3 == b.x.b.w3) && ((a.x.b.w4 == b.x.b.w4) && ((a.x.b.w5 == b.x.b.w5) && ((a.y.a.w0 == b.y.a.w0) && ((a.y.a.w1 == b.y.a.w1) && ((a.y.a.w2 == b.y.a.w2) && ((a.y.a.w3 == b.y.a.w3) && ((a.y.a.w4 == b.y.a.w4) && ((a.y.a.w5 == b.y.a.w5) && ((a.y.b.w0 == b.y.b.w0) && ((a.y.b.w1 == b.y.b.w1) && ((a.y.b.w2 == b.y.b.w2) && ((a.y.b.w3 == b.y.b.w3) && ((a.y.b.w4 == b.y.b.w4) && ((a.y.b.w5 == b.y.b.w5) && ((a.zero == b.zero) && true))))))))))))))))))))))))
def rslopeA (t : DO) (a : Ap D6) : D6 := t.mu (t.ad (t.ad (t.mu a.x a.x) (t.mu a.x a.x)) (t.mu a.x a.x)) (t.iv (t.ad a.y a.y))
def rslopeB (t : DO) (a b : Ap D6) : D6 := t.mu (t.sb b.y a.y) (t.iv (t.sb b.x a.x))
theorem rslope_run (t : DO) (a b : Ap D6) : (afunR PR (envOf eqsT (doT t)) [8] (fun _ => none) 40 108 [aD.agg.enc a, aD.agg.enc b]).strict =
    .br (eqP25 a b) (.leaf (c12.agg.enc (rslopeA t a))) (.leaf (c12.agg.enc (rslopeB t a b))) := by kernel_rfl
def rslope (t : DO) (a b : Ap D6) : D6 := bif eqP25 a b then rslopeA t a else rslopeB t a b
theorem rslope_gives (t : DO) (a b : Ap D6) : Gives (afunR PR (envOf eqsT (doT t)) [8] (fun _ => none) 40 108 [aD.agg.enc a, aD.agg.enc b]) (c12.agg.val (rslope t a b)) :=
  givesOf (rslope_run t a b) (holds_br (B := c12.agg) (holds_leaf (c12.agg.h1 _)) (holds_leaf (c12.agg.h1 _)))
theorem rslope_ctx : Ctx PR (envOf eqsT (doT doO)) [8] (fun _ => none) 40 108 :=
  ctx_of (envOf_ok eqsT_ok doT_ok) mixed (fn := Try.f108) (by kernel_rfl) (by kernel_rfl) (by kernel_rfl) (tabOk_none _)
theorem rslope_ok : CallOk PR 108 (fn2 aD.agg aD.agg c12.agg (rslope doO)) :=
  .inl ⟨enters_of (fn := Try.f108) (by kernel_rfl) (by kernel_rfl) (by kernel_rfl), pure2 rslope_ctx (fun a b => rslope_gives doO a b)⟩
def rchord2 (t : DO) (a b : Ap D6) (m : D6) : Ap D6 :=
  let x := t.sb (t.sb (t.mu m m) a.x) b.x
  ⟨x, t.sb (t.mu m (t.sb a.x x)) a.y, false⟩
def apD (p : Ap D6) (z : Bool) : AV := .agg (c12.enc p.x ++ (c12.enc p.y ++ [.lit z]))
theorem apD_flat (p : Ap D6) (z : Bool) (h : p.zero = z) : flat (apD p z) = some (aD.agg.val p) := by
  obtain ⟨x, y, w⟩ := p
  simp at h; subst h
  exact apFlatD x y w
def rad2T (t : DO) (N : Ap D6 → Ap D6) (S : Ap D6 → Ap D6 → D6) : PureTab := (53, fn1 aD.agg aD.agg N) :: (108, fn2 aD.agg aD.agg c12.agg S) :: doT t
theorem rad2_run (t : DO) (N : Ap D6 → Ap D6) (S : Ap D6 → Ap D6 → D6) (a b : Ap D6) : (afunR PR (envOf eqsT (rad2T t N S)) [8, 11, 16] (fun _ => none) 40 52 [aD.agg.enc a, aD.agg.enc b]).strict =
    .br a.zero (.leaf (aD.agg.enc b)) (.br b.zero (.leaf (aD.agg.enc a)) (.br (eqP25 a (N b)) (.leaf (apD ⟨zeroD, zeroD, true⟩ true)) (.leaf (apD (rchord2 t a b (S a b)) false)))) := by kernel_rfl
def rad2G (t : DO) (N : Ap D6 → Ap D6) (S : Ap D6 → Ap D6 → D6) (a b : Ap D6) : Ap D6 := bif a.zero then b else bif b.zero then a else bif eqP25 a (N b) then ⟨zeroD, zeroD, true⟩ else rchord2 t a b (S a b)
theorem rad2_gives (t : DO) (N : Ap D6 → Ap D6) (S : Ap D6 → Ap D6 → D6) (a b : Ap D6) : Gives (afunR PR (envOf eqsT (rad2T t N S)) [8, 11, 16] (fun _ => none) 40 52 [aD.agg.enc a, aD.agg.enc b]) (aD.agg.val (rad2G t N S a b)) :=
  givesOf (rad2_run t N S a b) (holds_br (B := aD.agg) (holds_leaf (aD.agg.h1 _)) (holds_br (B := aD.agg) (holds_leaf (aD.agg.h1 _)) (holds_br (B := aD.agg) (holds_leaf (apD_flat _ _ rfl)) (holds_leaf (apD_flat _ _ rfl)))))
def rad2 : Ap D6 → Ap D6 → Ap D6 := rad2G doO (rneg2P doO) (rslope doO)
theorem rad2_ctx : Ctx PR (envOf eqsT (rad2T doO (rneg2P doO) (rslope doO))) [8, 11, 16] (fun _ => none) 40 52 :=
  ctx_of (envOf_ok eqsT_ok (TabPOk.cons rneg2P_ok (TabPOk.cons rslope_ok doT_ok))) mixed (fn := Try.f52) (by kernel_rfl) (by kernel_rfl) (by kernel_rfl) (tabOk_none _)
theorem rad2_ok : CallOk PR 52 (fn2 aD.agg aD.agg aD.agg rad2) :=
  .inl ⟨enters_of (fn := Try.f52) (by kernel_rfl) (by kernel_rfl) (by kernel_rfl), pure2 rad2_ctx (fun a b => rad2_gives doO (rneg2P doO) (rslope doO) a b)⟩

/-! The generator. -/
def rgen2P : Ap D6 := ⟨⟨⟨0xd48056c8c121bdb8#64, 0x0bac0326a805bbef#64, 0xb4510b647ae3d177#64, 0xc6e47ad4fa403b02#64, 0x260805272dc51051#64, 0x024aa2b2f08f0a91#64⟩, ⟨0xe5ac7d055d042b7e#64, 0x334cf11213945d57#64, 0xb5da61bbdc7f5049#64, 0x596bd0d09920b61a#64, 0x7dacd3a088274f65#64, 0x13e02b6052719f60#64⟩⟩,
  ⟨⟨0xe193548608b82801#64, 0x923ac9cc3baca289#64, 0x6d429a695160d12c#64, 0xadfd9baa8cbdd3a7#64, 0x8cc9cdc6da2e351a#64, 0x0ce5d527727d6e11#64⟩, ⟨0xaaa9075ff05f79be#64, 0x3f370d275cec1da1#64, 0x267492ab572e99ab#64, 0xcb3e287e85a763af#64, 0x32acd2b02bc28b99#64, 0x0606c4a02ea734cc#64⟩⟩, false⟩
theorem rgen2_ctx : Ctx PR (envOf eqsT []) [] (fun _ => none) 10 47 :=
  ctx_of (envOf_ok eqsT_ok TabPOk.nil) mixed (fn := Try.f47) (by kernel_rfl) (by kernel_rfl) (by kernel_rfl) (tabOk_none _)
theorem rgen2_run : (afunR PR (envOf eqsT []) [] (fun _ => none) 10 47 []).strict = .leaf (apD rgen2P false) := by kernel_rfl
theorem rgen2_ok : CallOk PR 47 (fn0 aD.agg rgen2P) :=
  .inl ⟨enters_of (fn := Try.f47) (by kernel_rfl) (by kernel_rfl) (by kernel_rfl), pure0 rgen2_ctx (givesOf rgen2_run (holds_leaf (apD_flat _ _ rfl)))⟩

/-! A point by words, and by a number. -/
def thOf2 (p : Ap D6) : Th := ⟨p.x, p.y, ⟨numOne, zeroW⟩, false⟩
theorem many2_run (tw : Th → D6 × D6 × Bool) (ok : Nat → Bool) (mu : Th → W6 → Nat → Th) (p : Ap D6) (w : W6) (len cap : Nat) : Tree.but [3] 0 (afunT PR (maE tw ok mu) [10, 29] (fun _ => none) 40 111 [aD.agg.enc p, .slc 0 0 len cap] (oneAH c6 47 w) 1) =
    .br p.zero (.leaf (aD.agg.enc p)) (.need (ok len && true) (.br (!(tw (mu (thOf2 p) w len)).2.2) (.leaf (apD ⟨zeroD, zeroD, true⟩ true)) (.leaf (apD ⟨(tw (mu (thOf2 p) w len)).1, (tw (mu (thOf2 p) w len)).2.1, false⟩ false)))) := by kernel_rfl
def many2G (tw : Th → D6 × D6 × Bool) (mu : Th → W6 → Nat → Th) (p : Ap D6) (w : W6) (len : Nat) : Ap D6 :=
  bif p.zero then p else bif !(tw (mu (thOf2 p) w len)).2.2 then ⟨zeroD, zeroD, true⟩ else ⟨(tw (mu (thOf2 p) w len)).1, (tw (mu (thOf2 p) w len)).2.1, false⟩
theorem many2_gives (tw : Th → D6 × D6 × Bool) (ok : Nat → Bool) (mu : Th → W6 → Nat → Th) (p : Ap D6) (w : W6) (len cap : Nat) (hk : ok len = true) :
    GivesH (afun PR (maE tw ok mu) [10, 29] (fun _ => none) 40 111 [aD.agg.enc p, .slc 0 0 len cap] (oneAH c6 47 w) 1) (aD.agg.val (many2G tw mu p w len)) :=
  givesU (many2_run tw ok mu p w len cap) (holds_br (B := aD.agg) (holds_leaf (aD.agg.h1 _)) ⟨by rw [hk]; rfl, holds_br (B := aD.agg) (holds_leaf (apD_flat _ _ rfl)) (holds_leaf (apD_flat _ _ rfl))⟩)
def many2W : Ap D6 → W6 → Nat → Ap D6 := many2G twW multW
theorem many2_okH : HeapOk PR 111 (slv 47 aD.agg c6 aD.agg le6 many2W) :=
  slv_ok (E := maE twW le6 multW) (sym := [10, 29]) (lf := 40) (tab := fun _ _ _ _ => fun _ => none) maE_ok mixed (fn := Try.f111) (c := bodyOf PR 111) (by kernel_rfl) (by kernel_rfl) (by kernel_rfl)
    (fun _ _ _ _ _ => tabOk_none _) (fun p w len cap hk => many2_gives twW le6 multW p w len cap hk)
theorem many2_ent : Enters PR 111 := enters_of (fn := Try.f111) (by kernel_rfl) (by kernel_rfl) (by kernel_rfl)
noncomputable def ml2E (ok : Nat → Bool) (ma : Ap D6 → W6 → Nat → Ap D6) (L : W6 → Nat) : Env :=
  envL eqsT [] [(111, slv 47 aD.agg c6 aD.agg ok ma)] [(98, layS c6.agg 47 c6 L 6 (fun n => n))] false
theorem rml2_run (ok : Nat → Bool) (ma : Ap D6 → W6 → Nat → Ap D6) (L : W6 → Nat) (p : Ap D6) (n : W6) : Tree.but [1] 0 (afunR PR (ml2E ok ma L) [] (fun _ => none) 40 54 [aD.agg.enc p, c6.agg.enc n]) =
    .need (ok (L n) && true) (.leaf (aD.agg.enc (ma p n (L n)))) := by kernel_rfl
theorem ml2E_ok : EnvOk PR (ml2E le6 many2W (wdL rlenI)) := envL_ok eqsT_ok TabPOk.nil (TabHOk.cons many2_ent many2_okH TabHOk.nil) (TabLOk.cons words_ent words_okL TabLOk.nil)
theorem rml2_ctx : Ctx PR (ml2E le6 many2W (wdL rlenI)) [] (fun _ => none) 40 54 :=
  ctx_of (ml2E_ok) mixed (fn := Try.f54) (by kernel_rfl) (by kernel_rfl) (by kernel_rfl) (tabOk_none _)
theorem rml2_gives (ok : Nat → Bool) (ma : Ap D6 → W6 → Nat → Ap D6) (L : W6 → Nat) (p : Ap D6) (n : W6) (h : ok (L n) = true) : Gives (afunR PR (ml2E ok ma L) [] (fun _ => none) 40 54 [aD.agg.enc p, c6.agg.enc n]) (aD.agg.val (ma p n (L n))) :=
  givesB (rml2_run ok ma L p n) ⟨by rw [h]; rfl, aD.agg.h1 _⟩
def rml2 (p : Ap D6) (n : W6) : Ap D6 := many2W p n (wdL rlenI n)
theorem rml2_ok : CallOk PR 54 (fn2 aD.agg c6.agg aD.agg rml2) :=
  .inl ⟨enters_of (fn := Try.f54) (by kernel_rfl) (by kernel_rfl) (by kernel_rfl), pure2 rml2_ctx (fun p n => rml2_gives le6 many2W (wdL rlenI) p n (Nat.ble_eq_true_of_le (wdL_le n).1))⟩

/-! Is it of the group? -/
def rinT2 (ck : Ap D6 → Bool) (od : W6) (ml : Ap D6 → W6 → Ap D6) : PureTab := [(42, fn1 aD.agg kBool ck), (89, fn0 c6.agg od), (54, fn2 aD.agg c6.agg aD.agg ml)]
theorem rin2_run (ck : Ap D6 → Bool) (od : W6) (ml : Ap D6 → W6 → Ap D6) (p : Ap D6) : (afunR PR (envOf eqsT (rinT2 ck od ml)) [5] (fun _ => none) 40 45 [aD.agg.enc p]).strict =
    .br (ck p) (.leaf (kBool.enc (ml p od).zero)) (.leaf (.lit false)) := by kernel_rfl
def rin2G (ck : Ap D6 → Bool) (od : W6) (ml : Ap D6 → W6 → Ap D6) (p : Ap D6) : Bool := bif ck p then (ml p od).zero else false
theorem rin2_gives (ck : Ap D6 → Bool) (od : W6) (ml : Ap D6 → W6 → Ap D6) (p : Ap D6) : Gives (afunR PR (envOf eqsT (rinT2 ck od ml)) [5] (fun _ => none) 40 45 [aD.agg.enc p]) (kBool.val (rin2G ck od ml p)) :=
  givesOf (rin2_run ck od ml p) (holds_br (B := kBool) (holds_leaf (kBool.h1 _)) noHolds)
def rin2 : Ap D6 → Bool := rin2G rcheck2 orderW rml2
theorem rin2_ctx : Ctx PR (envOf eqsT (rinT2 rcheck2 orderW rml2)) [5] (fun _ => none) 40 45 :=
  ctx_of (envOf_ok eqsT_ok (TabPOk.cons rck2_ok (TabPOk.cons rorder_ok (TabPOk.cons rml2_ok TabPOk.nil)))) mixed (fn := Try.f45) (by kernel_rfl) (by kernel_rfl) (by kernel_rfl) (tabOk_none _)
theorem rin2_ok : CallOk PR 45 (fn1 aD.agg kBool rin2) :=
  .inl ⟨enters_of (fn := Try.f45) (by kernel_rfl) (by kernel_rfl) (by kernel_rfl), pure1 rin2_ctx (fun p => rin2_gives rcheck2 orderW rml2 p)⟩

/-! Is what is told the wanted one? -/
def nonePD : Ap D6 := ⟨zeroD, zeroD, false⟩
theorem onl2_run (p : Ap D6) (e : Int) (f : Bool) (w : Ap D6) : (afunR PR (envOf eqsT []) [10, 14, 21] (fun _ => none) 40 51 [aD.agg.enc p, (kInt .i64).enc e, kBool.enc f, aD.agg.enc w]).strict =
    .br (!f) (.br (eqP25 p nonePD) (.leaf (kBool.enc (e == 5))) (.leaf (.lit false))) (.br (eqP25 p w) (.leaf (kBool.enc (e == 0))) (.leaf (.lit false))) := by kernel_rfl
def twoLG (p : Ap D6) (e : Int) (f : Bool) (w : Ap D6) : Bool := bif !f then (bif eqP25 p nonePD then e == 5 else false) else (bif eqP25 p w then e == 0 else false)
theorem onl2_ctx : Ctx PR (envOf eqsT []) [10, 14, 21] (fun _ => none) 40 51 :=
  ctx_of (envOf_ok eqsT_ok TabPOk.nil) mixed (fn := Try.f51) (by kernel_rfl) (by kernel_rfl) (by kernel_rfl) (tabOk_none _)
theorem onl2_ok : CallOk PR 51 (fn4 aD.agg (kInt .i64) kBool aD.agg kBool twoLG) :=
  .inl ⟨enters_of (fn := Try.f51) (by kernel_rfl) (by kernel_rfl) (by kernel_rfl), pure4 onl2_ctx (fun p e f w => givesOf (onl2_run p e f w)
    (holds_br (B := kBool) (holds_br (B := kBool) (holds_leaf (kBool.h1 _)) noHolds) (holds_br (B := kBool) (holds_leaf (kBool.h1 _)) noHolds)))⟩
end Go.Rq

/- The law CurveFirst, gone through: what is called left open. -/
namespace Go.Rq
open Go Go.Proofs

/-- What the law calls, left open. -/
structure LO (K : Type) where
  ck : Ap K → Bool
  ckP : Ap K → Bool
  ig : Ap K → Bool
  igP : Ap K → Bool
  ge : Ap K
  geP : Ap K
  ne : Ap K → Ap K
  neP : Ap K → Ap K × Int
  ad : Ap K → Ap K → Ap K
  adP : Ap K → Ap K → Ap K × Int
  mu : Ap K → W6 → Ap K
  muP : Ap K → W6 → Ap K × Int
  on : Ap K → Int → Bool → Ap K → Bool
def loT (t : LO W6) : PureTab := [(29, fn1 aW.agg kBool t.ck), (30, fn1 aW.agg kBool t.ckP), (32, fn1 aW.agg kBool t.ig), (31, fn1 aW.agg kBool t.igP),
  (34, fn0 aW.agg t.ge), (33, fn0 aW.agg t.geP), (40, fn1 aW.agg aW.agg t.ne), (35, fn1 aW.agg kPW t.neP),
  (39, fn2 aW.agg aW.agg aW.agg t.ad), (36, fn2 aW.agg aW.agg kPW t.adP), (41, fn2 aW.agg c6.agg aW.agg t.mu), (37, fn2 aW.agg c6.agg kPW t.muP),
  (38, fn4 aW.agg (kInt .i64) kBool aW.agg kBool t.on)]
noncomputable def loE (t : LO W6) : Env := envH eqsT (loT t) []

def loFalse : Tree AV := .leaf (.lit false)
def loEnd {K : Type} (t : LO K) (a _b : Ap K) (n : W6) (sum : Bool) : Tree AV :=
  .br (t.on (t.neP a).1 (t.neP a).2 true (t.ne a)) (.br sum (.leaf (kBool.enc (t.on (t.muP a n).1 (t.muP a n).2 true (t.mu a n)))) loFalse) loFalse
def loMain {K : Type} (t : LO K) (a b : Ap K) (n : W6) : Tree AV :=
  .br (!t.ck a)
    (.br (t.on (t.neP a).1 (t.neP a).2 false a) (.br (t.on (t.adP a b).1 (t.adP a b).2 false a) (.leaf (kBool.enc (t.on (t.muP a n).1 (t.muP a n).2 false a))) loFalse) loFalse)
    (.br (t.ck b) (loEnd t a b n (t.on (t.adP a b).1 (t.adP a b).2 true (t.ad a b))) (loEnd t a b n (t.on (t.adP a b).1 (t.adP a b).2 false a)))
def loTree {K : Type} (eqP : Ap K → Ap K → Bool) (t : LO K) (a b : Ap K) (n : W6) : Tree AV :=
  .br (!(t.ckP a == t.ck a)) loFalse
    (.br (t.ck a) (.br (!(t.igP a == t.ig a)) loFalse (.br (!(eqP t.geP t.ge)) loFalse (loMain t a b n)))
      (.br (!(t.igP a == false)) loFalse (.br (!(eqP t.geP t.ge)) loFalse (loMain t a b n))))
set_option maxRecDepth 1000000 in
theorem first_law (t : LO W6) (a b : Ap W6) (n : W6) : (afunR PR (loE t) [24, 28, 34, 38, 57, 62, 68, 78, 90, 93] (fun _ => none) 10 4 [aW.agg.enc a, aW.agg.enc b, c6.agg.enc n]).strict = loTree eqP13 t a b n := by kernel_rfl

/-- What makes the law true. -/
structure LOk {K : Type} (eqP : Ap K → Ap K → Bool) (none : Ap K) (t : LO K) : Prop where
  on : ∀ p e f w, t.on p e f w = bif !f then (bif eqP p none then e == 5 else false) else (bif eqP p w then e == 0 else false)
  refl : ∀ p, eqP p p = true
  ck : ∀ p, t.ckP p = t.ck p
  ig : ∀ p, t.igP p = bif t.ck p then t.ig p else false
  ge : t.geP = t.ge
  ne : ∀ p, t.neP p = bif t.ck p then (t.ne p, 0) else (none, 5)
  ad : ∀ p q, t.adP p q = bif t.ck p then (bif t.ck q then (t.ad p q, 0) else (none, 5)) else (none, 5)
  mu : ∀ p n, t.muP p n = bif t.ck p then (t.mu p n, 0) else (none, 5)

theorem loTree_true {K : Type} {eqP : Ap K → Ap K → Bool} {none : Ap K} {t : LO K} (h : LOk eqP none t) (a b : Ap K) (n : W6) : (loTree eqP t a b n).holds (fun q => flat q = some (.bool true)) := by
  have hmain : (loMain t a b n).holds (fun q => flat q = some (.bool true)) := by
    unfold loMain loEnd loFalse
    rw [h.ne, h.ad, h.mu]
    cases ha : t.ck a <;> cases hb : t.ck b <;> simp [Tree.holds, h.on, h.refl, kBool, flat, scal]
  unfold loTree
  rw [h.ck, h.ig, h.ge, h.refl]
  refine ⟨fun h1 => by simp at h1, fun _ => ⟨fun h2 => ⟨fun h3 => ?_, fun _ => ⟨fun h4 => by simp at h4, fun _ => hmain⟩⟩, fun h2 => ⟨fun h3 => ?_, fun _ => ⟨fun h4 => by simp at h4, fun _ => hmain⟩⟩⟩⟩
  · rw [h2] at h3; simp at h3
  · rw [h2] at h3; simp at h3
end Go.Rq

/- The law CurveSecond, gone through: what is called left open. -/
namespace Go.Rq
open Go Go.Proofs

def loT2 (t : LO D6) : PureTab := [(42, fn1 aD.agg kBool t.ck), (43, fn1 aD.agg kBool t.ckP), (45, fn1 aD.agg kBool t.ig), (44, fn1 aD.agg kBool t.igP),
  (47, fn0 aD.agg t.ge), (46, fn0 aD.agg t.geP), (53, fn1 aD.agg aD.agg t.ne), (48, fn1 aD.agg kPD t.neP),
  (52, fn2 aD.agg aD.agg aD.agg t.ad), (49, fn2 aD.agg aD.agg kPD t.adP), (54, fn2 aD.agg c6.agg aD.agg t.mu), (50, fn2 aD.agg c6.agg kPD t.muP),
  (51, fn4 aD.agg (kInt .i64) kBool aD.agg kBool t.on)]
noncomputable def loE2 (t : LO D6) : Env := envH eqsT (loT2 t) []

set_option maxRecDepth 1000000 in
theorem second_law (t : LO D6) (a b : Ap D6) (n : W6) : (afunR PR (loE2 t) [24, 28, 34, 38, 57, 62, 68, 78, 90, 93] (fun _ => none) 10 5 [aD.agg.enc a, aD.agg.enc b, c6.agg.enc n]).strict = loTree eqP25 t a b n := by kernel_rfl

end Go.Rq

/- The laws CurveGroup1 and CurveGroup2, gone through: what is called left open. -/
namespace Go.Rq
open Go Go.Proofs

structure GP (K : Type) where
  ck : Ap K → Bool
  ad : Ap K → Ap K → Ap K × Int
  ne : Ap K → Ap K × Int

def grT : Tree AV := .leaf (kBool.enc true)
def grF : Tree AV := .leaf (.lit false)
def grpEnd {K : Type} (eqP : Ap K → Ap K → Bool) (zp : Ap K) (t : GP K) (a b c : Ap K) : Tree AV :=
  .br (eqP (t.ad a b).1 (t.ad b a).1) (.br (eqP (t.ad (t.ad a b).1 c).1 (t.ad a (t.ad b c).1).1) (.br (eqP (t.ad a (t.ne a).1).1 zp) (.br (eqP (t.ad a zp).1 a) (.leaf (kBool.enc (t.ck (t.ad (t.ad a b).1 c).1))) grF) grF) grF) grF
def grpTree {K : Type} (eqP : Ap K → Ap K → Bool) (zp : Ap K) (t : GP K) (a b c : Ap K) : Tree AV :=
  .br (!t.ck a) grT (.br (!t.ck b) grT (.br (!t.ck c) grT
    (.br ((t.ad a b).2 == 0) (.br ((t.ad b a).2 == 0) (.br ((t.ad b c).2 == 0) (.br ((t.ad (t.ad a b).1 c).2 == 0) (.br ((t.ad a (t.ad b c).1).2 == 0) (.br ((t.ne a).2 == 0) (.br ((t.ad a (t.ne a).1).2 == 0) (.br ((t.ad a zp).2 == 0)
      (grpEnd eqP zp t a b c) grF)
      (.br false (grpEnd eqP zp t a b c) grF)) (.br false (grpEnd eqP zp t a b c) grF)) (.br false (grpEnd eqP zp t a b c) grF)) (.br false (grpEnd eqP zp t a b c) grF)) (.br false (grpEnd eqP zp t a b c) grF)) (.br false (grpEnd eqP zp t a b c) grF)) (.br false (grpEnd eqP zp t a b c) grF))))

def gpT1 (t : GP W6) : PureTab := [(55, fn0 kBool true), (30, fn1 aW.agg kBool t.ck), (36, fn2 aW.agg aW.agg kPW t.ad), (35, fn1 aW.agg kPW t.ne)]
noncomputable def gpE1 (t : GP W6) : Env := envH eqsT (gpT1 t) []
def zeroP1 : Ap W6 := ⟨zeroW, zeroW, true⟩
set_option maxRecDepth 1000000 in
theorem group1_law (t : GP W6) (a b c : Ap W6) : (afunR PR (gpE1 t) [29, 34, 38, 89, 93, 97, 101, 105, 109, 113, 121, 126, 131, 136, 141] (fun _ => none) 10 6 [aW.agg.enc a, aW.agg.enc b, aW.agg.enc c]).strict = grpTree eqP13 zeroP1 t a b c := by kernel_rfl

def gpT2 (t : GP D6) : PureTab := [(55, fn0 kBool true), (43, fn1 aD.agg kBool t.ck), (49, fn2 aD.agg aD.agg kPD t.ad), (48, fn1 aD.agg kPD t.ne)]
noncomputable def gpE2 (t : GP D6) : Env := envH eqsT (gpT2 t) []
def zeroP2 : Ap D6 := ⟨zeroD, zeroD, true⟩
set_option maxRecDepth 1000000 in
theorem group2_law (t : GP D6) (a b c : Ap D6) : (afunR PR (gpE2 t) [29, 34, 38, 89, 93, 97, 101, 105, 109, 113, 121, 126, 131, 136, 141] (fun _ => none) 10 8 [aD.agg.enc a, aD.agg.enc b, aD.agg.enc c]).strict = grpTree eqP25 zeroP2 t a b c := by kernel_rfl

/-- What makes the laws true. -/
structure GPOk {K : Type} (eqP : Ap K → Ap K → Bool) (zp : Ap K) (t : GP K) : Prop where
  refl : ∀ p, eqP p p = true
  ad : ∀ p q, t.ck p = true → t.ck q = true → (t.ad p q).2 = 0 ∧ t.ck (t.ad p q).1 = true
  ne : ∀ p, t.ck p = true → (t.ne p).2 = 0 ∧ t.ck (t.ne p).1 = true
  zc : t.ck zp = true
  comm : ∀ p q, t.ck p = true → t.ck q = true → (t.ad p q).1 = (t.ad q p).1
  assoc : ∀ p q r, t.ck p = true → t.ck q = true → t.ck r = true → (t.ad (t.ad p q).1 r).1 = (t.ad p (t.ad q r).1).1
  neg : ∀ p, t.ck p = true → (t.ad p (t.ne p).1).1 = zp
  zero : ∀ p, t.ck p = true → (t.ad p zp).1 = p

theorem grT_ok : grT.holds (fun q => flat q = some (.bool true)) := rfl
theorem go_on {c : Bool} {x y : Tree AV} (hc : c = true) (h : x.holds (fun q => flat q = some (.bool true))) : (Tree.br c x y).holds (fun q => flat q = some (.bool true)) := ⟨fun _ => h, fun hf => by rw [hc] at hf; cases hf⟩
theorem eq_zero {z : Int} (h : z = 0) : (z == 0) = true := by rw [h]; rfl
theorem grpTree_true {K : Type} {eqP : Ap K → Ap K → Bool} {zp : Ap K} {t : GP K} (h : GPOk eqP zp t) (a b c : Ap K) : (grpTree eqP zp t a b c).holds (fun q => flat q = some (.bool true)) := by
  unfold grpTree grpEnd
  refine ⟨fun _ => grT_ok, fun ha => ⟨fun _ => grT_ok, fun hb => ⟨fun _ => grT_ok, fun hc => ?_⟩⟩⟩
  have ha : t.ck a = true := by simpa using ha
  have hb : t.ck b = true := by simpa using hb
  have hc : t.ck c = true := by simpa using hc
  obtain ⟨e1, k1⟩ := h.ad a b ha hb
  obtain ⟨e2, k2⟩ := h.ad b a hb ha
  obtain ⟨e3, k3⟩ := h.ad b c hb hc
  obtain ⟨e4, k4⟩ := h.ad _ c k1 hc
  obtain ⟨e5, k5⟩ := h.ad a _ ha k3
  obtain ⟨e6, k6⟩ := h.ne a ha
  obtain ⟨e7, k7⟩ := h.ad a _ ha k6
  obtain ⟨e8, k8⟩ := h.ad a zp ha h.zc
  refine go_on (eq_zero e1) (go_on (eq_zero e2) (go_on (eq_zero e3) (go_on (eq_zero e4) (go_on (eq_zero e5) (go_on (eq_zero e6) (go_on (eq_zero e7) (go_on (eq_zero e8) (go_on ?_ (go_on ?_ (go_on ?_ (go_on ?_ ?_)))))))))))
  · rw [h.comm a b ha hb]; exact h.refl _
  · rw [h.assoc a b c ha hb hc]; exact h.refl _
  · rw [h.neg a ha]; exact h.refl _
  · rw [h.zero a ha]; exact h.refl _
  · rw [k4]; rfl
end Go.Rq

/- The law PointSigns, gone through: what is called left open. -/
namespace Go.Rq
open Go Go.Proofs

/-! Are two slices' bytes the same? -/
noncomputable def sbE : Env := envS eqsT [] [] [9]
theorem sbE_ok : EnvOk PR sbE := envS_ok eqsT_ok TabPOk.nil TabHOk.nil
theorem sb_ctx : Ctx PR sbE [] (fun _ => none) 40 24 :=
  ctx_of sbE_ok mixed (fn := Try.f24) (by kernel_rfl) (by kernel_rfl) (by kernel_rfl) (tabOk_none _)
theorem sb_ent : Enters PR 24 := enters_of (fn := Try.f24) (by kernel_rfl) (by kernel_rfl) (by kernel_rfl)
noncomputable def sbV : List AV → AH → Option (Bool × AV × AH) := viewG PR sbE [] 40 24
theorem sbV_ok : HeapOk PR 24 sbV := view_ok sb_ctx

structure SG where
  ne1 : Ap W6 → Ap W6 × Int
  ok1 : Ap W6 → Bool
  by1 : Ap W6 → Nat → Int
  ne2 : Ap D6 → Ap D6 × Int
  ok2 : Ap D6 → Bool
  by2 : Ap D6 → Nat → Int

def sgT (t : SG) : PureTab := [(68, fn0 kBool true), (35, fn1 aW.agg kPW t.ne1), (48, fn1 aD.agg kPD t.ne2)]
noncomputable def sgE (t : SG) : Env := envA eqsT (sgT t) [(24, sbV)]
  [(69, layN aW.agg 5 (cBy 48) t.ok1 bR1 t.by1), (70, layN aD.agg 5 (cBy 96) t.ok2 bR2 t.by2)] [] [] [] true [24]
def xor8 (x y : Int) : Int := IntKind.u8.wrap (((BitVec.ofInt IntKind.u8.bits x ^^^ BitVec.ofInt IntKind.u8.bits y).toNat : Nat) : Int)
/-- Bytes as a string. -/
def strB (l : List Int) : ByteArray := l.foldl (fun r n => r.push (UInt8.ofNat n.toNat)) ByteArray.empty
/-- Are two strings the same, as the model tells it? -/
def strEq (a b : ByteArray) : Bool := a.toList == b.toList
theorem strEq_refl (a : ByteArray) : strEq a a = true := by
  unfold strEq
  exact beq_self_eq_true _
def sgEnd : Tree AV := .need true grT
def sgBad : Tree AV := .need true (.need true grF)
def sgPart {V : Type} (ne : Ap V → Ap V × Int) (y0 : Ap V → Bool) (p : Ap V) (no yes : Tree AV) : Tree AV :=
  .br ((ne p).2 == 0) (.br p.zero no (.br (!y0 p) yes no)) no
def sgIn {V : Type} (ne : Ap V → Ap V × Int) (ok : Ap V → Bool) (bs : Ap V → Nat → Int) (n : Nat) (p : Ap V) (K : Tree AV) : Tree AV :=
  .need (ok p && true) (.need (ok (ne p).1 && true) (.br (xor8 (bs p 0) (bs (ne p).1 0) != 32) sgBad (.br (strEq (strB (bytI (bs p) 1 n)) (strB (bytI (bs (ne p).1) 1 n))) (.need true K) sgBad)))
def sgTree (t : SG) (p : Ap W6) (q : Ap D6) : Tree AV :=
  sgPart t.ne1 (fun p => eqW p.y zeroW) p (sgPart t.ne2 (fun q => eqD q.y zero2) q (.need true sgEnd) (.need true (sgIn t.ne2 t.ok2 t.by2 95 q sgEnd)))
    (sgIn t.ne1 t.ok1 t.by1 47 p (sgPart t.ne2 (fun q => eqD q.y zero2) q (.need true sgEnd) (.need true (sgIn t.ne2 t.ok2 t.by2 95 q sgEnd))))
noncomputable def sgWk (t : SG) (p : Ap W6) (q : Ap D6) : Tree AV := afunR PR (sgE t) [30, 33, 40, 68, 75, 79, 82, 89, 117, 124] (fun _ => none) 60 12 [aW.agg.enc p, aD.agg.enc q]
set_option maxRecDepth 1000000 in
theorem sg_run (t : SG) (p : Ap W6) (q : Ap D6) : Tree.but [5, 6, 7, 8, 9, 10, 11, 12, 13, 14, 15] 0 (sgWk t p q) = sgTree t p q := by kernel_rfl
end Go.Rq

/- The reference's sum and difference are the program's. -/
namespace Go.Rq
open Go Go.Proofs

theorem raC_eq (x y : BitVec 64) (c : Bool) : raC x y (bitW c) = bitW (add64 x y c).2 := by
  have hx := x.isLt
  have hy := y.isLt
  have hc := b2n_le c
  have e : (bif BitVec.ult (x + y + bitW c) (x + y) then true else BitVec.ult (x + y) x) = (add64 x y c).2 := by
    have e2 : (add64 x y c).2 = decide (18446744073709551616 ≤ x.toNat + y.toNat + b2n c) := rfl
    have e3 : (x + y + bitW c).toNat = ((x.toNat + y.toNat) % 18446744073709551616 + b2n c) % 18446744073709551616 := by rw [BitVec.toNat_add, BitVec.toNat_add, bitW_nat]
    have e4 : (x + y).toNat = (x.toNat + y.toNat) % 18446744073709551616 := BitVec.toNat_add x y
    rw [e2]
    unfold BitVec.ult
    rw [e3, e4]
    rw [Bool.eq_iff_iff, decide_eq_true_eq]
    by_cases h : ((x.toNat + y.toNat) % 18446744073709551616 + b2n c) % 18446744073709551616 < (x.toNat + y.toNat) % 18446744073709551616
    · rw [decide_eq_true h, cond_true]
      constructor
      · intro _; omega
      · intro _; rfl
    · rw [decide_eq_false h, cond_false, decide_eq_true_eq]
      omega
  unfold raC
  rw [e]
  cases (add64 x y c).2 <;> rfl

theorem rsC_eq (x y : BitVec 64) (c : Bool) : rsC x y (bitW c) = bitW (sub64 x y c).2 := by
  have hx := x.isLt
  have hy := y.isLt
  have hc := b2n_le c
  have e : (bif BitVec.ult (x - y) (bitW c) then true else BitVec.ult x y) = (sub64 x y c).2 := by
    have e2 : (sub64 x y c).2 = decide (x.toNat < y.toNat + b2n c) := rfl
    have e4 : (x - y).toNat = (18446744073709551616 - y.toNat + x.toNat) % 18446744073709551616 := BitVec.toNat_sub x y
    rw [e2]
    unfold BitVec.ult
    rw [e4, bitW_nat]
    rw [Bool.eq_iff_iff, decide_eq_true_eq]
    by_cases h : (18446744073709551616 - y.toNat + x.toNat) % 18446744073709551616 < b2n c
    · rw [decide_eq_true h, cond_true]
      constructor
      · intro _; omega
      · intro _; rfl
    · rw [decide_eq_false h, cond_false, decide_eq_true_eq]
      omega
  unfold rsC
  rw [e]
  cases (sub64 x y c).2 <;> rfl

theorem bitW_beq (c : Bool) : (bitW c == bitW true) = c := by cases c <;> rfl

theorem raddW_eq (a b : W6) : raddW a b = adds a b := by
  simp only [raddW, raC_eq, bitW_beq, adds]
  rfl

theorem rsubW_eq (a b : W6) : rsubW a b = subs a b := by
  simp only [rsubW, rsC_eq, bitW_beq, subs]
  rfl
end Go.Rq
