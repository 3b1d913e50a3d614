/- The reference's multiples of a point by a number: contracts; the law's own function. -/
import Derived.Test.YtdbcjiggimppdaaRq14
import Derived.Test.YtdbcjiggimppdaaRq13
import Derived.Test.YtdbcjiggimppdaaRq07
import Derived.Test.YtdbcjiggimppdaaRq08
namespace Go.Rq
open Go Go.Proofs

/-! A number's words, without noughts at the end. -/
def wdK (ln : W6 → Int) (n : W6) : Int := quo64 (IntKind.i64.wrap (ln n + 63))
def wdL (ln : W6 → Int) (n : W6) : Nat := (wdK ln n).toNat - 0
def wdCond (k : Int) : Bool := (decide (0 ≤ k ∧ k ≤ ((6 : Nat) : Int)) && decide ((0 : Int) ≤ 0 ∧ (0 : Int) ≤ k)) && true
def wdT (ln : W6 → Int) : PureTab := [(147, fn1 c6.agg (kInt .i64) ln)]
theorem words_run (ln : W6 → Int) (n : W6) : Tree.but [2] 0 (afunS PR (envOf eqsT (wdT ln)) [] 40 98 47 [c6.agg.enc n]) =
    .need (wdCond (wdK ln n)) (.leaf (.tup [.slc 0 0 (wdL ln n) 6, .agg (c6.enc n)])) := by kernel_rfl
theorem words_ctx : Ctx PR (envOf eqsT (wdT rlenI)) [] (fun _ => none) 40 98 :=
  ctx_of (envOf_ok eqsT_ok (TabPOk.cons rlen_ok TabPOk.nil)) mixed (fn := Try.f98) (by kernel_rfl) (by kernel_rfl) (by kernel_rfl) (tabOk_none _)
theorem wdK_eq (n : W6) : wdK rlenI n = (rlenI n + 63) / 64 := by
  have h := rlenI_le n
  unfold wdK quo64
  rw [wrap_id (n := rlenI n + 63) (by omega) (by omega), Int.tdiv_eq_ediv_of_nonneg (by omega), wrap_id (by omega) (by omega)]
theorem wdL_eq (n : W6) : wdL rlenI n = (rlenI n).toNat / 64 + (if (rlenI n).toNat % 64 = 0 then 0 else 1) := by
  have h := rlenI_le n
  unfold wdL
  rw [wdK_eq]
  split <;> omega
theorem wdL_le (n : W6) : wdL rlenI n ≤ 6 ∧ (rlenI n).toNat ≤ 64 * wdL rlenI n := by
  have h := rlenI_le n
  unfold wdL
  rw [wdK_eq]
  omega
theorem words_okL : LayOk PR 98 (layS c6.agg 47 c6 (wdL rlenI) 6 (fun n => n)) :=
  layS_ok words_ctx fun n => Tree.holds_but (l := [2]) (i := 0) (by
    rw [words_run]
    refine ⟨?_, rfl⟩
    have h := rlenI_le n
    unfold wdCond
    rw [wdK_eq]
    simp
    omega)
theorem words_ent : Enters PR 98 := enters_of (fn := Try.f98) (by kernel_rfl) (by kernel_rfl) (by kernel_rfl)

/-! A point by words. -/
def thOf (p : Ap W6) : Th := ⟨⟨p.x, zeroW⟩, ⟨p.y, zeroW⟩, ⟨numOne, zeroW⟩, true⟩
def maT (tw : Th → D6 × D6 × Bool) : PureTab := [(146, fn1 cTh.agg kT3 tw)]
noncomputable def maE (tw : Th → D6 × D6 × Bool) (ok : Nat → Bool) (mu : Th → W6 → Nat → Th) : Env := envL eqsT (maT tw) [(145, slv 47 cTh.agg c6 cTh.agg ok mu)] [] false
set_option maxRecDepth 100000 in
theorem many_run (tw : Th → D6 × D6 × Bool) (ok : Nat → Bool) (mu : Th → W6 → Nat → Th) (p : Ap W6) (w : W6) (len cap : Nat) : Tree.but [3] 0 (afunT PR (maE tw ok mu) [10, 33] (fun _ => none) 40 97 [aW.agg.enc p, .slc 0 0 len cap] (oneAH c6 47 w) 1) =
    .br p.zero (.leaf (aW.agg.enc p)) (.need (ok len && true) (.br (!(tw (mu (thOf p) w len)).2.2) (.leaf (apA ⟨zeroW, zeroW, true⟩ true)) (.leaf (apA ⟨(tw (mu (thOf p) w len)).1.a, (tw (mu (thOf p) w len)).2.1.a, false⟩ false)))) := by kernel_rfl
def manyG (tw : Th → D6 × D6 × Bool) (mu : Th → W6 → Nat → Th) (p : Ap W6) (w : W6) (len : Nat) : Ap W6 :=
  bif p.zero then p else bif !(tw (mu (thOf p) w len)).2.2 then ⟨zeroW, zeroW, true⟩ else ⟨(tw (mu (thOf p) w len)).1.a, (tw (mu (thOf p) w len)).2.1.a, false⟩
theorem givesU {P : Program} {E : Env} {sym : List Tmp} {tab : BTab} {lf f : Nat} {args : List AV} {h : AH} {n : Nat} {l : List Nat} {u : Tree AV} {v : Value} (e : Tree.but l 0 (afunT P E sym tab lf f args h n) = u) (hu : u.holds (fun q => flat q = some v)) :
    GivesH (afun P E sym tab lf f args h n) v := ⟨Tree.holds_bind (Tree.holds_but (l := l) (i := 0) (by rw [show Tree.but l 0 ((afun P E sym tab lf f args h n).bind fun q => Tree.leaf q.1) = u from e]; exact hu))⟩
theorem many_gives (tw : Th → D6 × D6 × Bool) (ok : Nat → Bool) (mu : Th → W6 → Nat → Th) (p : Ap W6) (w : W6) (len cap : Nat) (hk : ok len = true) :
    GivesH (afun PR (maE tw ok mu) [10, 33] (fun _ => none) 40 97 [aW.agg.enc p, .slc 0 0 len cap] (oneAH c6 47 w) 1) (aW.agg.val (manyG tw mu p w len)) :=
  givesU (many_run tw ok mu p w len cap) (holds_br (B := aW.agg) (holds_leaf (aW.agg.h1 _)) ⟨by rw [hk]; rfl, holds_br (B := aW.agg) (holds_leaf (apA_flat _ _ rfl)) (holds_leaf (apA_flat _ _ rfl))⟩)
theorem maE_ok : EnvOk PR (maE twW le6 multW) := envL_ok eqsT_ok (TabPOk.cons two_ok TabPOk.nil) (TabHOk.cons mu_ent mu_okH TabHOk.nil) TabLOk.nil
def manyW : Ap W6 → W6 → Nat → Ap W6 := manyG twW multW
theorem many_okH : HeapOk PR 97 (slv 47 aW.agg c6 aW.agg le6 manyW) :=
  slv_ok (E := maE twW le6 multW) (sym := [10, 33]) (lf := 40) (tab := fun _ _ _ _ => fun _ => none) maE_ok mixed (fn := Try.f97) (c := bodyOf PR 97) (by kernel_rfl) (by kernel_rfl) (by kernel_rfl)
    (fun _ _ _ _ _ => tabOk_none _) (fun p w len cap hk => many_gives twW le6 multW p w len cap hk)
theorem many_ent : Enters PR 97 := enters_of (fn := Try.f97) (by kernel_rfl) (by kernel_rfl) (by kernel_rfl)

/-! A point by a number. -/
noncomputable def mlE (ok : Nat → Bool) (ma : Ap W6 → W6 → Nat → Ap W6) (L : W6 → Nat) : Env :=
  envL eqsT [] [(97, slv 47 aW.agg c6 aW.agg ok ma)] [(98, layS c6.agg 47 c6 L 6 (fun n => n))] false
theorem mul1_run (ok : Nat → Bool) (ma : Ap W6 → W6 → Nat → Ap W6) (L : W6 → Nat) (p : Ap W6) (n : W6) : Tree.but [1] 0 (afunR PR (mlE ok ma L) [] (fun _ => none) 40 41 [aW.agg.enc p, c6.agg.enc n]) =
    .need (ok (L n) && true) (.leaf (aW.agg.enc (ma p n (L n)))) := by kernel_rfl
theorem mlE_ok : EnvOk PR (mlE le6 manyW (wdL rlenI)) := envL_ok eqsT_ok TabPOk.nil (TabHOk.cons many_ent many_okH TabHOk.nil) (TabLOk.cons words_ent words_okL TabLOk.nil)
theorem mul1_ctx : Ctx PR (mlE le6 manyW (wdL rlenI)) [] (fun _ => none) 40 41 :=
  ctx_of mlE_ok mixed (fn := Try.f41) (by kernel_rfl) (by kernel_rfl) (by kernel_rfl) (tabOk_none _)
theorem givesB {t u : Tree AV} {v : Value} {l : List Nat} (e : Tree.but l 0 t = u) (hu : u.holds (fun q => flat q = some v)) : Gives t v := ⟨Tree.holds_but (l := l) (i := 0) (by rw [e]; exact hu)⟩
theorem mul1_gives (ok : Nat → Bool) (ma : Ap W6 → W6 → Nat → Ap W6) (L : W6 → Nat) (p : Ap W6) (n : W6) (h : ok (L n) = true) : Gives (afunR PR (mlE ok ma L) [] (fun _ => none) 40 41 [aW.agg.enc p, c6.agg.enc n]) (aW.agg.val (ma p n (L n))) :=
  givesB (mul1_run ok ma L p n) ⟨by rw [h]; rfl, aW.agg.h1 _⟩
def rmul1 (p : Ap W6) (n : W6) : Ap W6 := manyW p n (wdL rlenI n)
theorem rmul1_ok : CallOk PR 41 (fn2 aW.agg c6.agg aW.agg rmul1) :=
  .inl ⟨enters_of (fn := Try.f41) (by kernel_rfl) (by kernel_rfl) (by kernel_rfl), pure2 mul1_ctx (fun p n => mul1_gives le6 manyW (wdL rlenI) p n (Nat.ble_eq_true_of_le (wdL_le n).1))⟩

/-! Is it of the group? -/
def rinT1 (ck : Ap W6 → Bool) (od : W6) (ml : Ap W6 → W6 → Ap W6) : PureTab := [(29, fn1 aW.agg kBool ck), (89, fn0 c6.agg od), (41, fn2 aW.agg c6.agg aW.agg ml)]
theorem rin1_run (ck : Ap W6 → Bool) (od : W6) (ml : Ap W6 → W6 → Ap W6) (p : Ap W6) : (afunR PR (envOf eqsT (rinT1 ck od ml)) [5] (fun _ => none) 40 32 [aW.agg.enc p]).strict =
    .br (ck p) (.leaf (kBool.enc (ml p od).zero)) (.leaf (.lit false)) := by kernel_rfl
def rin1G (ck : Ap W6 → Bool) (od : W6) (ml : Ap W6 → W6 → Ap W6) (p : Ap W6) : Bool := bif ck p then (ml p od).zero else false
theorem rin1_gives (ck : Ap W6 → Bool) (od : W6) (ml : Ap W6 → W6 → Ap W6) (p : Ap W6) : Gives (afunR PR (envOf eqsT (rinT1 ck od ml)) [5] (fun _ => none) 40 32 [aW.agg.enc p]) (kBool.val (rin1G ck od ml p)) :=
  givesOf (rin1_run ck od ml p) (holds_br (B := kBool) (holds_leaf (kBool.h1 _)) (holds_leaf (a := .lit false) (v := kBool.val false) rfl))
def rin1 : Ap W6 → Bool := rin1G rcheck1 orderW rmul1
theorem rin1_ctx : Ctx PR (envOf eqsT (rinT1 rcheck1 orderW rmul1)) [5] (fun _ => none) 40 32 :=
  ctx_of (envOf_ok eqsT_ok (TabPOk.cons rck_ok (TabPOk.cons rorder_ok (TabPOk.cons rmul1_ok TabPOk.nil)))) mixed (fn := Try.f32) (by kernel_rfl) (by kernel_rfl) (by kernel_rfl) (tabOk_none _)
theorem rin1_ok : CallOk PR 32 (fn1 aW.agg kBool rin1) :=
  .inl ⟨enters_of (fn := Try.f32) (by kernel_rfl) (by kernel_rfl) (by kernel_rfl), pure1 rin1_ctx (fun p => rin1_gives rcheck1 orderW rmul1 p)⟩

/-! Is what is told the wanted one? -/
def fn4 {α γ δ ε β : Type} (A : Cod α) (C : Cod γ) (D : Cod δ) (E : Cod ε) (B : Cod β) (F : α → γ → δ → ε → β) : List AV → Option (Bool × AV)
  | [a, c, d, e] => match A.dec a, C.dec c, D.dec d, E.dec e with
    | some x, some y, some z, some u => some (true, B.enc (F x y z u))
    | _, _, _, _ => none
  | _ => none
theorem pure4 {P : Program} {E : Env} {sym : List Tmp} {tab : BTab} {lf f : Nat} {α β γ δ ε : Type} {A : Cod α} {B : Cod β} {C : Cod γ} {D : Cod δ} {D' : Cod ε} (X : Ctx P E sym tab lf f) {F : α → γ → δ → ε → β}
    (h : ∀ x y z u, Gives (afunR P E sym tab lf f [A.enc x, C.enc y, D.enc z, D'.enc u]) (B.val (F x y z u))) : PureOk P f (fn4 A C D D' B F) := by
  refine pure_core X fun args r hg => ?_
  unfold fn4 at hg
  split at hg
  · rename_i a c d e
    split at hg
    · rename_i x y z u hx hy hz hu
      simp at hg; subst hg
      refine ⟨[A.enc x, C.enc y, D.enc z, D'.enc u], [A.val x, C.val y, D.val z, D'.val u], fun ρ xs hxs => ?_, by simp [flatL, A.h1, C.h1, D.h1, D'.h1], _, B.h1 _, (h x y z u).out⟩
      obtain ⟨v0, y0, rfl, h0, r0⟩ := hxs.uncons
      obtain ⟨v1, y1, rfl, h1, r1⟩ := r0.uncons
      obtain ⟨v2, y2, rfl, h2, r2⟩ := r1.uncons
      obtain ⟨v3, y3, rfl, h3, r3⟩ := r2.uncons
      rw [r3.unnil, A.h2 ρ _ _ _ hx h0, C.h2 ρ _ _ _ hy h1, D.h2 ρ _ _ _ hz h2, D'.h2 ρ _ _ _ hu h3]
    · cases hg
  · cases hg
def noneP : Ap W6 := ⟨zeroW, zeroW, false⟩
theorem onl1_run (p : Ap W6) (e : Int) (f : Bool) (w : Ap W6) : (afunR PR (envOf eqsT []) [10, 14, 21] (fun _ => none) 40 38 [aW.agg.enc p, (kInt .i64).enc e, kBool.enc f, aW.agg.enc w]).strict =
    .br (!f) (.br (eqP13 p noneP) (.leaf (kBool.enc (e == 5))) (.leaf (.lit false))) (.br (eqP13 p w) (.leaf (kBool.enc (e == 0))) (.leaf (.lit false))) := by kernel_rfl
def oneG (p : Ap W6) (e : Int) (f : Bool) (w : Ap W6) : Bool := bif !f then (bif eqP13 p noneP then e == 5 else false) else (bif eqP13 p w then e == 0 else false)
theorem onl1_ctx : Ctx PR (envOf eqsT []) [10, 14, 21] (fun _ => none) 40 38 :=
  ctx_of (envOf_ok eqsT_ok TabPOk.nil) mixed (fn := Try.f38) (by kernel_rfl) (by kernel_rfl) (by kernel_rfl) (tabOk_none _)
theorem onl1_ok : CallOk PR 38 (fn4 aW.agg (kInt .i64) kBool aW.agg kBool oneG) :=
  .inl ⟨enters_of (fn := Try.f38) (by kernel_rfl) (by kernel_rfl) (by kernel_rfl), pure4 onl1_ctx (fun p e f w => givesOf (onl1_run p e f w)
    (holds_br (B := kBool) (holds_br (B := kBool) (holds_leaf (kBool.h1 _)) (holds_leaf (a := .lit false) (v := kBool.val false) rfl)) (holds_br (B := kBool) (holds_leaf (kBool.h1 _)) (holds_leaf (a := .lit false) (v := kBool.val false) rfl))))⟩
end Go.Rq

/- The curves' negations, and the second group's tests: kernel checks. Written by a program of ours. -/
namespace Go.Rq
open Go Go.Proofs

set_option maxRecDepth 100000 in
theorem below2_run (l : W6 → Bool) (p : Ap D6) : (afunR PR (envOf eqsT [(130, fn1 c6.agg kBool l)]) [7, 13, 19] (fun _ => none) 40 101 [aD.agg.enc p]).strict =
    .br (l p.x.a) (.br (l p.x.b) (.br (l p.y.a) (.leaf (kBool.enc (l p.y.b))) (.leaf (.lit false))) (.leaf (.lit false))) (.leaf (.lit false)) := by kernel_rfl


set_option maxRecDepth 100000 in
theorem neg1_run (ck : Ap W6 → Bool) (fi : Fl W6) (inn ou : Ap W6 → Ap W6) (ne : Fl W6 → Ap W6 → Ap W6) (p : Ap W6) :
    (afunR PR (envOf eqsT [(30, fn1 aW.agg kBool ck), (85, fn0 flW.agg fi), (87, fn1 aW.agg aW.agg inn), (91, fn1 aW.agg aW.agg ou), (92, fn2 flW.agg aW.agg aW.agg ne)]) [6] (fun _ => none) 40 35 [aW.agg.enc p]).strict =
    .br (!(ck p)) (.leaf (.tup [.agg (c6.enc zeroW ++ (c6.enc zeroW ++ [.lit false])), .v (.int .i64 5)])) (.leaf (.tup [aW.agg.enc (ou (ne fi (inn p))), .v (.int .i64 0)])) := by kernel_rfl


set_option maxRecDepth 100000 in
theorem neg2_run (ck : Ap D6 → Bool) (fi : Fl D6) (inn ou : Ap D6 → Ap D6) (ne : Fl D6 → Ap D6 → Ap D6) (p : Ap D6) :
    (afunR PR (envOf eqsT [(43, fn1 aD.agg kBool ck), (102, fn0 flD.agg fi), (104, fn1 aD.agg aD.agg inn), (106, fn1 aD.agg aD.agg ou), (107, fn2 flD.agg aD.agg aD.agg ne)]) [6] (fun _ => none) 40 48 [aD.agg.enc p]).strict =
    .br (!(ck p)) (.leaf (.tup [.agg (c12.enc zero2 ++ (c12.enc zero2 ++ [.lit false])), .v (.int .i64 5)])) (.leaf (.tup [aD.agg.enc (ou (ne fi (inn p))), .v (.int .i64 0)])) := by kernel_rfl

end Go.Rq

/- The curves' negations, and the second group's tests: contracts. Written by a program of ours. -/
namespace Go.Rq
open Go Go.Proofs

def kPW : Cod (Ap W6 × Int) := kTup aW.agg (kInt .i64) (fun _ => by kernel_rfl) (fun _ => rfl)
def kPD : Cod (Ap D6 × Int) := kTup aD.agg (kInt .i64) (fun _ => by kernel_rfl) (fun _ => rfl)
theorem noneFlatW : flat (.tup [.agg (c6.enc zeroW ++ (c6.enc zeroW ++ [.lit false])), .v (.int .i64 5)]) = some (kPW.val (⟨zeroW, zeroW, false⟩, 5)) := by kernel_rfl
theorem noneFlatD : flat (.tup [.agg (c12.enc zero2 ++ (c12.enc zero2 ++ [.lit false])), .v (.int .i64 5)]) = some (kPD.val (⟨zero2, zero2, false⟩, 5)) := by kernel_rfl
def belowP2 (p : Ap D6) : Bool := bif belowI p.x.a then (bif belowI p.x.b then (bif belowI p.y.a then belowI p.y.b else false) else false) else false
def checkP2 (p : Ap D6) : Bool := bif belowP2 p then onE fD eqD fld2 (inP2 p) else false
def inGroup2 (p : Ap D6) : Bool := bif belowP2 p then inED fld2 (inP2 p) else false

def tt_belowp2 : PureTab := [(130, fn1 c6.agg kBool belowI)]
theorem tt_belowp2_ok : TabPOk PR tt_belowp2 := TabPOk.cons below_ok (TabPOk.nil)
theorem belowp2_ctx : Ctx PR (envOf eqsT tt_belowp2) [7, 13, 19] (fun _ => none) 40 101 :=
  ctx_of (envOf_ok eqsT_ok tt_belowp2_ok) mixed (fn := Try.f101) (by kernel_rfl) (by kernel_rfl) (by kernel_rfl) (tabOk_none _)
theorem belowp2_ok : CallOk PR 101 (fn1 aD.agg kBool belowP2) :=
  .inl ⟨enters_of (fn := Try.f101) (by kernel_rfl) (by kernel_rfl) (by kernel_rfl), pure1 belowp2_ctx (fun p => givesOf (below2_run belowI p) (holds_br (B := kBool) (holds_br (B := kBool) (holds_br (B := kBool) (holds_leaf (kBool.h1 _)) (holds_leaf (a := .lit false) (v := kBool.val false) rfl)) (holds_leaf (a := .lit false) (v := kBool.val false) rfl)) (holds_leaf (a := .lit false) (v := kBool.val false) rfl)))⟩

def tt_checkp2 : PureTab := [(101, fn1 aD.agg kBool belowP2), (102, fn0 flD.agg fld2), (104, fn1 aD.agg aD.agg inP2), (103, fn2 flD.agg aD.agg kBool (onE fD eqD))]
theorem tt_checkp2_ok : TabPOk PR tt_checkp2 := TabPOk.cons belowp2_ok (TabPOk.cons second_ok (TabPOk.cons inp2_ok (TabPOk.cons onD_ok (TabPOk.nil))))
theorem checkp2_ctx : Ctx PR (envOf eqsT tt_checkp2) [5] (fun _ => none) 40 43 :=
  ctx_of (envOf_ok eqsT_ok tt_checkp2_ok) mixed (fn := Try.f43) (by kernel_rfl) (by kernel_rfl) (by kernel_rfl) (tabOk_none _)
theorem checkp2_ok : CallOk PR 43 (fn1 aD.agg kBool checkP2) :=
  .inl ⟨enters_of (fn := Try.f43) (by kernel_rfl) (by kernel_rfl) (by kernel_rfl), pure1 checkp2_ctx (fun p => givesOf (check2_run belowP2 fld2 inP2 (onE fD eqD) p) (holds_br (B := kBool) (holds_leaf (kBool.h1 _)) (holds_leaf (a := .lit false) (v := kBool.val false) rfl)))⟩

def tt_isinp2 : PureTab := [(101, fn1 aD.agg kBool belowP2), (102, fn0 flD.agg fld2), (104, fn1 aD.agg aD.agg inP2), (105, fn2 flD.agg aD.agg kBool inED)]
theorem tt_isinp2_ok : TabPOk PR tt_isinp2 := TabPOk.cons belowp2_ok (TabPOk.cons second_ok (TabPOk.cons inp2_ok (TabPOk.cons isD_ok (TabPOk.nil))))
theorem isinp2_ctx : Ctx PR (envOf eqsT tt_isinp2) [5] (fun _ => none) 40 44 :=
  ctx_of (envOf_ok eqsT_ok tt_isinp2_ok) mixed (fn := Try.f44) (by kernel_rfl) (by kernel_rfl) (by kernel_rfl) (tabOk_none _)
theorem isinp2_ok : CallOk PR 44 (fn1 aD.agg kBool inGroup2) :=
  .inl ⟨enters_of (fn := Try.f44) (by kernel_rfl) (by kernel_rfl) (by kernel_rfl), pure1 isinp2_ctx (fun p => givesOf (isin2_run belowP2 fld2 inP2 inED p) (holds_br (B := kBool) (holds_leaf (kBool.h1 _)) (holds_leaf (a := .lit false) (v := kBool.val false) rfl)))⟩

def negP1 (p : Ap W6) : Ap W6 × Int := bif !(checkP1 p) then (⟨zeroW, zeroW, false⟩, 5) else (outP1 (negE fW (inP1 p)), 0)

def negFW : Fl W6 → Ap W6 → Ap W6 := fun _ p => negE fW p
theorem negFW_ok : CallOk PR 92 (fn2 flW.agg aW.agg aW.agg negFW) := neW_ok

def tt_negp1 : PureTab := [(30, fn1 aW.agg kBool checkP1), (85, fn0 flW.agg fld1), (87, fn1 aW.agg aW.agg inP1), (91, fn1 aW.agg aW.agg outP1), (92, fn2 flW.agg aW.agg aW.agg negFW)]
theorem tt_negp1_ok : TabPOk PR tt_negp1 := TabPOk.cons checkp1_ok (TabPOk.cons first_ok (TabPOk.cons inp1_ok (TabPOk.cons outp1_ok (TabPOk.cons negFW_ok (TabPOk.nil)))))
theorem negp1_ctx : Ctx PR (envOf eqsT tt_negp1) [6] (fun _ => none) 40 35 :=
  ctx_of (envOf_ok eqsT_ok tt_negp1_ok) mixed (fn := Try.f35) (by kernel_rfl) (by kernel_rfl) (by kernel_rfl) (tabOk_none _)
theorem negp1_ok : CallOk PR 35 (fn1 aW.agg kPW negP1) :=
  .inl ⟨enters_of (fn := Try.f35) (by kernel_rfl) (by kernel_rfl) (by kernel_rfl), pure1 negp1_ctx (fun p => givesOf (neg1_run checkP1 fld1 inP1 outP1 negFW p) (holds_br (B := kPW) (holds_leaf noneFlatW) (holds_leaf (kPW.h1 (outP1 (negE fW (inP1 p)), 0)))))⟩

def negP2 (p : Ap D6) : Ap D6 × Int := bif !(checkP2 p) then (⟨zero2, zero2, false⟩, 5) else (outP2 (negE fD (inP2 p)), 0)

def negFD : Fl D6 → Ap D6 → Ap D6 := fun _ p => negE fD p
theorem negFD_ok : CallOk PR 107 (fn2 flD.agg aD.agg aD.agg negFD) := neD_ok

def tt_negp2 : PureTab := [(43, fn1 aD.agg kBool checkP2), (102, fn0 flD.agg fld2), (104, fn1 aD.agg aD.agg inP2), (106, fn1 aD.agg aD.agg outP2), (107, fn2 flD.agg aD.agg aD.agg negFD)]
theorem tt_negp2_ok : TabPOk PR tt_negp2 := TabPOk.cons checkp2_ok (TabPOk.cons second_ok (TabPOk.cons inp2_ok (TabPOk.cons outp2_ok (TabPOk.cons negFD_ok (TabPOk.nil)))))
theorem negp2_ctx : Ctx PR (envOf eqsT tt_negp2) [6] (fun _ => none) 40 48 :=
  ctx_of (envOf_ok eqsT_ok tt_negp2_ok) mixed (fn := Try.f48) (by kernel_rfl) (by kernel_rfl) (by kernel_rfl) (tabOk_none _)
theorem negp2_ok : CallOk PR 48 (fn1 aD.agg kPD negP2) :=
  .inl ⟨enters_of (fn := Try.f48) (by kernel_rfl) (by kernel_rfl) (by kernel_rfl), pure1 negp2_ctx (fun p => givesOf (neg2_run checkP2 fld2 inP2 outP2 negFD p) (holds_br (B := kPD) (holds_leaf noneFlatD) (holds_leaf (kPD.h1 (outP2 (negE fD (inP2 p)), 0)))))⟩

end Go.Rq

/- Sums of one and of two points: contracts. Written by a program of ours. -/
namespace Go.Rq
open Go Go.Proofs

/-- What the functions on points come to, left open. -/
structure GO (K : Type) where
  on : Fl K → Ap K → Bool
  ra : Fl K → Ap K → Jp K
  ti : Fl K → Jp K → W6 → Jp K
  su : Fl K → Jp K → Jp K → Jp K
  lo : Fl K → Jp K → Ap K

section
variable {K : Type} (t : GO K) (z : K)
def ga1 (f : Fl K) (p : Ap K) (n : W6) : Ap K × Int := bif t.on f p then (t.lo f (t.su f ⟨f.one, f.one, z⟩ (t.ti f (t.ra f p) n)), 0) else (⟨z, z, false⟩, 5)
def ga2 (f : Fl K) (x : Ap K × Ap K) (y : W6 × W6) : Ap K × Int := bif t.on f x.1 then (bif t.on f x.2 then
  (t.lo f (t.su f (t.su f ⟨f.one, f.one, z⟩ (t.ti f (t.ra f x.1) y.1)) (t.ti f (t.ra f x.2) y.2)), 0) else (⟨z, z, false⟩, 5)) else (⟨z, z, false⟩, 5)

/-- Likewise of told points. -/
structure SO (K : Type) where
  be : Ap K → Bool
  fi : Fl K
  inn : Ap K → Ap K
  ou : Ap K → Ap K

variable (s : SO K)
def sm1 (G : Fl K → Ap K → W6 → Ap K × Int) (p : Ap K) (n : W6) : Ap K × Int := bif s.be p then (s.ou (G s.fi (s.inn p) n).1, (G s.fi (s.inn p) n).2) else (⟨z, z, false⟩, 5)
def sm2 (G : Fl K → Ap K × Ap K → W6 × W6 → Ap K × Int) (x : Ap K × Ap K) (y : W6 × W6) : Ap K × Int := bif s.be x.1 then (bif s.be x.2 then
  (s.ou (G s.fi (s.inn x.1, s.inn x.2) y).1, (G s.fi (s.inn x.1, s.inn x.2) y).2) else (⟨z, z, false⟩, 5)) else (⟨z, z, false⟩, 5)
end


def gaTW (t : GO W6) : PureTab := [(86, fn2 flW.agg aW.agg kBool t.on), (139, fn2 flW.agg aW.agg jW.agg t.ra), (138, fn3 flW.agg jW.agg c6.agg jW.agg t.ti),
  (161, fn3 flW.agg jW.agg jW.agg jW.agg t.su), (137, fn2 flW.agg jW.agg aW.agg t.lo)]
noncomputable def gaEW (t : GO W6) : Env := envH eqsT (gaTW t) []
def noneWA : Tree AV := .leaf (.tup [.agg (c6.enc zeroW ++ (c6.enc zeroW ++ [.lit false])), .v (.int .i64 5)])
set_option maxRecDepth 100000 in
theorem ga1_runW (t : GO W6) (f : Fl W6) (p : Ap W6) (n : W6) : (afunH PR (gaEW t) [27] 10 112 [flW.agg.enc f, (SlA.own 13 1).at 0, (SlA.slc 1).at 1] (twoAH aW c6 126 47 p n) 2).strict =
    .br (t.on f p) (.leaf (kPW.enc (t.lo f (t.su f ⟨f.one, f.one, zeroW⟩ (t.ti f (t.ra f p) n)), 0))) noneWA := by kernel_rfl
set_option maxRecDepth 100000 in
theorem ga2_runW (t : GO W6) (f : Fl W6) (p q : Ap W6) (n m : W6) : (afunH PR (gaEW t) [27] 10 112 [flW.agg.enc f, (SlA.own 13 2).at 0, (SlA.slc 2).at 1] (twoAH (CC.prod aW aW) (CC.prod c6 c6) 126 47 (p, q) (n, m)) 2).strict =
    .br (t.on f p) (.br (t.on f q) (.leaf (kPW.enc (t.lo f (t.su f (t.su f ⟨f.one, f.one, zeroW⟩ (t.ti f (t.ra f p) n)) (t.ti f (t.ra f q) m)), 0))) noneWA) noneWA := by kernel_rfl

def suTW (s : SO W6) : PureTab := [(84, fn1 aW.agg kBool s.be), (87, fn1 aW.agg aW.agg s.inn), (85, fn0 flW.agg s.fi), (91, fn1 aW.agg aW.agg s.ou)]
noncomputable def suE1W (s : SO W6) (G : Fl W6 → Ap W6 → W6 → Ap W6 × Int) : Env := envH eqsT (suTW s) [(112, sl3 (.own 13 1) (.slc 1) 126 47 flW.agg aW c6 kPW G)]
noncomputable def suE2W (s : SO W6) (G : Fl W6 → Ap W6 × Ap W6 → W6 × W6 → Ap W6 × Int) : Env := envH eqsT (suTW s) [(112, sl3 (.own 13 2) (.slc 2) 126 47 flW.agg (CC.prod aW aW) (CC.prod c6 c6) kPW G)]
set_option maxRecDepth 100000 in
theorem su1_runW (s : SO W6) (G : Fl W6 → Ap W6 → W6 → Ap W6 × Int) (p : Ap W6) (n : W6) : (afunH PR (suE1W s G) [24] 10 56 [(SlA.slc 1).at 0, (SlA.slc 1).at 1] (twoAH aW c6 49 47 p n) 2).strict =
    .br (s.be p) (.leaf (kPW.enc (s.ou (G s.fi (s.inn p) n).1, (G s.fi (s.inn p) n).2))) noneWA := by kernel_rfl
set_option maxRecDepth 100000 in
theorem su2_runW (s : SO W6) (G : Fl W6 → Ap W6 × Ap W6 → W6 × W6 → Ap W6 × Int) (p q : Ap W6) (n m : W6) : (afunH PR (suE2W s G) [24] 10 56 [(SlA.slc 2).at 0, (SlA.slc 2).at 1] (twoAH (CC.prod aW aW) (CC.prod c6 c6) 49 47 (p, q) (n, m)) 2).strict =
    .br (s.be p) (.br (s.be q) (.leaf (kPW.enc (s.ou (G s.fi (s.inn p, s.inn q) (n, m)).1, (G s.fi (s.inn p, s.inn q) (n, m)).2))) noneWA) noneWA := by kernel_rfl

noncomputable def adEW (G : Ap W6 × Ap W6 → W6 × W6 → Ap W6 × Int) (ofw : BitVec 64 → W6) : Env := envH eqsT [(63, fn1 kU c6.agg ofw)] [(56, sl2 (.slc 2) (.slc 2) 49 47 (CC.prod aW aW) (CC.prod c6 c6) kPW G)]
set_option maxRecDepth 100000 in
theorem ad_runW (G : Ap W6 × Ap W6 → W6 × W6 → Ap W6 × Int) (ofw : BitVec 64 → W6) (p q : Ap W6) : (afunR PR (adEW G ofw) [] (fun _ => none) 10 36 [aW.agg.enc p, aW.agg.enc q]).strict =
    .leaf (kPW.enc (G (p, q) (ofw (bitW true), ofw (bitW true)))) := by kernel_rfl
noncomputable def muEW (G : Ap W6 → W6 → Ap W6 × Int) : Env := envH eqsT [] [(56, sl2 (.slc 1) (.slc 1) 49 47 aW c6 kPW G)]
set_option maxRecDepth 100000 in
theorem mu_runW (G : Ap W6 → W6 → Ap W6 × Int) (p : Ap W6) (n : W6) : (afunR PR (muEW G) [] (fun _ => none) 10 37 [aW.agg.enc p, c6.agg.enc n]).strict =
    .leaf (kPW.enc (G p n)) := by kernel_rfl


def gaTD (t : GO D6) : PureTab := [(103, fn2 flD.agg aD.agg kBool t.on), (158, fn2 flD.agg aD.agg jD.agg t.ra), (157, fn3 flD.agg jD.agg c6.agg jD.agg t.ti),
  (162, fn3 flD.agg jD.agg jD.agg jD.agg t.su), (156, fn2 flD.agg jD.agg aD.agg t.lo)]
noncomputable def gaED (t : GO D6) : Env := envH eqsT (gaTD t) []
def noneDA : Tree AV := .leaf (.tup [.agg (c12.enc zero2 ++ (c12.enc zero2 ++ [.lit false])), .v (.int .i64 5)])
set_option maxRecDepth 100000 in
theorem ga1_runD (t : GO D6) (f : Fl D6) (p : Ap D6) (n : W6) : (afunH PR (gaED t) [27] 10 113 [flD.agg.enc f, (SlA.own 25 1).at 0, (SlA.slc 1).at 1] (twoAH aD c6 145 47 p n) 2).strict =
    .br (t.on f p) (.leaf (kPD.enc (t.lo f (t.su f ⟨f.one, f.one, zero2⟩ (t.ti f (t.ra f p) n)), 0))) noneDA := by kernel_rfl
set_option maxRecDepth 100000 in
theorem ga2_runD (t : GO D6) (f : Fl D6) (p q : Ap D6) (n m : W6) : (afunH PR (gaED t) [27] 10 113 [flD.agg.enc f, (SlA.own 25 2).at 0, (SlA.slc 2).at 1] (twoAH (CC.prod aD aD) (CC.prod c6 c6) 145 47 (p, q) (n, m)) 2).strict =
    .br (t.on f p) (.br (t.on f q) (.leaf (kPD.enc (t.lo f (t.su f (t.su f ⟨f.one, f.one, zero2⟩ (t.ti f (t.ra f p) n)) (t.ti f (t.ra f q) m)), 0))) noneDA) noneDA := by kernel_rfl

def suTD (s : SO D6) : PureTab := [(101, fn1 aD.agg kBool s.be), (104, fn1 aD.agg aD.agg s.inn), (102, fn0 flD.agg s.fi), (106, fn1 aD.agg aD.agg s.ou)]
noncomputable def suE1D (s : SO D6) (G : Fl D6 → Ap D6 → W6 → Ap D6 × Int) : Env := envH eqsT (suTD s) [(113, sl3 (.own 25 1) (.slc 1) 145 47 flD.agg aD c6 kPD G)]
noncomputable def suE2D (s : SO D6) (G : Fl D6 → Ap D6 × Ap D6 → W6 × W6 → Ap D6 × Int) : Env := envH eqsT (suTD s) [(113, sl3 (.own 25 2) (.slc 2) 145 47 flD.agg (CC.prod aD aD) (CC.prod c6 c6) kPD G)]
set_option maxRecDepth 100000 in
theorem su1_runD (s : SO D6) (G : Fl D6 → Ap D6 → W6 → Ap D6 × Int) (p : Ap D6) (n : W6) : (afunH PR (suE1D s G) [24] 10 57 [(SlA.slc 1).at 0, (SlA.slc 1).at 1] (twoAH aD c6 64 47 p n) 2).strict =
    .br (s.be p) (.leaf (kPD.enc (s.ou (G s.fi (s.inn p) n).1, (G s.fi (s.inn p) n).2))) noneDA := by kernel_rfl
set_option maxRecDepth 100000 in
theorem su2_runD (s : SO D6) (G : Fl D6 → Ap D6 × Ap D6 → W6 × W6 → Ap D6 × Int) (p q : Ap D6) (n m : W6) : (afunH PR (suE2D s G) [24] 10 57 [(SlA.slc 2).at 0, (SlA.slc 2).at 1] (twoAH (CC.prod aD aD) (CC.prod c6 c6) 64 47 (p, q) (n, m)) 2).strict =
    .br (s.be p) (.br (s.be q) (.leaf (kPD.enc (s.ou (G s.fi (s.inn p, s.inn q) (n, m)).1, (G s.fi (s.inn p, s.inn q) (n, m)).2))) noneDA) noneDA := by kernel_rfl

noncomputable def adED (G : Ap D6 × Ap D6 → W6 × W6 → Ap D6 × Int) (ofw : BitVec 64 → W6) : Env := envH eqsT [(63, fn1 kU c6.agg ofw)] [(57, sl2 (.slc 2) (.slc 2) 64 47 (CC.prod aD aD) (CC.prod c6 c6) kPD G)]
set_option maxRecDepth 100000 in
theorem ad_runD (G : Ap D6 × Ap D6 → W6 × W6 → Ap D6 × Int) (ofw : BitVec 64 → W6) (p q : Ap D6) : (afunR PR (adED G ofw) [] (fun _ => none) 10 49 [aD.agg.enc p, aD.agg.enc q]).strict =
    .leaf (kPD.enc (G (p, q) (ofw (bitW true), ofw (bitW true)))) := by kernel_rfl
noncomputable def muED (G : Ap D6 → W6 → Ap D6 × Int) : Env := envH eqsT [] [(57, sl2 (.slc 1) (.slc 1) 64 47 aD c6 kPD G)]
set_option maxRecDepth 100000 in
theorem mu_runD (G : Ap D6 → W6 → Ap D6 × Int) (p : Ap D6) (n : W6) : (afunR PR (muED G) [] (fun _ => none) 10 50 [aD.agg.enc p, c6.agg.enc n]).strict =
    .leaf (kPD.enc (G p n)) := by kernel_rfl

end Go.Rq

/- Sums of one and of two points: contracts. Written by a program of ours. -/
namespace Go.Rq
open Go Go.Proofs


def gaOW : GO W6 := ⟨onE fW eqW, raiseJ fW, timesW, sumE fW eqW, lowFW⟩
theorem gaT_okW : TabPOk PR (gaTW gaOW) := TabPOk.cons onW_ok (TabPOk.cons raW_ok (TabPOk.cons tm_okW (TabPOk.cons suW_ok (TabPOk.cons lowFW_ok TabPOk.nil))))
theorem gaE_okW : EnvOk PR (gaEW gaOW) := envH_ok eqsT_ok gaT_okW TabHOk.nil
def gath1W : Fl W6 → Ap W6 → W6 → Ap W6 × Int := ga1 gaOW zeroW
def gath2W : Fl W6 → Ap W6 × Ap W6 → W6 × W6 → Ap W6 × Int := ga2 gaOW zeroW
theorem ga_entW : Enters PR 112 := enters_of (fn := Try.f112) (by kernel_rfl) (by kernel_rfl) (by kernel_rfl)
theorem ga1_okW : HeapOk PR 112 (sl3 (.own 13 1) (.slc 1) 126 47 flW.agg aW c6 kPW gath1W) :=
  sl3_ok gaE_okW mixed (sym := [27]) (lf := 10) (fn := Try.f112) (c := bodyOf PR 112) (by kernel_rfl) (by kernel_rfl) (by kernel_rfl) (tabOk_none _)
    (fun f p n => givesH (ga1_runW gaOW f p n) (holds_br (B := kPW) (holds_leaf (kPW.h1 _)) (holds_leaf noneFlatW)))
theorem ga2_okW : HeapOk PR 112 (sl3 (.own 13 2) (.slc 2) 126 47 flW.agg (CC.prod aW aW) (CC.prod c6 c6) kPW gath2W) :=
  sl3_ok gaE_okW mixed (sym := [27]) (lf := 10) (fn := Try.f112) (c := bodyOf PR 112) (by kernel_rfl) (by kernel_rfl) (by kernel_rfl) (tabOk_none _)
    (fun f p n => givesH (ga2_runW gaOW f p.1 p.2 n.1 n.2) (holds_br (B := kPW) (holds_br (B := kPW) (holds_leaf (kPW.h1 _)) (holds_leaf noneFlatW)) (holds_leaf noneFlatW)))

def suOW : SO W6 := ⟨belowP1, fld1, inP1, outP1⟩
theorem suT_okW : TabPOk PR (suTW suOW) := TabPOk.cons belowp1_ok (TabPOk.cons inp1_ok (TabPOk.cons first_ok (TabPOk.cons outp1_ok TabPOk.nil)))
def sumP1W : Ap W6 → W6 → Ap W6 × Int := sm1 zeroW suOW gath1W
def sumP2W : Ap W6 × Ap W6 → W6 × W6 → Ap W6 × Int := sm2 zeroW suOW gath2W
theorem su_entW : Enters PR 56 := enters_of (fn := Try.f56) (by kernel_rfl) (by kernel_rfl) (by kernel_rfl)
theorem su1_okW : HeapOk PR 56 (sl2 (.slc 1) (.slc 1) 49 47 aW c6 kPW sumP1W) :=
  sl2_ok (E := suE1W suOW gath1W) (envH_ok eqsT_ok suT_okW (TabHOk.cons ga_entW ga1_okW TabHOk.nil)) mixed (sym := [24]) (lf := 10) (fn := Try.f56) (c := bodyOf PR 56) (by kernel_rfl) (by kernel_rfl) (by kernel_rfl) (tabOk_none _)
    (fun p n => givesH (su1_runW suOW gath1W p n) (holds_br (B := kPW) (holds_leaf (kPW.h1 _)) (holds_leaf noneFlatW)))
theorem su2_okW : HeapOk PR 56 (sl2 (.slc 2) (.slc 2) 49 47 (CC.prod aW aW) (CC.prod c6 c6) kPW sumP2W) :=
  sl2_ok (E := suE2W suOW gath2W) (envH_ok eqsT_ok suT_okW (TabHOk.cons ga_entW ga2_okW TabHOk.nil)) mixed (sym := [24]) (lf := 10) (fn := Try.f56) (c := bodyOf PR 56) (by kernel_rfl) (by kernel_rfl) (by kernel_rfl) (tabOk_none _)
    (fun p n => givesH (su2_runW suOW gath2W p.1 p.2 n.1 n.2) (holds_br (B := kPW) (holds_br (B := kPW) (holds_leaf (kPW.h1 _)) (holds_leaf noneFlatW)) (holds_leaf noneFlatW)))

def addP1 (p q : Ap W6) : Ap W6 × Int := sumP2W (p, q) (ofW (bitW true), ofW (bitW true))
theorem adE_okW : EnvOk PR (adEW sumP2W ofW) := envH_ok eqsT_ok (TabPOk.cons of_ok TabPOk.nil) (TabHOk.cons su_entW su2_okW TabHOk.nil)
theorem ad_ctxW : Ctx PR (adEW sumP2W ofW) [] (fun _ => none) 10 36 :=
  ctx_of adE_okW mixed (fn := Try.f36) (by kernel_rfl) (by kernel_rfl) (by kernel_rfl) (tabOk_none _)
theorem addp1_ok : CallOk PR 36 (fn2 aW.agg aW.agg kPW addP1) :=
  .inl ⟨enters_of (fn := Try.f36) (by kernel_rfl) (by kernel_rfl) (by kernel_rfl), pure2 ad_ctxW (fun p q => leafVal (B := kPW) (y := addP1 p q) (ad_runW sumP2W ofW p q))⟩
theorem muE_okW : EnvOk PR (muEW sumP1W) := envH_ok eqsT_ok TabPOk.nil (TabHOk.cons su_entW su1_okW TabHOk.nil)
theorem mu_ctxW : Ctx PR (muEW sumP1W) [] (fun _ => none) 10 37 :=
  ctx_of muE_okW mixed (fn := Try.f37) (by kernel_rfl) (by kernel_rfl) (by kernel_rfl) (tabOk_none _)
theorem mulp1_ok : CallOk PR 37 (fn2 aW.agg c6.agg kPW sumP1W) :=
  .inl ⟨enters_of (fn := Try.f37) (by kernel_rfl) (by kernel_rfl) (by kernel_rfl), pure2 mu_ctxW (fun p n => leafVal (B := kPW) (y := sumP1W p n) (mu_runW sumP1W p n))⟩


def gaOD : GO D6 := ⟨onE fD eqD, raiseJ fD, timesD, sumE fD eqD, lowFD⟩
theorem gaT_okD : TabPOk PR (gaTD gaOD) := TabPOk.cons onD_ok (TabPOk.cons raD_ok (TabPOk.cons tm_okD (TabPOk.cons suD_ok (TabPOk.cons lowFD_ok TabPOk.nil))))
theorem gaE_okD : EnvOk PR (gaED gaOD) := envH_ok eqsT_ok gaT_okD TabHOk.nil
def gath1D : Fl D6 → Ap D6 → W6 → Ap D6 × Int := ga1 gaOD zero2
def gath2D : Fl D6 → Ap D6 × Ap D6 → W6 × W6 → Ap D6 × Int := ga2 gaOD zero2
theorem ga_entD : Enters PR 113 := enters_of (fn := Try.f113) (by kernel_rfl) (by kernel_rfl) (by kernel_rfl)
theorem ga1_okD : HeapOk PR 113 (sl3 (.own 25 1) (.slc 1) 145 47 flD.agg aD c6 kPD gath1D) :=
  sl3_ok gaE_okD mixed (sym := [27]) (lf := 10) (fn := Try.f113) (c := bodyOf PR 113) (by kernel_rfl) (by kernel_rfl) (by kernel_rfl) (tabOk_none _)
    (fun f p n => givesH (ga1_runD gaOD f p n) (holds_br (B := kPD) (holds_leaf (kPD.h1 _)) (holds_leaf noneFlatD)))
theorem ga2_okD : HeapOk PR 113 (sl3 (.own 25 2) (.slc 2) 145 47 flD.agg (CC.prod aD aD) (CC.prod c6 c6) kPD gath2D) :=
  sl3_ok gaE_okD mixed (sym := [27]) (lf := 10) (fn := Try.f113) (c := bodyOf PR 113) (by kernel_rfl) (by kernel_rfl) (by kernel_rfl) (tabOk_none _)
    (fun f p n => givesH (ga2_runD gaOD f p.1 p.2 n.1 n.2) (holds_br (B := kPD) (holds_br (B := kPD) (holds_leaf (kPD.h1 _)) (holds_leaf noneFlatD)) (holds_leaf noneFlatD)))

def suOD : SO D6 := ⟨belowP2, fld2, inP2, outP2⟩
theorem suT_okD : TabPOk PR (suTD suOD) := TabPOk.cons belowp2_ok (TabPOk.cons inp2_ok (TabPOk.cons second_ok (TabPOk.cons outp2_ok TabPOk.nil)))
def sumP1D : Ap D6 → W6 → Ap D6 × Int := sm1 zero2 suOD gath1D
def sumP2D : Ap D6 × Ap D6 → W6 × W6 → Ap D6 × Int := sm2 zero2 suOD gath2D
theorem su_entD : Enters PR 57 := enters_of (fn := Try.f57) (by kernel_rfl) (by kernel_rfl) (by kernel_rfl)
theorem su1_okD : HeapOk PR 57 (sl2 (.slc 1) (.slc 1) 64 47 aD c6 kPD sumP1D) :=
  sl2_ok (E := suE1D suOD gath1D) (envH_ok eqsT_ok suT_okD (TabHOk.cons ga_entD ga1_okD TabHOk.nil)) mixed (sym := [24]) (lf := 10) (fn := Try.f57) (c := bodyOf PR 57) (by kernel_rfl) (by kernel_rfl) (by kernel_rfl) (tabOk_none _)
    (fun p n => givesH (su1_runD suOD gath1D p n) (holds_br (B := kPD) (holds_leaf (kPD.h1 _)) (holds_leaf noneFlatD)))
theorem su2_okD : HeapOk PR 57 (sl2 (.slc 2) (.slc 2) 64 47 (CC.prod aD aD) (CC.prod c6 c6) kPD sumP2D) :=
  sl2_ok (E := suE2D suOD gath2D) (envH_ok eqsT_ok suT_okD (TabHOk.cons ga_entD ga2_okD TabHOk.nil)) mixed (sym := [24]) (lf := 10) (fn := Try.f57) (c := bodyOf PR 57) (by kernel_rfl) (by kernel_rfl) (by kernel_rfl) (tabOk_none _)
    (fun p n => givesH (su2_runD suOD gath2D p.1 p.2 n.1 n.2) (holds_br (B := kPD) (holds_br (B := kPD) (holds_leaf (kPD.h1 _)) (holds_leaf noneFlatD)) (holds_leaf noneFlatD)))

def addP2 (p q : Ap D6) : Ap D6 × Int := sumP2D (p, q) (ofW (bitW true), ofW (bitW true))
theorem adE_okD : EnvOk PR (adED sumP2D ofW) := envH_ok eqsT_ok (TabPOk.cons of_ok TabPOk.nil) (TabHOk.cons su_entD su2_okD TabHOk.nil)
theorem ad_ctxD : Ctx PR (adED sumP2D ofW) [] (fun _ => none) 10 49 :=
  ctx_of adE_okD mixed (fn := Try.f49) (by kernel_rfl) (by kernel_rfl) (by kernel_rfl) (tabOk_none _)
theorem addp2_ok : CallOk PR 49 (fn2 aD.agg aD.agg kPD addP2) :=
  .inl ⟨enters_of (fn := Try.f49) (by kernel_rfl) (by kernel_rfl) (by kernel_rfl), pure2 ad_ctxD (fun p q => leafVal (B := kPD) (y := addP2 p q) (ad_runD sumP2D ofW p q))⟩
theorem muE_okD : EnvOk PR (muED sumP1D) := envH_ok eqsT_ok TabPOk.nil (TabHOk.cons su_entD su1_okD TabHOk.nil)
theorem mu_ctxD : Ctx PR (muED sumP1D) [] (fun _ => none) 10 50 :=
  ctx_of muE_okD mixed (fn := Try.f50) (by kernel_rfl) (by kernel_rfl) (by kernel_rfl) (tabOk_none _)
theorem mulp2_ok : CallOk PR 50 (fn2 aD.agg c6.agg kPD sumP1D) :=
  .inl ⟨enters_of (fn := Try.f50) (by kernel_rfl) (by kernel_rfl) (by kernel_rfl), pure2 mu_ctxD (fun p n => leafVal (B := kPD) (y := sumP1D p n) (mu_runD sumP1D p n))⟩

end Go.Rq

/- What the program's functions on points come to, reckoned with numbers. -/
namespace Go.Rq
open Go Go.Proofs

section
variable {A B : Type} {R : A → B → Prop} {o : FO A} {o' : FO B} {e : A → A → Bool} {e' : B → B → Bool}

def tOf {K : Type} (o : FO K) (e : K → K → Bool) : TO K := ⟨fun _ p => twiceJ o p, sumE o e, lenI, bitI⟩
def gOf {K : Type} (o : FO K) (e : K → K → Bool) (ti : Fl K → Jp K → W6 → Jp K) : GO K := ⟨onE o e, raiseJ o, ti, sumE o e, fun _ p => lowerE o e p⟩

theorem times_rel (h : FRel R o o' e e') {f : Fl A} {g : Fl B} (hf : RFl R f g) {p : Jp A} {q : Jp B} (hp : RJ R p q) (n : W6) : ∀ (k : Nat) {u : Jp A} {v : Jp B}, RJ R u v →
    RJ R (timesG (tOf o e) f p n k u) (timesG (tOf o' e') g q n k v)
  | 0, u, v, hu => hu
  | k + 1, u, v, hu => by
    show RJ R (timesG (tOf o e) f p n k (bif bitI n (k : Int) == 1 then sumE o e f (twiceJ o u) p else twiceJ o u)) (timesG (tOf o' e') g q n k (bif bitI n (k : Int) == 1 then sumE o' e' g (twiceJ o' v) q else twiceJ o' v))
    apply times_rel h hf hp n k
    cases bitI n (k : Int) == 1
    · exact twice_rel h hu
    · exact sum_rel h hf (twice_rel h hu) hp

/-- The functions on points go alike. -/
structure GRel (R : A → B → Prop) (t : GO A) (s : GO B) : Prop where
  on : ∀ {f g p q}, RFl R f g → RA R p q → t.on f p = s.on g q
  ra : ∀ {f g p q}, RFl R f g → RA R p q → RJ R (t.ra f p) (s.ra g q)
  ti : ∀ {f g p q}, RFl R f g → RJ R p q → ∀ n, RJ R (t.ti f p n) (s.ti g q n)
  su : ∀ {f g p q u v}, RFl R f g → RJ R p q → RJ R u v → RJ R (t.su f p u) (s.su g q v)
  lo : ∀ {f g p q}, RFl R f g → RJ R p q → RA R (t.lo f p) (s.lo g q)

theorem g_rel (h : FRel R o o' e e') {ti : Fl A → Jp A → W6 → Jp A} {ti' : Fl B → Jp B → W6 → Jp B} (ht : ∀ {f g p q}, RFl R f g → RJ R p q → ∀ n, RJ R (ti f p n) (ti' g q n)) : GRel R (gOf o e ti) (gOf o' e' ti') :=
  ⟨fun hf hp => on_rel h hf hp, fun hf hp => raise_rel h hf hp, ht, fun hf hp hu => sum_rel h hf hp hu, fun _ hp => lower_rel h hp⟩

theorem ga1_rel {t : GO A} {s : GO B} (h : GRel R t s) {z : A} {z' : B} (hz : R z z') {f : Fl A} {g : Fl B} (hf : RFl R f g) {p : Ap A} {q : Ap B} (hp : RA R p q) (n : W6) :
    RA R (ga1 t z f p n).1 (ga1 s z' g q n).1 ∧ (ga1 t z f p n).2 = (ga1 s z' g q n).2 := by
  unfold ga1
  rw [h.on hf hp]
  cases s.on g q
  · exact ⟨⟨hz, hz, rfl⟩, rfl⟩
  · exact ⟨h.lo hf (h.su hf ⟨hf.one, hf.one, hz⟩ (h.ti hf (h.ra hf hp) n)), rfl⟩

theorem ga2_rel {t : GO A} {s : GO B} (h : GRel R t s) {z : A} {z' : B} (hz : R z z') {f : Fl A} {g : Fl B} (hf : RFl R f g) {x : Ap A × Ap A} {y : Ap B × Ap B} (h1 : RA R x.1 y.1) (h2 : RA R x.2 y.2) (n : W6 × W6) :
    RA R (ga2 t z f x n).1 (ga2 s z' g y n).1 ∧ (ga2 t z f x n).2 = (ga2 s z' g y n).2 := by
  unfold ga2
  rw [h.on hf h1, h.on hf h2]
  cases s.on g y.1
  · exact ⟨⟨hz, hz, rfl⟩, rfl⟩
  · cases s.on g y.2
    · exact ⟨⟨hz, hz, rfl⟩, rfl⟩
    · exact ⟨h.lo hf (h.su hf (h.su hf ⟨hf.one, hf.one, hz⟩ (h.ti hf (h.ra hf h1) n.1)) (h.ti hf (h.ra hf h2) n.2)), rfl⟩
end

/-! Multiples, reckoned step by step. -/

def forceJ {α : Type} (r : Jp Nat) (f : Jp Nat → α) : α := forceN r.x fun x => forceN r.y fun y => forceN r.z fun z => f ⟨x, y, z⟩
theorem forceJ_eq {α : Type} (r : Jp Nat) (f : Jp Nat → α) : forceJ r f = f r := by simp only [forceJ, forceN_eq]
def forceK {α : Type} (r : Jp (DN Nat)) (f : Jp (DN Nat) → α) : α := forceN r.x.a fun a => forceN r.x.b fun b => forceN r.y.a fun c => forceN r.y.b fun d => forceN r.z.a fun x => forceN r.z.b fun y => f ⟨⟨a, b⟩, ⟨c, d⟩, ⟨x, y⟩⟩
theorem forceK_eq {α : Type} (r : Jp (DN Nat)) (f : Jp (DN Nat) → α) : forceK r f = f r := by simp only [forceK, forceN_eq]

def stepG {K : Type} (o : FO K) (e : K → K → Bool) (f : Fl K) (p : Jp K) (b : Bool) (u : Jp K) : Jp K := bif b then sumE o e f (twiceJ o u) p else twiceJ o u

/-- A multiple; a point is reckoned whole at each bit. -/
def runN {K : Type} (fo : Jp K → (Jp K → Jp K) → Jp K) (st : Bool → Jp K → Jp K) : List Bool → Jp K → Jp K
  | [], u => u
  | b :: t, u => fo (st b u) fun v => runN fo st t v

def bitsL (n : W6) : Nat → List Bool
  | 0 => []
  | k + 1 => (bitI n (k : Int) == 1) :: bitsL n k

theorem runN_eq {K : Type} {o : FO K} {e : K → K → Bool} {fo : Jp K → (Jp K → Jp K) → Jp K} (hfo : ∀ r f, fo r f = f r) (f : Fl K) (p : Jp K) (n : W6) : ∀ (k : Nat) (u : Jp K),
    runN fo (stepG o e f p) (bitsL n k) u = timesG (tOf o e) f p n k u
  | 0, u => rfl
  | k + 1, u => by
    simp only [bitsL, runN, hfo]
    exact runN_eq hfo f p n k _

def timesN (f : Fl Nat) (p : Jp Nat) (n : W6) : Jp Nat := runN forceJ (stepG fN Nat.beq f p) (bitsL n (lenI n).toNat) ⟨f.one, f.one, 0⟩
def timesK (f : Fl (DN Nat)) (p : Jp (DN Nat)) (n : W6) : Jp (DN Nat) := runN forceK (stepG fDN (beqA Nat.beq) f p) (bitsL n (lenI n).toNat) ⟨f.one, f.one, ⟨0, 0⟩⟩

theorem timesN_rel {f : Fl Nat} {g : Fl W6} {p : Jp Nat} {q : Jp W6} (hf : RFl Rep f g) (hp : RJ Rep p q) (n : W6) : RJ Rep (timesN f p n) (timesW g q n) := by
  unfold timesN timesW
  rw [runN_eq (o := fN) (e := Nat.beq) forceJ_eq]
  exact times_rel relW hf hp n _ ⟨hf.one, hf.one, rep_zero⟩
theorem timesK_rel {f : Fl (DN Nat)} {g : Fl D6} {p : Jp (DN Nat)} {q : Jp D6} (hf : RFl (RD Rep) f g) (hp : RJ (RD Rep) p q) (n : W6) : RJ (RD Rep) (timesK f p n) (timesD g q n) := by
  unfold timesK timesD
  rw [runN_eq (o := fDN) (e := beqA Nat.beq) forceK_eq]
  exact times_rel relD hf hp n _ ⟨hf.one, hf.one, rd_zero⟩

def gN : GO Nat := gOf fN Nat.beq timesN
def gK : GO (DN Nat) := gOf fDN (beqA Nat.beq) timesK
theorem gN_rel : GRel Rep gN gaOW := g_rel relW timesN_rel
theorem gK_rel : GRel (RD Rep) gK gaOD := g_rel relD timesK_rel

def flN : Fl Nat := ⟨oneN, toN 4⟩
def flK : Fl (DN Nat) := ⟨⟨oneN, 0⟩, ⟨toN 4, toN 4⟩⟩
theorem four_val : (ofW 4#64).val = 4 := by decide +kernel
theorem four_rep : Rep (toN 4) (toW (ofW 4#64)) := by
  have := rep_to (ofW 4#64)
  rw [four_val] at this
  exact this
theorem flN_rel : RFl Rep flN fld1 := ⟨rep_one, four_rep⟩
theorem flK_rel : RFl (RD Rep) flK fld2 := ⟨rd_one, ⟨four_rep, four_rep⟩⟩

def inN (p : Ap W6) : Ap Nat := ⟨toN p.x.val, toN p.y.val, p.zero⟩
def inK (p : Ap D6) : Ap (DN Nat) := ⟨⟨toN p.x.a.val, toN p.x.b.val⟩, ⟨toN p.y.a.val, toN p.y.b.val⟩, p.zero⟩
theorem inP_rel (t : Nat → Nat) (t' : W6 → W6) (h : ∀ a : W6, Rep (t a.val) (t' a)) (p : Ap W6) : RA Rep ⟨t p.x.val, t p.y.val, p.zero⟩ ⟨t' p.x, t' p.y, p.zero⟩ := ⟨h _, h _, rfl⟩
theorem inN_rel (p : Ap W6) : RA Rep (inN p) (inP1 p) := by
  unfold inN inP1
  exact inP_rel toN toW rep_to p
theorem to2_rel (o : FO W6) (t : Nat → Nat) (h : ∀ a : W6, Rep (t a.val) (o.to a)) (x : D6) : RD Rep ⟨t x.a.val, t x.b.val⟩ (to2 o x) := ⟨h _, h _⟩
theorem fW_to : fW.to = toW := by simp only [fW]
theorem fW_back : fW.back = fromW := by simp only [fW]
theorem inK_rel (p : Ap D6) : RA (RD Rep) (inK p) (inP2 p) := ⟨to2_rel fW toN (fun a => by rw [fW_to]; exact rep_to a) p.x, to2_rel fW toN (fun a => by rw [fW_to]; exact rep_to a) p.y, rfl⟩

/-- A point that is told again. -/
theorem outN_eq {p : Ap Nat} {q r : Ap W6} (h : RA Rep p q) (hx : backN p.x = r.x.val) (hy : backN p.y = r.y.val) (hz : p.zero = r.zero) : outP1 q = r := by
  obtain ⟨rx, ry, rz⟩ := r
  have e1 : fromW q.x = rx := W6.val_inj (by rw [rep_back h.x]; exact hx)
  have e2 : fromW q.y = ry := W6.val_inj (by rw [rep_back h.y]; exact hy)
  unfold outP1
  rw [e1, e2, ← h.z, hz]
theorem back2_eq (o : FO W6) (b : Nat → Nat) (h : ∀ {a : Nat} {w : W6}, Rep a w → (o.back w).val = b a) {p : DN Nat} {q r : D6} (hp : RD Rep p q) (h1 : b p.a = r.a.val) (h2 : b p.b = r.b.val) : back2 o q = r := by
  obtain ⟨ra, rb⟩ := r
  have e1 : o.back q.a = ra := W6.val_inj (by rw [h hp.a]; exact h1)
  have e2 : o.back q.b = rb := W6.val_inj (by rw [h hp.b]; exact h2)
  unfold back2
  rw [e1, e2]
theorem outK_eq {p : Ap (DN Nat)} {q r : Ap D6} (h : RA (RD Rep) p q) (h1 : backN p.x.a = r.x.a.val) (h2 : backN p.x.b = r.x.b.val) (h3 : backN p.y.a = r.y.a.val) (h4 : backN p.y.b = r.y.b.val) (hz : p.zero = r.zero) : outP2 q = r := by
  have e1 := back2_eq fW backN (fun {a w} h => by rw [fW_back]; exact rep_back h) h.x h1 h2
  have e2 := back2_eq fW backN (fun {a w} h => by rw [fW_back]; exact rep_back h) h.y h3 h4
  unfold outP2
  obtain ⟨rx, ry, rz⟩ := r
  rw [e1, e2, ← h.z, hz]

/-! What is reckoned, and what is told. -/
def tellN (x : Ap Nat × Int) : Ap Nat × Int := (⟨backN x.1.x, backN x.1.y, x.1.zero⟩, x.2)
def tellK (x : Ap (DN Nat) × Int) : Ap (DN Nat) × Int := (⟨⟨backN x.1.x.a, backN x.1.x.b⟩, ⟨backN x.1.y.a, backN x.1.y.b⟩, x.1.zero⟩, x.2)
def litN (r : Ap W6) : Ap Nat := ⟨r.x.val, r.y.val, r.zero⟩
def litK (r : Ap D6) : Ap (DN Nat) := ⟨⟨r.x.a.val, r.x.b.val⟩, ⟨r.y.a.val, r.y.b.val⟩, r.zero⟩

theorem mul1_of {p r : Ap W6} {n : W6} {err : Int} (hb : belowP1 p = true) (h : tellN (ga1 gN 0 flN (inN p) n) = (litN r, err)) : sumP1W p n = (r, err) := by
  obtain ⟨h1, h2⟩ := ga1_rel gN_rel rep_zero flN_rel (inN_rel p) n
  have e := Prod.mk.inj h
  obtain ⟨e1, e2⟩ := e
  have e3 := Ap.mk.inj e1
  have ho := outN_eq (r := r) h1 e3.1 e3.2.1 e3.2.2
  have hs : sumP1W p n = bif belowP1 p then (outP1 (gath1W fld1 (inP1 p) n).1, (gath1W fld1 (inP1 p) n).2) else (⟨zeroW, zeroW, false⟩, 5) := by unfold sumP1W sm1 suOW; rfl
  rw [hs, hb, cond_true]
  have hg : gath1W fld1 (inP1 p) n = ga1 gaOW zeroW fld1 (inP1 p) n := by unfold gath1W; rfl
  rw [hg, ho, ← h2]
  exact congrArg (Prod.mk r) e2

theorem add1_of {p q r : Ap W6} {err : Int} (hb : belowP1 p = true) (hc : belowP1 q = true) (h : tellN (ga2 gN 0 flN (inN p, inN q) (ofW (bitW true), ofW (bitW true))) = (litN r, err)) : addP1 p q = (r, err) := by
  obtain ⟨h1, h2⟩ := ga2_rel gN_rel rep_zero flN_rel (x := (inN p, inN q)) (y := (inP1 p, inP1 q)) (inN_rel p) (inN_rel q) (ofW (bitW true), ofW (bitW true))
  have e := Prod.mk.inj h
  obtain ⟨e1, e2⟩ := e
  have e3 := Ap.mk.inj e1
  have ho := outN_eq (r := r) h1 e3.1 e3.2.1 e3.2.2
  have hs : addP1 p q = bif belowP1 p then (bif belowP1 q then (outP1 (gath2W fld1 (inP1 p, inP1 q) (ofW (bitW true), ofW (bitW true))).1, (gath2W fld1 (inP1 p, inP1 q) (ofW (bitW true), ofW (bitW true))).2) else (⟨zeroW, zeroW, false⟩, 5)) else (⟨zeroW, zeroW, false⟩, 5) := by
    unfold addP1 sumP2W sm2 suOW; rfl
  rw [hs, hb, hc, cond_true, cond_true]
  have hg : gath2W fld1 (inP1 p, inP1 q) (ofW (bitW true), ofW (bitW true)) = ga2 gaOW zeroW fld1 (inP1 p, inP1 q) (ofW (bitW true), ofW (bitW true)) := by unfold gath2W; rfl
  rw [hg, ho, ← h2]
  exact congrArg (Prod.mk r) e2

theorem mul2_of {p r : Ap D6} {n : W6} {err : Int} (hb : belowP2 p = true) (h : tellK (ga1 gK ⟨0, 0⟩ flK (inK p) n) = (litK r, err)) : sumP1D p n = (r, err) := by
  obtain ⟨h1, h2⟩ := ga1_rel gK_rel rd_zero flK_rel (inK_rel p) n
  have e := Prod.mk.inj h
  obtain ⟨e1, e2⟩ := e
  have e3 := Ap.mk.inj e1
  have e4 := DN.mk.inj e3.1
  have e5 := DN.mk.inj e3.2.1
  have ho := outK_eq (r := r) h1 e4.1 e4.2 e5.1 e5.2 e3.2.2
  have hs : sumP1D p n = bif belowP2 p then (outP2 (gath1D fld2 (inP2 p) n).1, (gath1D fld2 (inP2 p) n).2) else (⟨zero2, zero2, false⟩, 5) := by unfold sumP1D sm1 suOD; rfl
  rw [hs, hb, cond_true]
  have hg : gath1D fld2 (inP2 p) n = ga1 gaOD zero2 fld2 (inP2 p) n := by unfold gath1D; rfl
  rw [hg, ho, ← h2]
  exact congrArg (Prod.mk r) e2

theorem check1_of (p : Ap W6) : checkP1 p = bif belowP1 p then onE fN Nat.beq flN (inN p) else false := by
  unfold checkP1
  rw [on_rel relW flN_rel (inN_rel p)]
theorem check2_of (p : Ap D6) : checkP2 p = bif belowP2 p then onE fDN (beqA Nat.beq) flK (inK p) else false := by
  unfold checkP2
  rw [on_rel relD flK_rel (inK_rel p)]
theorem in1_of (p : Ap W6) : inGroup1 p = bif belowP1 p then (bif onE fN Nat.beq flN (inN p) then (lowerE fN Nat.beq (timesN flN (raiseJ fN flN (inN p)) orderW)).zero else false) else false := by
  unfold inGroup1 inEW inGW lowFW
  rw [on_rel relW flN_rel (inN_rel p), (lower_rel relW (timesN_rel flN_rel (raise_rel relW flN_rel (inN_rel p)) orderW)).z]
theorem neg1_of {p r : Ap W6} (hc : checkP1 p = true) (hx : backN (inN p).x = r.x.val) (hy : backN (subN 0 (inN p).y) = r.y.val) (hz : p.zero = r.zero) : negP1 p = (r, 0) := by
  have hn := neg_rel relW (inN_rel p)
  unfold negP1
  rw [hc, outN_eq (r := r) hn hx (by unfold negE; rw [fN_sub]; exact hy) hz]
  rfl
end Go.Rq
