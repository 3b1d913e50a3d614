/- The reference's bits and lengths: contracts. -/
import Derived.Test.YtdbcjiggimppdaaRq12
import Derived.Test.YtdbcjiggimppdaaRq06
namespace Go.Rq
open Go Go.Proofs

def rbitTree (a : W6) (i : Int) : Tree AV :=
  .br (decide (i < 0)) (.need true (.leaf (.v (.int .i64 0)))) (.br (decide (i > 383)) (.need true (.leaf (.v (.int .i64 0))))
    (.need (powCond i) (.leaf (.v (.int .i64 (IntKind.i64.wrap (Int.ofNat ((a.get (0 + (quo64 i).toNat * 1) >>> Nat.min (Int.tmod i 64).toNat 64) &&& bitW true).toNat)))))))
set_option maxRecDepth 100000 in
theorem rbit_run (a : W6) (i : Int) : Tree.but [2] 0 (afunR PR (envW eqsT []) [7, 10] (fun _ => none) 40 179 [c6.agg.enc a, (kInt .i64).enc i]) = rbitTree a i := by kernel_rfl

theorem rbit_gives (a : W6) (i : Int) : Gives (afunR PR (envW eqsT []) [7, 10] (fun _ => none) 40 179 [c6.agg.enc a, (kInt .i64).enc i]) ((kInt .i64).val (bitI a i)) := by
  refine ⟨Tree.holds_but (l := [2]) (i := 0) ?_⟩
  rw [rbit_run]
  unfold rbitTree bitI
  refine ⟨fun h1 => by rw [h1]; exact ⟨rfl, rfl⟩, fun h1 => ⟨fun h2 => ?_, fun h2 => ?_⟩⟩
  · rw [h1, show decide (i ≥ 384) = true from decide_eq_true (by have := of_decide_eq_true h2; omega)]; exact ⟨rfl, rfl⟩
  have h1' : ¬ i < 0 := of_decide_eq_false h1
  have h2' : ¬ i > 383 := of_decide_eq_false h2
  rw [h1, show decide (i ≥ 384) = false from decide_eq_false (by omega)]
  have hq := quo64_eq (z := i) (by omega) (by omega)
  have hm : Int.tmod i 64 = i % 64 := Int.tmod_eq_emod_of_nonneg (by omega)
  have e1 : 0 + (quo64 i).toNat * 1 = i.toNat / 64 := by rw [hq]; omega
  have e2 : Nat.min (Int.tmod i 64).toNat 64 = i.toNat % 64 := by rw [hm]; show min _ _ = _; omega
  refine ⟨?_, ?_⟩
  · unfold powCond
    rw [hq, hm]
    simp; omega
  · rw [e1, e2]
    show some (Value.int .i64 _) = some (Value.int .i64 _)
    congr 2
    unfold W6.bit
    generalize a.get (i.toNat / 64) >>> (i.toNat % 64) = y
    have hb : (y &&& 1#64).toNat < 2 := by
      rw [BitVec.toNat_and, show (1#64).toNat = 1 from rfl, Nat.and_one_is_mod]
      omega
    rw [show bitW true = 1#64 from rfl]
    cases hc : (y &&& 1#64) == 1#64 with
    | true =>
      rw [eq_of_beq hc]
      rfl
    | false =>
      have : (y &&& 1#64).toNat = 0 := by
        have hne : (y &&& 1#64) ≠ 1#64 := by simpa using hc
        have : (y &&& 1#64).toNat ≠ 1 := fun h => hne (BitVec.eq_of_toNat_eq (by rw [h]; rfl))
        omega
      rw [this]
      rfl

theorem rbit_ctx : Ctx PR (envW eqsT []) [7, 10] (fun _ => none) 40 179 :=
  ctx_of (envW_ok eqsT_ok TabPOk.nil) mixed (fn := Try.f179) (by kernel_rfl) (by kernel_rfl) (by kernel_rfl) (tabOk_none _)
theorem rbit_ok : CallOk PR 179 (fn2 c6.agg (kInt .i64) (kInt .i64) bitI) :=
  .inl ⟨enters_of (fn := Try.f179) (by kernel_rfl) (by kernel_rfl) (by kernel_rfl), pure2 rbit_ctx rbit_gives⟩

/-- The bits from the highest on, and what is told at the first that is set. -/
def rlenL (B : W6 → Int → Int) (a : W6) : Nat → List (Bool × Int)
  | 0 => []
  | k + 1 => (B a (k : Int) == 1, (k : Int) + 1) :: rlenL B a k
def rlenT (B : W6 → Int → Int) : PureTab := [(179, fn2 c6.agg (kInt .i64) (kInt .i64) B)]
set_option maxRecDepth 1000000 in
theorem rlen_run (B : W6 → Int → Int) (a : W6) : (afunR PR (envOf eqsT (rlenT B)) [11] (fun _ => none) 400 147 [c6.agg.enc a]).strict = chain (kInt .i64) (rlenL B a 384) 0 := by kernel_rfl
def rlenI (a : W6) : Int := chainV (rlenL bitI a 384) 0
theorem rlen_ctx : Ctx PR (envOf eqsT (rlenT bitI)) [11] (fun _ => none) 400 147 :=
  ctx_of (envOf_ok eqsT_ok (TabPOk.cons rbit_ok TabPOk.nil)) mixed (fn := Try.f147) (by kernel_rfl) (by kernel_rfl) (by kernel_rfl) (tabOk_none _)
theorem rlen_ok : CallOk PR 147 (fn1 c6.agg (kInt .i64) rlenI) :=
  .inl ⟨enters_of (fn := Try.f147) (by kernel_rfl) (by kernel_rfl) (by kernel_rfl), pure1 rlen_ctx (fun a => chainVal (rlen_run bitI a))⟩
end Go.Rq

/- The curves' functions, the field left open. Written by a program of ours. -/
namespace Go.Rq
open Go Go.Proofs

def flW : CC (Fl W6) := cFl 131 132 133 134 c6
def flD : CC (Fl D6) := cFl 150 151 152 153 c12
def jW : CC (Jp W6) := cJp c6
def jD : CC (Jp D6) := cJp c12
def aW : CC (Ap W6) := cAp c6
def aD : CC (Ap D6) := cAp c12

def T2 (o : FO D6) : PureTab := [(150, fn2 c12.agg c12.agg c12.agg o.add),
  (151, fn2 c12.agg c12.agg c12.agg o.sub),
  (152, fn2 c12.agg c12.agg c12.agg o.mul),
  (153, fn1 c12.agg c12.agg o.inv),
  (155, fn1 c12.agg c12.agg o.to),
  (159, fn1 c12.agg c12.agg o.back),
  (154, fn0 c12.agg o.one)]
theorem T2_eq : [(150, fn2 c12.agg c12.agg c12.agg (add2 fW)), (151, fn2 c12.agg c12.agg c12.agg (sub2 fW)), (152, fn2 c12.agg c12.agg c12.agg (mul2 fW)), (153, fn1 c12.agg c12.agg (inv2 fW)), (155, fn1 c12.agg c12.agg (to2 fW)), (159, fn1 c12.agg c12.agg (back2 fW)), (154, fn0 c12.agg one2)] = T2 fD := by kernel_rfl
theorem T2_ok : TabPOk PR (T2 fD) := Eq.subst (motive := TabPOk PR) T2_eq (TabPOk.cons add2_ok (TabPOk.cons sub2_ok (TabPOk.cons mul2_ok (TabPOk.cons inv2_ok (TabPOk.cons to2_ok (TabPOk.cons back2_ok (TabPOk.cons one2_ok (TabPOk.nil))))))))

set_option maxRecDepth 100000 in
theorem twW_run (o : FO W6) (f : Fl W6) (p : Jp W6) : (afunR PR (envOf eqsT (T1 o)) [] (fun _ => none) 40 176 [flW.agg.enc f, jW.agg.enc p]).strict = .leaf (jW.agg.enc (twiceJ o p)) := by kernel_rfl

set_option maxRecDepth 100000 in
theorem raW_run (o : FO W6) (f : Fl W6) (p : Ap W6) : (afunR PR (envOf eqsT (T1 o)) [6] (fun _ => none) 40 139 [flW.agg.enc f, aW.agg.enc p]).strict = .br p.zero (.leaf (jW.agg.enc ⟨f.one, f.one, zeroW⟩)) (.leaf (jW.agg.enc ⟨p.x, p.y, f.one⟩)) := by kernel_rfl

set_option maxRecDepth 100000 in
theorem loW_run (o : FO W6) (f : Fl W6) (p : Jp W6) : (afunR PR (envOf eqsT (T1 o)) [11] (fun _ => none) 40 137 [flW.agg.enc f, jW.agg.enc p]).strict = .br (eqW p.z zeroW) (.leaf (.agg (c6.enc zeroW ++ (c6.enc zeroW ++ [.lit true])))) (.leaf (.agg (c6.enc (lowerJ o p).x ++ (c6.enc (lowerJ o p).y ++ [.lit false])))) := by kernel_rfl

set_option maxRecDepth 100000 in
theorem neW_run (o : FO W6) (f : Fl W6) (p : Ap W6) : (afunR PR (envOf eqsT (T1 o)) [] (fun _ => none) 40 92 [flW.agg.enc f, aW.agg.enc p]).strict = .leaf (aW.agg.enc ⟨p.x, o.sub zeroW p.y, p.zero⟩) := by kernel_rfl

set_option maxRecDepth 100000 in
theorem onW_run (o : FO W6) (f : Fl W6) (p : Ap W6) : (afunR PR (envOf eqsT (T1 o)) [7, 12] (fun _ => none) 40 86 [flW.agg.enc f, aW.agg.enc p]).strict = .br p.zero (.br (eqW p.x zeroW) (.leaf (kBool.enc (eqW p.y zeroW))) (.leaf (.lit false))) (.leaf (kBool.enc (eqW (o.mul p.y p.y) (o.add (o.mul (o.mul p.x p.x) p.x) f.b)))) := by kernel_rfl

set_option maxRecDepth 100000 in
theorem suW_run (o : FO W6) (f : Fl W6) (tw : Fl W6 → Jp W6 → Jp W6) (p q : Jp W6) : (afunR PR (envOf eqsT ((176, fn2 flW.agg jW.agg jW.agg tw) :: T1 o)) [23, 28, 90, 93] (fun _ => none) 40 161 [flW.agg.enc f, jW.agg.enc p, jW.agg.enc q]).strict = .br (eqW p.z zeroW) (.leaf (jW.agg.enc q)) (.br (eqW q.z zeroW) (.leaf (jW.agg.enc p)) (.br (eqW (hJ o p q) zeroW) (.br (eqW (rJ o p q) zeroW) (.leaf (jW.agg.enc (tw f p))) (.leaf (jW.agg.enc ⟨f.one, f.one, zeroW⟩))) (.leaf (jW.agg.enc (sumJ o p q))))) := by kernel_rfl

set_option maxRecDepth 100000 in
theorem twD_run (o : FO D6) (f : Fl D6) (p : Jp D6) : (afunR PR (envOf eqsT (T2 o)) [] (fun _ => none) 40 186 [flD.agg.enc f, jD.agg.enc p]).strict = .leaf (jD.agg.enc (twiceJ o p)) := by kernel_rfl

set_option maxRecDepth 100000 in
theorem raD_run (o : FO D6) (f : Fl D6) (p : Ap D6) : (afunR PR (envOf eqsT (T2 o)) [6] (fun _ => none) 40 158 [flD.agg.enc f, aD.agg.enc p]).strict = .br p.zero (.leaf (jD.agg.enc ⟨f.one, f.one, zero2⟩)) (.leaf (jD.agg.enc ⟨p.x, p.y, f.one⟩)) := by kernel_rfl

set_option maxRecDepth 100000 in
theorem loD_run (o : FO D6) (f : Fl D6) (p : Jp D6) : (afunR PR (envOf eqsT (T2 o)) [11] (fun _ => none) 40 156 [flD.agg.enc f, jD.agg.enc p]).strict = .br (eqD p.z zero2) (.leaf (.agg (c12.enc zero2 ++ (c12.enc zero2 ++ [.lit true])))) (.leaf (.agg (c12.enc (lowerJ o p).x ++ (c12.enc (lowerJ o p).y ++ [.lit false])))) := by kernel_rfl

set_option maxRecDepth 100000 in
theorem neD_run (o : FO D6) (f : Fl D6) (p : Ap D6) : (afunR PR (envOf eqsT (T2 o)) [] (fun _ => none) 40 107 [flD.agg.enc f, aD.agg.enc p]).strict = .leaf (aD.agg.enc ⟨p.x, o.sub zero2 p.y, p.zero⟩) := by kernel_rfl

set_option maxRecDepth 100000 in
theorem onD_run (o : FO D6) (f : Fl D6) (p : Ap D6) : (afunR PR (envOf eqsT (T2 o)) [7, 12] (fun _ => none) 40 103 [flD.agg.enc f, aD.agg.enc p]).strict = .br p.zero (.br (eqD p.x zero2) (.leaf (kBool.enc (eqD p.y zero2))) (.leaf (.lit false))) (.leaf (kBool.enc (eqD (o.mul p.y p.y) (o.add (o.mul (o.mul p.x p.x) p.x) f.b)))) := by kernel_rfl

set_option maxRecDepth 100000 in
theorem suD_run (o : FO D6) (f : Fl D6) (tw : Fl D6 → Jp D6 → Jp D6) (p q : Jp D6) : (afunR PR (envOf eqsT ((186, fn2 flD.agg jD.agg jD.agg tw) :: T2 o)) [23, 28, 90, 93] (fun _ => none) 40 162 [flD.agg.enc f, jD.agg.enc p, jD.agg.enc q]).strict = .br (eqD p.z zero2) (.leaf (jD.agg.enc q)) (.br (eqD q.z zero2) (.leaf (jD.agg.enc p)) (.br (eqD (hJ o p q) zero2) (.br (eqD (rJ o p q) zero2) (.leaf (jD.agg.enc (tw f p))) (.leaf (jD.agg.enc ⟨f.one, f.one, zero2⟩))) (.leaf (jD.agg.enc (sumJ o p q))))) := by kernel_rfl

end Go.Rq

/- The curves' functions: contracts. Written by a program of ours. -/
namespace Go.Rq
open Go Go.Proofs

theorem twW_ctx : Ctx PR (envOf eqsT (T1 fW)) [] (fun _ => none) 40 176 :=
  ctx_of (envOf_ok eqsT_ok T1_ok) mixed (fn := Try.f176) (by kernel_rfl) (by kernel_rfl) (by kernel_rfl) (tabOk_none _)
theorem twW_ok : CallOk PR 176 (fn2 flW.agg jW.agg jW.agg (fun _ p => twiceJ fW p)) :=
  .inl ⟨enters_of (fn := Try.f176) (by kernel_rfl) (by kernel_rfl) (by kernel_rfl), pure2 twW_ctx (fun f p => leafVal (B := jW.agg) (y := twiceJ fW p) (twW_run fW f p))⟩

theorem raW_ctx : Ctx PR (envOf eqsT (T1 fW)) [6] (fun _ => none) 40 139 :=
  ctx_of (envOf_ok eqsT_ok T1_ok) mixed (fn := Try.f139) (by kernel_rfl) (by kernel_rfl) (by kernel_rfl) (tabOk_none _)
theorem raW_ok : CallOk PR 139 (fn2 flW.agg aW.agg jW.agg (raiseJ fW)) :=
  .inl ⟨enters_of (fn := Try.f139) (by kernel_rfl) (by kernel_rfl) (by kernel_rfl), pure2 raW_ctx (fun f p => givesOf (raW_run fW f p) (holds_br (B := jW.agg) (holds_leaf (jW.agg.h1 _)) (holds_leaf (jW.agg.h1 _))))⟩

theorem loW_ctx : Ctx PR (envOf eqsT (T1 fW)) [11] (fun _ => none) 40 137 :=
  ctx_of (envOf_ok eqsT_ok T1_ok) mixed (fn := Try.f137) (by kernel_rfl) (by kernel_rfl) (by kernel_rfl) (tabOk_none _)
theorem loW_ok : CallOk PR 137 (fn2 flW.agg jW.agg aW.agg (fun _ p => lowerE fW eqW p)) :=
  .inl ⟨enters_of (fn := Try.f137) (by kernel_rfl) (by kernel_rfl) (by kernel_rfl), pure2 loW_ctx (fun f p => givesOf (loW_run fW f p) (holds_br (B := aW.agg) (holds_leaf (apFlatW _ _ _)) (holds_leaf (apFlatW _ _ _))))⟩

theorem neW_ctx : Ctx PR (envOf eqsT (T1 fW)) [] (fun _ => none) 40 92 :=
  ctx_of (envOf_ok eqsT_ok T1_ok) mixed (fn := Try.f92) (by kernel_rfl) (by kernel_rfl) (by kernel_rfl) (tabOk_none _)
theorem neW_ok : CallOk PR 92 (fn2 flW.agg aW.agg aW.agg (fun _ p => negE fW p)) :=
  .inl ⟨enters_of (fn := Try.f92) (by kernel_rfl) (by kernel_rfl) (by kernel_rfl), pure2 neW_ctx (fun f p => leafVal (B := aW.agg) (y := negE fW p) (neW_run fW f p))⟩

theorem onW_ctx : Ctx PR (envOf eqsT (T1 fW)) [7, 12] (fun _ => none) 40 86 :=
  ctx_of (envOf_ok eqsT_ok T1_ok) mixed (fn := Try.f86) (by kernel_rfl) (by kernel_rfl) (by kernel_rfl) (tabOk_none _)
theorem onW_ok : CallOk PR 86 (fn2 flW.agg aW.agg kBool (onE fW eqW)) :=
  .inl ⟨enters_of (fn := Try.f86) (by kernel_rfl) (by kernel_rfl) (by kernel_rfl), pure2 onW_ctx (fun f p => givesOf (onW_run fW f p) (holds_br (B := kBool) (holds_br (B := kBool) (holds_leaf (kBool.h1 _)) (holds_leaf (a := .lit false) (v := kBool.val false) rfl)) (holds_leaf (kBool.h1 _))))⟩

def twTW : PureTab := (176, fn2 flW.agg jW.agg jW.agg (fun _ p => twiceJ fW p)) :: T1 fW
theorem twTW_ok : TabPOk PR twTW := TabPOk.cons twW_ok T1_ok
theorem suW_ctx : Ctx PR (envOf eqsT (twTW)) [23, 28, 90, 93] (fun _ => none) 40 161 :=
  ctx_of (envOf_ok eqsT_ok twTW_ok) mixed (fn := Try.f161) (by kernel_rfl) (by kernel_rfl) (by kernel_rfl) (tabOk_none _)
theorem suW_ok : CallOk PR 161 (fn3 flW.agg jW.agg jW.agg jW.agg (sumE fW eqW)) :=
  .inl ⟨enters_of (fn := Try.f161) (by kernel_rfl) (by kernel_rfl) (by kernel_rfl), pure3 suW_ctx (fun f p q => givesOf (suW_run fW f (fun _ p => twiceJ fW p) p q) (holds_br (B := jW.agg) (holds_leaf (jW.agg.h1 _)) (holds_br (B := jW.agg) (holds_leaf (jW.agg.h1 _)) (holds_br (B := jW.agg) (holds_br (B := jW.agg) (holds_leaf (jW.agg.h1 _)) (holds_leaf (jW.agg.h1 _))) (holds_leaf (jW.agg.h1 _))))))⟩

theorem twD_ctx : Ctx PR (envOf eqsT (T2 fD)) [] (fun _ => none) 40 186 :=
  ctx_of (envOf_ok eqsT_ok T2_ok) mixed (fn := Try.f186) (by kernel_rfl) (by kernel_rfl) (by kernel_rfl) (tabOk_none _)
theorem twD_ok : CallOk PR 186 (fn2 flD.agg jD.agg jD.agg (fun _ p => twiceJ fD p)) :=
  .inl ⟨enters_of (fn := Try.f186) (by kernel_rfl) (by kernel_rfl) (by kernel_rfl), pure2 twD_ctx (fun f p => leafVal (B := jD.agg) (y := twiceJ fD p) (twD_run fD f p))⟩

theorem raD_ctx : Ctx PR (envOf eqsT (T2 fD)) [6] (fun _ => none) 40 158 :=
  ctx_of (envOf_ok eqsT_ok T2_ok) mixed (fn := Try.f158) (by kernel_rfl) (by kernel_rfl) (by kernel_rfl) (tabOk_none _)
theorem raD_ok : CallOk PR 158 (fn2 flD.agg aD.agg jD.agg (raiseJ fD)) :=
  .inl ⟨enters_of (fn := Try.f158) (by kernel_rfl) (by kernel_rfl) (by kernel_rfl), pure2 raD_ctx (fun f p => givesOf (raD_run fD f p) (holds_br (B := jD.agg) (holds_leaf (jD.agg.h1 _)) (holds_leaf (jD.agg.h1 _))))⟩

theorem loD_ctx : Ctx PR (envOf eqsT (T2 fD)) [11] (fun _ => none) 40 156 :=
  ctx_of (envOf_ok eqsT_ok T2_ok) mixed (fn := Try.f156) (by kernel_rfl) (by kernel_rfl) (by kernel_rfl) (tabOk_none _)
theorem loD_ok : CallOk PR 156 (fn2 flD.agg jD.agg aD.agg (fun _ p => lowerE fD eqD p)) :=
  .inl ⟨enters_of (fn := Try.f156) (by kernel_rfl) (by kernel_rfl) (by kernel_rfl), pure2 loD_ctx (fun f p => givesOf (loD_run fD f p) (holds_br (B := aD.agg) (holds_leaf (apFlatD _ _ _)) (holds_leaf (apFlatD _ _ _))))⟩

theorem neD_ctx : Ctx PR (envOf eqsT (T2 fD)) [] (fun _ => none) 40 107 :=
  ctx_of (envOf_ok eqsT_ok T2_ok) mixed (fn := Try.f107) (by kernel_rfl) (by kernel_rfl) (by kernel_rfl) (tabOk_none _)
theorem neD_ok : CallOk PR 107 (fn2 flD.agg aD.agg aD.agg (fun _ p => negE fD p)) :=
  .inl ⟨enters_of (fn := Try.f107) (by kernel_rfl) (by kernel_rfl) (by kernel_rfl), pure2 neD_ctx (fun f p => leafVal (B := aD.agg) (y := negE fD p) (neD_run fD f p))⟩

theorem onD_ctx : Ctx PR (envOf eqsT (T2 fD)) [7, 12] (fun _ => none) 40 103 :=
  ctx_of (envOf_ok eqsT_ok T2_ok) mixed (fn := Try.f103) (by kernel_rfl) (by kernel_rfl) (by kernel_rfl) (tabOk_none _)
theorem onD_ok : CallOk PR 103 (fn2 flD.agg aD.agg kBool (onE fD eqD)) :=
  .inl ⟨enters_of (fn := Try.f103) (by kernel_rfl) (by kernel_rfl) (by kernel_rfl), pure2 onD_ctx (fun f p => givesOf (onD_run fD f p) (holds_br (B := kBool) (holds_br (B := kBool) (holds_leaf (kBool.h1 _)) (holds_leaf (a := .lit false) (v := kBool.val false) rfl)) (holds_leaf (kBool.h1 _))))⟩

def twTD : PureTab := (186, fn2 flD.agg jD.agg jD.agg (fun _ p => twiceJ fD p)) :: T2 fD
theorem twTD_ok : TabPOk PR twTD := TabPOk.cons twD_ok T2_ok
theorem suD_ctx : Ctx PR (envOf eqsT (twTD)) [23, 28, 90, 93] (fun _ => none) 40 162 :=
  ctx_of (envOf_ok eqsT_ok twTD_ok) mixed (fn := Try.f162) (by kernel_rfl) (by kernel_rfl) (by kernel_rfl) (tabOk_none _)
theorem suD_ok : CallOk PR 162 (fn3 flD.agg jD.agg jD.agg jD.agg (sumE fD eqD)) :=
  .inl ⟨enters_of (fn := Try.f162) (by kernel_rfl) (by kernel_rfl) (by kernel_rfl), pure3 suD_ctx (fun f p q => givesOf (suD_run fD f (fun _ p => twiceJ fD p) p q) (holds_br (B := jD.agg) (holds_leaf (jD.agg.h1 _)) (holds_br (B := jD.agg) (holds_leaf (jD.agg.h1 _)) (holds_br (B := jD.agg) (holds_br (B := jD.agg) (holds_leaf (jD.agg.h1 _)) (holds_leaf (jD.agg.h1 _))) (holds_leaf (jD.agg.h1 _))))))⟩

end Go.Rq

/- The curves' multiples: a loop over a number's bits. Written by a program of ours. -/
namespace Go.Rq
open Go Go.Proofs

/-- What times calls, left open. -/
structure TO (K : Type) where
  tw : Fl K → Jp K → Jp K
  su : Fl K → Jp K → Jp K → Jp K
  ln : W6 → Int
  bt : W6 → Int → Int

/-- A multiple, from bit k - 1 down. -/
def timesG {K : Type} (t : TO K) (f : Fl K) (p : Jp K) (n : W6) : Nat → Jp K → Jp K
  | 0, out => out
  | k + 1, out => timesG t f p n k (bif t.bt n (k : Int) == 1 then t.su f (t.tw f out) p else t.tw f out)


def tmTW (t : TO W6) : PureTab := [(176, fn2 flW.agg jW.agg jW.agg t.tw), (161, fn3 flW.agg jW.agg jW.agg jW.agg t.su),
  (116, fn1 c6.agg (kInt .i64) t.ln), (177, fn2 c6.agg (kInt .i64) (kInt .i64) t.bt)]
noncomputable def tmEW (t : TO W6) : Env := envOf eqsT (tmTW t)
def tmKW : Keep := ⟨[3, 4, 5, 6, 7, 8], [0, 1, 2, 3, 9], 15⟩
@[irreducible] noncomputable def tmXW (t : TO W6) (f : Fl W6) (p : Jp W6) (n : W6) : XS := entryOf PR (tmEW t) [18, 27] (fun _ => none) 10 138 [flW.agg.enc f, jW.agg.enc p, c6.agg.enc n] [] 0 0 tmKW
@[irreducible] noncomputable def tmIW (t : TO W6) (f : Fl W6) (p : Jp W6) (n : W6) (d : Int × Jp W6) : XS := ((tmXW t f p n).setT 8 (.v (.int .i64 d.1))).setB 9 (jW.enc d.2)
@[irreducible] noncomputable def tmCW : Code := roundOf PR 138 0

set_option maxRecDepth 100000 in
theorem tm_roundW (t : TO W6) (f : Fl W6) (p : Jp W6) (n : W6) (z : Int) (out : Jp W6) : (roundT PR (tmEW t) [18, 27] (fun _ => none) 10 tmKW tmKW tmKW tmCW (tmIW t f p n (z, out))).strict =
    .br (decide (z ≥ 0))
      (.br (t.bt n z == 1)
        (.leaf (.normal, tmIW t f p n (IntKind.i64.wrap (z - 1), t.su f (t.tw f out) p)))
        (.leaf (.normal, tmIW t f p n (IntKind.i64.wrap (z - 1), t.tw f out))))
      (.leaf (.exit 0, tmIW t f p n (z, out))) := by kernel_rfl


def tmTD (t : TO D6) : PureTab := [(186, fn2 flD.agg jD.agg jD.agg t.tw), (162, fn3 flD.agg jD.agg jD.agg jD.agg t.su),
  (116, fn1 c6.agg (kInt .i64) t.ln), (177, fn2 c6.agg (kInt .i64) (kInt .i64) t.bt)]
noncomputable def tmED (t : TO D6) : Env := envOf eqsT (tmTD t)
def tmKD : Keep := ⟨[3, 4, 5, 6, 7, 8], [0, 1, 2, 3, 9], 15⟩
@[irreducible] noncomputable def tmXD (t : TO D6) (f : Fl D6) (p : Jp D6) (n : W6) : XS := entryOf PR (tmED t) [18, 27] (fun _ => none) 10 157 [flD.agg.enc f, jD.agg.enc p, c6.agg.enc n] [] 0 0 tmKD
@[irreducible] noncomputable def tmID (t : TO D6) (f : Fl D6) (p : Jp D6) (n : W6) (d : Int × Jp D6) : XS := ((tmXD t f p n).setT 8 (.v (.int .i64 d.1))).setB 9 (jD.enc d.2)
@[irreducible] noncomputable def tmCD : Code := roundOf PR 157 0

set_option maxRecDepth 100000 in
theorem tm_roundD (t : TO D6) (f : Fl D6) (p : Jp D6) (n : W6) (z : Int) (out : Jp D6) : (roundT PR (tmED t) [18, 27] (fun _ => none) 10 tmKD tmKD tmKD tmCD (tmID t f p n (z, out))).strict =
    .br (decide (z ≥ 0))
      (.br (t.bt n z == 1)
        (.leaf (.normal, tmID t f p n (IntKind.i64.wrap (z - 1), t.su f (t.tw f out) p)))
        (.leaf (.normal, tmID t f p n (IntKind.i64.wrap (z - 1), t.tw f out))))
      (.leaf (.exit 0, tmID t f p n (z, out))) := by kernel_rfl

end Go.Rq

/- The curves' multiples: contracts. Written by a program of ours. -/
namespace Go.Rq
open Go Go.Proofs

theorem tm_law {K : Type} (t : TO K) (f : Fl K) (p : Jp K) (n : W6) (rt : XS → Tree (AExit × XS)) (I : Int × Jp K → XS) (hr : ∀ (z : Int) (out : Jp K), (rt (I (z, out))).strict =
    .br (decide (z ≥ 0))
      (.br (t.bt n z == 1)
        (.leaf (.normal, I (IntKind.i64.wrap (z - 1), t.su f (t.tw f out) p)))
        (.leaf (.normal, I (IntKind.i64.wrap (z - 1), t.tw f out))))
      (.leaf (.exit 0, I (z, out)))) {R : Jp K} {Q : AExit → XS → Prop} (hK : Q .normal (I (-1, R))) :
    ∀ d : Int × Jp K, (-1 ≤ d.1 ∧ d.1 ≤ 383 ∧ timesG t f p n (d.1 + 1).toNat d.2 = R) → (rt (I d)).holds (fun r => match r.1 with
      | .normal => ∃ j : Int × Jp K, (-1 ≤ j.1 ∧ j.1 ≤ 383 ∧ timesG t f p n (j.1 + 1).toNat j.2 = R) ∧ (j.1 + 1).toNat < (d.1 + 1).toNat ∧ r.2 = I j
      | .exit q => if q = 0 then Q .normal r.2 else Q (.exit q) r.2
      | .ret => Q .ret r.2) := by
  rintro ⟨z, out⟩ ⟨h0, h1, h2⟩
  apply Tree.holds_strict
  rw [hr]
  refine ⟨fun hz => ?_, fun hz => ?_⟩
  · have hz : 0 ≤ z := by simpa using hz
    have hw : IntKind.i64.wrap (z - 1) = z - 1 := wrap_id (by omega) (by omega)
    have hk : (z + 1).toNat = z.toNat + 1 := by omega
    simp only at h2
    rw [hk] at h2
    simp only [timesG] at h2
    rw [show ((z.toNat : Nat) : Int) = z by omega] at h2
    have hk' : (z - 1 + 1).toNat = z.toNat := by omega
    refine ⟨fun hb => ⟨⟨z - 1, t.su f (t.tw f out) p⟩, ⟨by simp only; omega, by simp only; omega, ?_⟩, ?_, ?_⟩, fun hb => ⟨⟨z - 1, t.tw f out⟩, ⟨by simp only; omega, by simp only; omega, ?_⟩, ?_, ?_⟩⟩
    · rw [hb] at h2
      simp only [hk']
      exact h2
    · show (z - 1 + 1).toNat < (z + 1).toNat
      omega
    · rw [hw]
    · rw [hb] at h2
      simp only [hk']
      exact h2
    · show (z - 1 + 1).toNat < (z + 1).toNat
      omega
    · rw [hw]
  · have hz : z = -1 := by
      have : ¬ 0 ≤ z := by simpa using hz
      omega
    subst hz
    have h2 : out = R := h2
    show (if (0 : Nat) = 0 then Q .normal (I (-1, out)) else Q (.exit 0) (I (-1, out)))
    rw [if_pos rfl, h2]
    exact hK

theorem chainV_mem {β : Type} {l : List (Bool × β)} {y : β} {Q : β → Prop} (h : ∀ c x, (c, x) ∈ l → Q x) (hy : Q y) : Q (chainV l y) := by
  induction l with
  | nil => exact hy
  | cons p t ih =>
    obtain ⟨c, x⟩ := p
    simp only [chainV]
    cases c with
    | true => exact h true x (List.mem_cons_self ..)
    | false => exact ih fun c x hm => h c x (List.mem_cons_of_mem _ hm)

theorem lenI_le (a : W6) : 0 ≤ lenI a ∧ lenI a ≤ 384 := by
  have b : ∀ x : BitVec 64, bl x.toNat ≤ 64 := fun x => bl_spec.2 x.isLt
  have g : ∀ (k : Int) (x : BitVec 64), 0 ≤ k → k ≤ 320 → 0 ≤ IntKind.i64.wrap (k + ((bl x.toNat : Nat) : Int)) ∧ IntKind.i64.wrap (k + ((bl x.toNat : Nat) : Int)) ≤ 384 := by
    intro k x h1 h2
    have := b x
    rw [wrap_id (by omega) (by omega)]
    omega
  unfold lenI lenL
  refine chainV_mem (Q := fun x => 0 ≤ x ∧ x ≤ 384) (fun c x h => ?_) (by omega)
  simp only [List.mem_cons, Prod.mk.injEq, List.not_mem_nil, or_false] at h
  rcases h with ⟨-, rfl⟩ | ⟨-, rfl⟩ | ⟨-, rfl⟩ | ⟨-, rfl⟩ | ⟨-, rfl⟩ | ⟨-, rfl⟩ <;> exact g _ _ (by omega) (by omega)


@[irreducible] noncomputable def tmBW (t : TO W6) (f : Fl W6) (p : Jp W6) (n : W6) (r : Jp W6) : BEnt := ⟨tmKW.tm, tmKW.ids, tmKW.n, tmXW t f p n, .leaf (.normal, tmIW t f p n (-1, r))⟩
set_option maxRecDepth 100000 in
theorem tm_runW (t : TO W6) (f : Fl W6) (p : Jp W6) (n : W6) (r : Jp W6) : (afunR PR (tmEW t) [18, 27] (tabOf [(0, tmBW t f p n r)]) 10 138 [flW.agg.enc f, jW.agg.enc p, c6.agg.enc n]).strict =
    .same (tmXW t f p n) (tmXW t f p n) (.leaf (jW.agg.enc r)) := by kernel_rfl
set_option maxRecDepth 100000 in
theorem tm_headW (t : TO W6) (f : Fl W6) (p : Jp W6) (n : W6) : tmXW t f p n = tmIW t f p n (IntKind.i64.wrap (t.ln n - 1), ⟨f.one, f.one, zeroW⟩) := by kernel_rfl
theorem tm_blkW : blkAll 0 (bodyOf PR 138) = [.loop tmCW] := by kernel_rfl
def tmOW : TO W6 := ⟨fun _ p => twiceJ fW p, sumE fW eqW, lenI, bitI⟩
theorem tmT_eqW : [(176, fn2 flW.agg jW.agg jW.agg (fun _ p => twiceJ fW p)), (161, fn3 flW.agg jW.agg jW.agg jW.agg (sumE fW eqW)),
  (116, fn1 c6.agg (kInt .i64) lenI), (177, fn2 c6.agg (kInt .i64) (kInt .i64) bitI)] = tmTW tmOW := by kernel_rfl
theorem tmT_okW : TabPOk PR (tmTW tmOW) := Eq.subst (motive := TabPOk PR) tmT_eqW (TabPOk.cons twW_ok (TabPOk.cons suW_ok (TabPOk.cons len_ok (TabPOk.cons bit_ok TabPOk.nil))))
theorem tmE_okW : EnvOk PR (tmEW tmOW) := envOf_ok eqsT_ok tmT_okW
theorem tm_codeOkW : codeOk (tmEW tmOW) tmCW = true := by kernel_rfl
def timesW (f : Fl W6) (p : Jp W6) (n : W6) : Jp W6 := timesG tmOW f p n (lenI n).toNat ⟨f.one, f.one, zeroW⟩

theorem tm_startW (f : Fl W6) (p : Jp W6) (n : W6) : ∀ d : Int × Jp W6, d = (IntKind.i64.wrap (tmOW.ln n - 1), ⟨f.one, f.one, zeroW⟩) → -1 ≤ d.1 ∧ d.1 ≤ 383 ∧ timesG tmOW f p n (d.1 + 1).toNat d.2 = timesW f p n := by
  rintro d rfl
  have hl := lenI_le n
  have hw : IntKind.i64.wrap (tmOW.ln n - 1) = lenI n - 1 := wrap_id (n := lenI n - 1) (by omega) (by omega)
  rw [hw]
  refine ⟨?_, ?_, ?_⟩
  · show -1 ≤ lenI n - 1
    omega
  · show lenI n - 1 ≤ 383
    omega
  · show timesG tmOW f p n (lenI n - 1 + 1).toNat _ = timesG tmOW f p n (lenI n).toNat _
    rw [show lenI n - 1 + 1 = lenI n by omega]

theorem tm_loopW (f : Fl W6) (p : Jp W6) (n : W6) {Fr0 : Fr} {ds : List Deferred} {Q : AExit → XS → Prop} (hK : Q .normal (tmIW tmOW f p n (-1, timesW f p n))) :
    Tri PR Fr0 ds 0 (.block 0 (.loop tmCW)) (tmXW tmOW f p n) Q :=
  Eq.subst (motive := fun y => Tri PR Fr0 ds 0 (.block 0 (.loop tmCW)) y Q) (tm_headW tmOW f p n).symm <| blockLoop (m := 0) tmE_okW mixed (sym := [18, 27]) (tab := fun _ => none) (lf := 10) (k := tmKW) (kx := tmKW) (kr := tmKW) (Nat.zero_le _) (Nat.zero_le _) (Nat.zero_le _) tm_codeOkW (tabOk_none _)
    (tmIW tmOW f p n) (fun d => -1 ≤ d.1 ∧ d.1 ≤ 383 ∧ timesG tmOW f p n (d.1 + 1).toNat d.2 = timesW f p n) (fun d => (d.1 + 1).toNat) _ (tm_startW f p n _ rfl)
    (tm_law tmOW f p n _ (tmIW tmOW f p n) (tm_roundW tmOW f p n) hK)

theorem tmB_nW (t : TO W6) (f : Fl W6) (p : Jp W6) (n : W6) (r : Jp W6) : (tmBW t f p n r).n = 15 ∧ (tmBW t f p n r).pre = tmXW t f p n ∧ (tmBW t f p n r).post = .leaf (.normal, tmIW t f p n (-1, r)) := by
  unfold tmBW
  exact ⟨rfl, rfl, rfl⟩

theorem tm_ctxW (f : Fl W6) (p : Jp W6) (n : W6) : Ctx PR (tmEW tmOW) [18, 27] (tabOf [(0, tmBW tmOW f p n (timesW f p n))]) 10 138 :=
  ctx_of tmE_okW mixed (fn := Try.f138) (by kernel_rfl) (by kernel_rfl) (by kernel_rfl)
    (tabOk_one (Nat.zero_le _) tm_blkW fun Fr0 ds Q h => by
      obtain ⟨-, h2, h3⟩ := tmB_nW tmOW f p n (timesW f p n)
      rw [h3] at h
      rw [h2]
      exact tm_loopW f p n h)

theorem tm_okW : CallOk PR 138 (fn3 flW.agg jW.agg c6.agg jW.agg timesW) :=
  .inl ⟨enters_of (fn := Try.f138) (by kernel_rfl) (by kernel_rfl) (by kernel_rfl),
    pure3X fun f p n => .of (tm_ctxW f p n) (sameVal (tm_runW tmOW f p n (timesW f p n)))⟩


@[irreducible] noncomputable def tmBD (t : TO D6) (f : Fl D6) (p : Jp D6) (n : W6) (r : Jp D6) : BEnt := ⟨tmKD.tm, tmKD.ids, tmKD.n, tmXD t f p n, .leaf (.normal, tmID t f p n (-1, r))⟩
set_option maxRecDepth 100000 in
theorem tm_runD (t : TO D6) (f : Fl D6) (p : Jp D6) (n : W6) (r : Jp D6) : (afunR PR (tmED t) [18, 27] (tabOf [(0, tmBD t f p n r)]) 10 157 [flD.agg.enc f, jD.agg.enc p, c6.agg.enc n]).strict =
    .same (tmXD t f p n) (tmXD t f p n) (.leaf (jD.agg.enc r)) := by kernel_rfl
set_option maxRecDepth 100000 in
theorem tm_headD (t : TO D6) (f : Fl D6) (p : Jp D6) (n : W6) : tmXD t f p n = tmID t f p n (IntKind.i64.wrap (t.ln n - 1), ⟨f.one, f.one, zero2⟩) := by kernel_rfl
theorem tm_blkD : blkAll 0 (bodyOf PR 157) = [.loop tmCD] := by kernel_rfl
def tmOD : TO D6 := ⟨fun _ p => twiceJ fD p, sumE fD eqD, lenI, bitI⟩
theorem tmT_eqD : [(186, fn2 flD.agg jD.agg jD.agg (fun _ p => twiceJ fD p)), (162, fn3 flD.agg jD.agg jD.agg jD.agg (sumE fD eqD)),
  (116, fn1 c6.agg (kInt .i64) lenI), (177, fn2 c6.agg (kInt .i64) (kInt .i64) bitI)] = tmTD tmOD := by kernel_rfl
theorem tmT_okD : TabPOk PR (tmTD tmOD) := Eq.subst (motive := TabPOk PR) tmT_eqD (TabPOk.cons twD_ok (TabPOk.cons suD_ok (TabPOk.cons len_ok (TabPOk.cons bit_ok TabPOk.nil))))
theorem tmE_okD : EnvOk PR (tmED tmOD) := envOf_ok eqsT_ok tmT_okD
theorem tm_codeOkD : codeOk (tmED tmOD) tmCD = true := by kernel_rfl
def timesD (f : Fl D6) (p : Jp D6) (n : W6) : Jp D6 := timesG tmOD f p n (lenI n).toNat ⟨f.one, f.one, zero2⟩

theorem tm_startD (f : Fl D6) (p : Jp D6) (n : W6) : ∀ d : Int × Jp D6, d = (IntKind.i64.wrap (tmOD.ln n - 1), ⟨f.one, f.one, zero2⟩) → -1 ≤ d.1 ∧ d.1 ≤ 383 ∧ timesG tmOD f p n (d.1 + 1).toNat d.2 = timesD f p n := by
  rintro d rfl
  have hl := lenI_le n
  have hw : IntKind.i64.wrap (tmOD.ln n - 1) = lenI n - 1 := wrap_id (n := lenI n - 1) (by omega) (by omega)
  rw [hw]
  refine ⟨?_, ?_, ?_⟩
  · show -1 ≤ lenI n - 1
    omega
  · show lenI n - 1 ≤ 383
    omega
  · show timesG tmOD f p n (lenI n - 1 + 1).toNat _ = timesG tmOD f p n (lenI n).toNat _
    rw [show lenI n - 1 + 1 = lenI n by omega]

theorem tm_loopD (f : Fl D6) (p : Jp D6) (n : W6) {Fr0 : Fr} {ds : List Deferred} {Q : AExit → XS → Prop} (hK : Q .normal (tmID tmOD f p n (-1, timesD f p n))) :
    Tri PR Fr0 ds 0 (.block 0 (.loop tmCD)) (tmXD tmOD f p n) Q :=
  Eq.subst (motive := fun y => Tri PR Fr0 ds 0 (.block 0 (.loop tmCD)) y Q) (tm_headD tmOD f p n).symm <| blockLoop (m := 0) tmE_okD mixed (sym := [18, 27]) (tab := fun _ => none) (lf := 10) (k := tmKD) (kx := tmKD) (kr := tmKD) (Nat.zero_le _) (Nat.zero_le _) (Nat.zero_le _) tm_codeOkD (tabOk_none _)
    (tmID tmOD f p n) (fun d => -1 ≤ d.1 ∧ d.1 ≤ 383 ∧ timesG tmOD f p n (d.1 + 1).toNat d.2 = timesD f p n) (fun d => (d.1 + 1).toNat) _ (tm_startD f p n _ rfl)
    (tm_law tmOD f p n _ (tmID tmOD f p n) (tm_roundD tmOD f p n) hK)

theorem tmB_nD (t : TO D6) (f : Fl D6) (p : Jp D6) (n : W6) (r : Jp D6) : (tmBD t f p n r).n = 15 ∧ (tmBD t f p n r).pre = tmXD t f p n ∧ (tmBD t f p n r).post = .leaf (.normal, tmID t f p n (-1, r)) := by
  unfold tmBD
  exact ⟨rfl, rfl, rfl⟩

theorem tm_ctxD (f : Fl D6) (p : Jp D6) (n : W6) : Ctx PR (tmED tmOD) [18, 27] (tabOf [(0, tmBD tmOD f p n (timesD f p n))]) 10 157 :=
  ctx_of tmE_okD mixed (fn := Try.f157) (by kernel_rfl) (by kernel_rfl) (by kernel_rfl)
    (tabOk_one (Nat.zero_le _) tm_blkD fun Fr0 ds Q h => by
      obtain ⟨-, h2, h3⟩ := tmB_nD tmOD f p n (timesD f p n)
      rw [h3] at h
      rw [h2]
      exact tm_loopD f p n h)

theorem tm_okD : CallOk PR 157 (fn3 flD.agg jD.agg c6.agg jD.agg timesD) :=
  .inl ⟨enters_of (fn := Try.f157) (by kernel_rfl) (by kernel_rfl) (by kernel_rfl),
    pure3X fun f p n => .of (tm_ctxD f p n) (sameVal (tm_runD tmOD f p n (timesD f p n)))⟩

end Go.Rq

/- The reference's powers: contract. -/
namespace Go.Rq
open Go Go.Proofs

/-- What a power calls, left open. -/
structure PO where
  mu : Fa → W6 → W6 → W6
  ln : W6 → Int
  bt : W6 → Int → Int

def numOne : W6 := ⟨bitW true, 0#64, 0#64, 0#64, 0#64, 0#64⟩
/-- The outcome so far: at first the one as it is laid. -/
def ovP : Option W6 → W6
  | none => numOne
  | some w => w
def ocP : Option W6 → List AV
  | none => [.bit true, .u 0#64, .u 0#64, .u 0#64, .u 0#64, .u 0#64]
  | some w => c6.enc w

def rpoT (t : PO) : PureTab := [(82, fn3 cFa.agg c6.agg c6.agg c6.agg t.mu), (147, fn1 c6.agg (kInt .i64) t.ln), (179, fn2 c6.agg (kInt .i64) (kInt .i64) t.bt)]
noncomputable def rpoE (t : PO) : Env := envOf eqsT (rpoT t)
def rpoK : Keep := ⟨[3, 4, 5, 6, 7, 8], [0, 1, 2, 3, 5], 11⟩
@[irreducible] noncomputable def rpoX (t : PO) (f : Fa) (a e : W6) : XS := entryOf PR (rpoE t) [14, 24] (fun _ => none) 10 144 [cFa.agg.enc f, c6.agg.enc a, c6.agg.enc e] [] 0 0 rpoK
@[irreducible] noncomputable def rpoI (t : PO) (f : Fa) (a e : W6) (d : Int × Option W6) : XS := ((rpoX t f a e).setT 8 (.v (.int .i64 d.1))).setB 5 (ocP d.2)
@[irreducible] noncomputable def rpoC : Code := roundOf PR 144 0

def rpoR (t : PO) (f : Fa) (a e : W6) (I : Int × Option W6 → XS) (z : Int) (o : Option W6) : Tree (AExit × XS) :=
    .br (decide (z ≥ 0))
      (.br (t.bt e z == 1)
        (.leaf (.normal, I (IntKind.i64.wrap (z - 1), some (t.mu f (t.mu f (ovP o) (ovP o)) a))))
        (.leaf (.normal, I (IntKind.i64.wrap (z - 1), some (t.mu f (ovP o) (ovP o))))))
      (.leaf (.exit 0, I (z, o)))
set_option maxRecDepth 100000 in
theorem rpo_round0 (t : PO) (f : Fa) (a e : W6) (z : Int) : (roundT PR (rpoE t) [14, 24] (fun _ => none) 10 rpoK rpoK rpoK rpoC (rpoI t f a e (z, none))).strict = rpoR t f a e (rpoI t f a e) z none := by kernel_rfl
set_option maxRecDepth 100000 in
theorem rpo_round1 (t : PO) (f : Fa) (a e : W6) (z : Int) (w : W6) : (roundT PR (rpoE t) [14, 24] (fun _ => none) 10 rpoK rpoK rpoK rpoC (rpoI t f a e (z, some w))).strict = rpoR t f a e (rpoI t f a e) z (some w) := by kernel_rfl
theorem rpo_round (t : PO) (f : Fa) (a e : W6) (z : Int) (o : Option W6) : (roundT PR (rpoE t) [14, 24] (fun _ => none) 10 rpoK rpoK rpoK rpoC (rpoI t f a e (z, o))).strict = rpoR t f a e (rpoI t f a e) z o := by
  cases o with
  | none => exact rpo_round0 t f a e z
  | some w => exact rpo_round1 t f a e z w

/-- A power, from bit k - 1 down. -/
def powR (t : PO) (f : Fa) (a e : W6) : Nat → Option W6 → Option W6
  | 0, o => o
  | k + 1, o => powR t f a e k (some (bif t.bt e (k : Int) == 1 then t.mu f (t.mu f (ovP o) (ovP o)) a else t.mu f (ovP o) (ovP o)))

theorem rpo_law (t : PO) (f : Fa) (a e : W6) (rt : XS → Tree (AExit × XS)) (I : Int × Option W6 → XS) (hr : ∀ (z : Int) (o : Option W6), (rt (I (z, o))).strict = rpoR t f a e I z o)
    {R : Option W6} {Q : AExit → XS → Prop} (hK : Q .normal (I (-1, R))) :
    ∀ d : Int × Option W6, (-1 ≤ d.1 ∧ d.1 ≤ 383 ∧ powR t f a e (d.1 + 1).toNat d.2 = R) → (rt (I d)).holds (fun r => match r.1 with
      | .normal => ∃ j : Int × Option W6, (-1 ≤ j.1 ∧ j.1 ≤ 383 ∧ powR t f a e (j.1 + 1).toNat j.2 = R) ∧ (j.1 + 1).toNat < (d.1 + 1).toNat ∧ r.2 = I j
      | .exit q => if q = 0 then Q .normal r.2 else Q (.exit q) r.2
      | .ret => Q .ret r.2) := by
  rintro ⟨z, o⟩ ⟨h0, h1, h2⟩
  apply Tree.holds_strict
  rw [hr]
  unfold rpoR
  refine ⟨fun hz => ?_, fun hz => ?_⟩
  · have hz : 0 ≤ z := by simpa using hz
    have hw : IntKind.i64.wrap (z - 1) = z - 1 := wrap_id (by omega) (by omega)
    have hk : (z + 1).toNat = z.toNat + 1 := by omega
    simp only at h2
    rw [hk] at h2
    simp only [powR] at h2
    rw [show ((z.toNat : Nat) : Int) = z by omega] at h2
    have hk' : (z - 1 + 1).toNat = z.toNat := by omega
    refine ⟨fun hb => ⟨⟨z - 1, some (t.mu f (t.mu f (ovP o) (ovP o)) a)⟩, ⟨by simp only; omega, by simp only; omega, ?_⟩, ?_, ?_⟩, fun hb => ⟨⟨z - 1, some (t.mu f (ovP o) (ovP o))⟩, ⟨by simp only; omega, by simp only; omega, ?_⟩, ?_, ?_⟩⟩
    · rw [hb] at h2
      simp only [hk']
      exact h2
    · show (z - 1 + 1).toNat < (z + 1).toNat
      omega
    · rw [hw]
    · rw [hb] at h2
      simp only [hk']
      exact h2
    · show (z - 1 + 1).toNat < (z + 1).toNat
      omega
    · rw [hw]
  · have hz : z = -1 := by
      have : ¬ 0 ≤ z := by simpa using hz
      omega
    subst hz
    have h2 : o = R := h2
    show (if (0 : Nat) = 0 then Q .normal (I (-1, o)) else Q (.exit 0) (I (-1, o)))
    rw [if_pos rfl, h2]
    exact hK

theorem rlenL_le (B : W6 → Int → Int) (a : W6) : ∀ (k : Nat), k ≤ 384 → ∀ c x, (c, x) ∈ rlenL B a k → 0 ≤ x ∧ x ≤ 384
  | 0, _, c, x, h => by simp [rlenL] at h
  | k + 1, hk, c, x, h => by
    simp only [rlenL, List.mem_cons, Prod.mk.injEq] at h
    rcases h with ⟨-, rfl⟩ | h
    · omega
    · exact rlenL_le B a k (by omega) c x h
theorem rlenI_le (a : W6) : 0 ≤ rlenI a ∧ rlenI a ≤ 384 := chainV_mem (Q := fun x => 0 ≤ x ∧ x ≤ 384) (rlenL_le bitI a 384 (Nat.le_refl _)) (by omega)

@[irreducible] noncomputable def rpoB (t : PO) (f : Fa) (a e : W6) (r : Option W6) : BEnt := ⟨rpoK.tm, rpoK.ids, rpoK.n, rpoX t f a e, .leaf (.normal, rpoI t f a e (-1, r))⟩
set_option maxRecDepth 100000 in
theorem rpo_run (t : PO) (f : Fa) (a e : W6) (r : W6) : (afunR PR (rpoE t) [14, 24] (tabOf [(0, rpoB t f a e (some r))]) 10 144 [cFa.agg.enc f, c6.agg.enc a, c6.agg.enc e]).strict =
    .same (rpoX t f a e) (rpoX t f a e) (.leaf (c6.agg.enc r)) := by kernel_rfl
set_option maxRecDepth 100000 in
theorem rpo_run0 (t : PO) (f : Fa) (a e : W6) : (afunR PR (rpoE t) [14, 24] (tabOf [(0, rpoB t f a e none)]) 10 144 [cFa.agg.enc f, c6.agg.enc a, c6.agg.enc e]).strict =
    .same (rpoX t f a e) (rpoX t f a e) (.leaf (.agg (ocP none))) := by kernel_rfl
set_option maxRecDepth 100000 in
theorem rpo_head (t : PO) (f : Fa) (a e : W6) : rpoX t f a e = rpoI t f a e (IntKind.i64.wrap (t.ln e - 1), none) := by kernel_rfl
theorem rpo_blk : blkAll 0 (bodyOf PR 144) = [.loop rpoC] := by kernel_rfl

def rpoO : PO := ⟨rmulW, rlenI, bitI⟩
theorem rpoT_eq : [(82, fn3 cFa.agg c6.agg c6.agg c6.agg rmulW), (147, fn1 c6.agg (kInt .i64) rlenI), (179, fn2 c6.agg (kInt .i64) (kInt .i64) bitI)] = rpoT rpoO := by kernel_rfl
theorem rpoT_ok : TabPOk PR (rpoT rpoO) := Eq.subst (motive := TabPOk PR) rpoT_eq (TabPOk.cons rmul_ok (TabPOk.cons rlen_ok (TabPOk.cons rbit_ok TabPOk.nil)))
theorem rpoE_ok : EnvOk PR (rpoE rpoO) := envOf_ok eqsT_ok rpoT_ok
theorem rpo_codeOk : codeOk (rpoE rpoO) rpoC = true := by kernel_rfl
def rpowO (f : Fa) (a e : W6) : Option W6 := powR rpoO f a e (rlenI e).toNat none
def rpowW (f : Fa) (a e : W6) : W6 := ovP (rpowO f a e)

theorem rpo_start (f : Fa) (a e : W6) : ∀ d : Int × Option W6, d = (IntKind.i64.wrap (rpoO.ln e - 1), none) → -1 ≤ d.1 ∧ d.1 ≤ 383 ∧ powR rpoO f a e (d.1 + 1).toNat d.2 = rpowO f a e := by
  rintro d rfl
  have hl := rlenI_le e
  have hw : IntKind.i64.wrap (rpoO.ln e - 1) = rlenI e - 1 := wrap_id (n := rlenI e - 1) (by omega) (by omega)
  rw [hw]
  refine ⟨?_, ?_, ?_⟩
  · show -1 ≤ rlenI e - 1
    omega
  · show rlenI e - 1 ≤ 383
    omega
  · show powR rpoO f a e (rlenI e - 1 + 1).toNat none = powR rpoO f a e (rlenI e).toNat none
    rw [show rlenI e - 1 + 1 = rlenI e by omega]

theorem rpo_loop (f : Fa) (a e : W6) {Fr0 : Fr} {ds : List Deferred} {Q : AExit → XS → Prop} (hK : Q .normal (rpoI rpoO f a e (-1, rpowO f a e))) :
    Tri PR Fr0 ds 0 (.block 0 (.loop rpoC)) (rpoX rpoO f a e) Q :=
  Eq.subst (motive := fun y => Tri PR Fr0 ds 0 (.block 0 (.loop rpoC)) y Q) (rpo_head rpoO f a e).symm <| blockLoop (m := 0) rpoE_ok mixed (sym := [14, 24]) (tab := fun _ => none) (lf := 10) (k := rpoK) (kx := rpoK) (kr := rpoK) (Nat.zero_le _) (Nat.zero_le _) (Nat.zero_le _) rpo_codeOk (tabOk_none _)
    (rpoI rpoO f a e) (fun d => -1 ≤ d.1 ∧ d.1 ≤ 383 ∧ powR rpoO f a e (d.1 + 1).toNat d.2 = rpowO f a e) (fun d => (d.1 + 1).toNat) _ (rpo_start f a e _ rfl)
    (rpo_law rpoO f a e _ (rpoI rpoO f a e) (rpo_round rpoO f a e) hK)

theorem rpoB_n (t : PO) (f : Fa) (a e : W6) (r : Option W6) : (rpoB t f a e r).n = 11 ∧ (rpoB t f a e r).pre = rpoX t f a e ∧ (rpoB t f a e r).post = .leaf (.normal, rpoI t f a e (-1, r)) := by
  unfold rpoB
  exact ⟨rfl, rfl, rfl⟩

theorem rpo_ctx (f : Fa) (a e : W6) : Ctx PR (rpoE rpoO) [14, 24] (tabOf [(0, rpoB rpoO f a e (rpowO f a e))]) 10 144 :=
  ctx_of rpoE_ok mixed (fn := Try.f144) (by kernel_rfl) (by kernel_rfl) (by kernel_rfl)
    (tabOk_one (Nat.zero_le _) rpo_blk fun Fr0 ds Q h => by
      obtain ⟨-, h2, h3⟩ := rpoB_n rpoO f a e (rpowO f a e)
      rw [h3] at h
      rw [h2]
      exact rpo_loop f a e h)

theorem sameOf {P : Program} {E : Env} {sym : List Tmp} {tab : BTab} {lf f : Nat} {ys : List AV} {x : XS} {a : AV} {v : Value} (h : (afunR P E sym tab lf f ys).strict = .same x x (.leaf a)) (hv : flat a = some v) : Gives (afunR P E sym tab lf f ys) v :=
  ⟨Tree.holds_strict (by rw [h]; exact ⟨rfl, hv⟩)⟩
theorem rpow_gives (f : Fa) (a e : W6) (o : Option W6) : Gives (afunR PR (rpoE rpoO) [14, 24] (tabOf [(0, rpoB rpoO f a e o)]) 10 144 [cFa.agg.enc f, c6.agg.enc a, c6.agg.enc e]) (c6.agg.val (ovP o)) := by
  cases o with
  | none => exact sameOf (rpo_run0 rpoO f a e) (by kernel_rfl)
  | some w => exact sameOf (rpo_run rpoO f a e w) (c6.agg.h1 w)
theorem rpow_ok : CallOk PR 144 (fn3 cFa.agg c6.agg c6.agg c6.agg rpowW) :=
  .inl ⟨enters_of (fn := Try.f144) (by kernel_rfl) (by kernel_rfl) (by kernel_rfl),
    pure3X fun f a e => .of (rpo_ctx f a e) (rpow_gives f a e (rpowO f a e))⟩

/-! The inverse. -/
def numTwo : W6 := ⟨2#64, 0#64, 0#64, 0#64, 0#64, 0#64⟩
def rinT (p : Fa → W6 → W6 → W6) (sb : W6 → W6 → W6 × Bool) : PureTab := [(144, fn3 cFa.agg c6.agg c6.agg c6.agg p), (143, fn2 c6.agg c6.agg kWB sb)]
theorem rinv_run (p : Fa → W6 → W6 → W6) (sb : W6 → W6 → W6 × Bool) (f : Fa) (a : W6) : (afunR PR (envOf eqsT (rinT p sb)) [] (fun _ => none) 10 94 [cFa.agg.enc f, c6.agg.enc a]).strict = .leaf (c6.agg.enc (p f a (sb f.1 numTwo).1)) := by kernel_rfl
def rinvW (f : Fa) (a : W6) : W6 := rpowW f a (rsubW f.1 numTwo).1
theorem rinv_ctx : Ctx PR (envOf eqsT (rinT rpowW rsubW)) [] (fun _ => none) 10 94 :=
  ctx_of (envOf_ok eqsT_ok (TabPOk.cons rpow_ok (TabPOk.cons rsub_ok TabPOk.nil))) mixed (fn := Try.f94) (by kernel_rfl) (by kernel_rfl) (by kernel_rfl) (tabOk_none _)
theorem rfinv_ok : CallOk PR 94 (fn2 cFa.agg c6.agg c6.agg rinvW) :=
  .inl ⟨enters_of (fn := Try.f94) (by kernel_rfl) (by kernel_rfl) (by kernel_rfl), pure2 rinv_ctx (fun f a => leafVal (B := c6.agg) (y := rinvW f a) (rinv_run rpowW rsubW f a))⟩
end Go.Rq

/- The curves' functions on told points: kernel checks, the called functions left open. Written by a program of ours. -/
namespace Go.Rq
open Go Go.Proofs

set_option maxRecDepth 100000 in
theorem below_run (C : W6 → W6 → Int) (b : W6) (a : W6) : (afunR PR (envOf eqsT [(117, fn2 c6.agg c6.agg (kInt .i64) C), (168, fn0 c6.agg b)]) [] (fun _ => none) 40 130 [c6.agg.enc a]).strict =
    .leaf (kBool.enc (decide (C a b < 0))) := by kernel_rfl
set_option maxRecDepth 100000 in
theorem first_run (to : W6 → W6) (one : W6) (of : BitVec 64 → W6) : (afunR PR (envOf eqsT [(135, fn0 c6.agg one), (136, fn1 c6.agg c6.agg to), (63, fn1 kU c6.agg of)]) [] (fun _ => none) 40 85 []).strict =
    .leaf (flW.agg.enc ⟨one, to (of 4#64)⟩) := by kernel_rfl
set_option maxRecDepth 100000 in
theorem second_run (to : W6 → W6) (one : D6) (of : BitVec 64 → W6) : (afunR PR (envOf eqsT [(154, fn0 c12.agg one), (136, fn1 c6.agg c6.agg to), (63, fn1 kU c6.agg of)]) [] (fun _ => none) 40 102 []).strict =
    .leaf (flD.agg.enc ⟨one, ⟨to (of 4#64), to (of 4#64)⟩⟩) := by kernel_rfl
set_option maxRecDepth 100000 in
theorem in1_run (to : W6 → W6) (p : Ap W6) : (afunR PR (envOf eqsT [(136, fn1 c6.agg c6.agg to)]) [] (fun _ => none) 40 87 [aW.agg.enc p]).strict =
    .leaf (aW.agg.enc ⟨to p.x, to p.y, p.zero⟩) := by kernel_rfl
set_option maxRecDepth 100000 in
theorem out1_run (fr : W6 → W6) (p : Ap W6) : (afunR PR (envOf eqsT [(141, fn1 c6.agg c6.agg fr)]) [] (fun _ => none) 40 91 [aW.agg.enc p]).strict =
    .leaf (aW.agg.enc ⟨fr p.x, fr p.y, p.zero⟩) := by kernel_rfl
set_option maxRecDepth 100000 in
theorem in2_run (to : D6 → D6) (p : Ap D6) : (afunR PR (envOf eqsT [(155, fn1 c12.agg c12.agg to)]) [] (fun _ => none) 40 104 [aD.agg.enc p]).strict =
    .leaf (aD.agg.enc ⟨to p.x, to p.y, p.zero⟩) := by kernel_rfl
set_option maxRecDepth 100000 in
theorem out2_run (fr : D6 → D6) (p : Ap D6) : (afunR PR (envOf eqsT [(159, fn1 c12.agg c12.agg fr)]) [] (fun _ => none) 40 106 [aD.agg.enc p]).strict =
    .leaf (aD.agg.enc ⟨fr p.x, fr p.y, p.zero⟩) := by kernel_rfl
set_option maxRecDepth 100000 in
theorem below1_run (l : W6 → Bool) (p : Ap W6) : (afunR PR (envOf eqsT [(130, fn1 c6.agg kBool l)]) [6] (fun _ => none) 40 84 [aW.agg.enc p]).strict =
    .br (l p.x) (.leaf (kBool.enc (l p.y))) (.leaf (.lit false)) := by kernel_rfl


set_option maxRecDepth 100000 in
theorem isW_run (on : Fl W6 → Ap W6 → Bool) (ra : Fl W6 → Ap W6 → Jp W6) (od : W6) (tm : Fl W6 → Jp W6 → W6 → Jp W6) (lo : Fl W6 → Jp W6 → Ap W6) (f : Fl W6) (p : Ap W6) :
    (afunR PR (envOf eqsT [(86, fn2 flW.agg aW.agg kBool on), (139, fn2 flW.agg aW.agg jW.agg ra), (64, fn0 c6.agg od),
      (138, fn3 flW.agg jW.agg c6.agg jW.agg tm), (137, fn2 flW.agg jW.agg aW.agg lo)]) [8] (fun _ => none) 40 88 [flW.agg.enc f, aW.agg.enc p]).strict =
    .br (on f p) (.leaf (kBool.enc (lo f (tm f (ra f p) od)).zero)) (.leaf (.lit false)) := by kernel_rfl
set_option maxRecDepth 100000 in
theorem check1_run (l : Ap W6 → Bool) (fi : Fl W6) (inn : Ap W6 → Ap W6) (on : Fl W6 → Ap W6 → Bool) (p : Ap W6) :
    (afunR PR (envOf eqsT [(84, fn1 aW.agg kBool l), (85, fn0 flW.agg fi), (87, fn1 aW.agg aW.agg inn), (86, fn2 flW.agg aW.agg kBool on)]) [5] (fun _ => none) 40 30 [aW.agg.enc p]).strict =
    .br (l p) (.leaf (kBool.enc (on fi (inn p)))) (.leaf (.lit false)) := by kernel_rfl
set_option maxRecDepth 100000 in
theorem isin1_run (l : Ap W6 → Bool) (fi : Fl W6) (inn : Ap W6 → Ap W6) (on : Fl W6 → Ap W6 → Bool) (p : Ap W6) :
    (afunR PR (envOf eqsT [(84, fn1 aW.agg kBool l), (85, fn0 flW.agg fi), (87, fn1 aW.agg aW.agg inn), (88, fn2 flW.agg aW.agg kBool on)]) [5] (fun _ => none) 40 31 [aW.agg.enc p]).strict =
    .br (l p) (.leaf (kBool.enc (on fi (inn p)))) (.leaf (.lit false)) := by kernel_rfl


set_option maxRecDepth 100000 in
theorem isD_run (on : Fl D6 → Ap D6 → Bool) (ra : Fl D6 → Ap D6 → Jp D6) (od : W6) (tm : Fl D6 → Jp D6 → W6 → Jp D6) (lo : Fl D6 → Jp D6 → Ap D6) (f : Fl D6) (p : Ap D6) :
    (afunR PR (envOf eqsT [(103, fn2 flD.agg aD.agg kBool on), (158, fn2 flD.agg aD.agg jD.agg ra), (64, fn0 c6.agg od),
      (157, fn3 flD.agg jD.agg c6.agg jD.agg tm), (156, fn2 flD.agg jD.agg aD.agg lo)]) [8] (fun _ => none) 40 105 [flD.agg.enc f, aD.agg.enc p]).strict =
    .br (on f p) (.leaf (kBool.enc (lo f (tm f (ra f p) od)).zero)) (.leaf (.lit false)) := by kernel_rfl
set_option maxRecDepth 100000 in
theorem check2_run (l : Ap D6 → Bool) (fi : Fl D6) (inn : Ap D6 → Ap D6) (on : Fl D6 → Ap D6 → Bool) (p : Ap D6) :
    (afunR PR (envOf eqsT [(101, fn1 aD.agg kBool l), (102, fn0 flD.agg fi), (104, fn1 aD.agg aD.agg inn), (103, fn2 flD.agg aD.agg kBool on)]) [5] (fun _ => none) 40 43 [aD.agg.enc p]).strict =
    .br (l p) (.leaf (kBool.enc (on fi (inn p)))) (.leaf (.lit false)) := by kernel_rfl
set_option maxRecDepth 100000 in
theorem isin2_run (l : Ap D6 → Bool) (fi : Fl D6) (inn : Ap D6 → Ap D6) (on : Fl D6 → Ap D6 → Bool) (p : Ap D6) :
    (afunR PR (envOf eqsT [(101, fn1 aD.agg kBool l), (102, fn0 flD.agg fi), (104, fn1 aD.agg aD.agg inn), (105, fn2 flD.agg aD.agg kBool on)]) [5] (fun _ => none) 40 44 [aD.agg.enc p]).strict =
    .br (l p) (.leaf (kBool.enc (on fi (inn p)))) (.leaf (.lit false)) := by kernel_rfl

end Go.Rq

/- The curves' functions on told points: contracts. Written by a program of ours. -/
namespace Go.Rq
open Go Go.Proofs

def belowI (a : W6) : Bool := decide (chainV (cmpL a primeW) 0 < 0)
def fld1 : Fl W6 := ⟨oneW, toW (ofW 4#64)⟩
def fld2 : Fl D6 := ⟨one2, ⟨toW (ofW 4#64), toW (ofW 4#64)⟩⟩
def inP1 (p : Ap W6) : Ap W6 := ⟨toW p.x, toW p.y, p.zero⟩
def outP1 (p : Ap W6) : Ap W6 := ⟨fromW p.x, fromW p.y, p.zero⟩
def inP2 (p : Ap D6) : Ap D6 := ⟨to2 fW p.x, to2 fW p.y, p.zero⟩
def outP2 (p : Ap D6) : Ap D6 := ⟨back2 fW p.x, back2 fW p.y, p.zero⟩

def tt_below : PureTab := [(117, fn2 c6.agg c6.agg (kInt .i64) fun a b => chainV (cmpL a b) 0), (168, fn0 c6.agg primeW)]
theorem tt_below_ok : TabPOk PR tt_below := TabPOk.cons cmp_ok (TabPOk.cons base_ok (TabPOk.nil))
theorem below_ctx : Ctx PR (envOf eqsT tt_below) [] (fun _ => none) 40 130 :=
  ctx_of (envOf_ok eqsT_ok tt_below_ok) mixed (fn := Try.f130) (by kernel_rfl) (by kernel_rfl) (by kernel_rfl) (tabOk_none _)
theorem below_ok : CallOk PR 130 (fn1 c6.agg kBool belowI) :=
  .inl ⟨enters_of (fn := Try.f130) (by kernel_rfl) (by kernel_rfl) (by kernel_rfl), pure1 below_ctx (fun a => leafVal (B := kBool) (y := belowI a) (below_run (fun a b => chainV (cmpL a b) 0) primeW a))⟩

def tt_first : PureTab := [(135, fn0 c6.agg oneW), (136, fn1 c6.agg c6.agg toW), (63, fn1 kU c6.agg ofW)]
theorem tt_first_ok : TabPOk PR tt_first := TabPOk.cons one_ok (TabPOk.cons mto_ok (TabPOk.cons of_ok (TabPOk.nil)))
theorem first_ctx : Ctx PR (envOf eqsT tt_first) [] (fun _ => none) 40 85 :=
  ctx_of (envOf_ok eqsT_ok tt_first_ok) mixed (fn := Try.f85) (by kernel_rfl) (by kernel_rfl) (by kernel_rfl) (tabOk_none _)
theorem first_ok : CallOk PR 85 (fn0 flW.agg fld1) :=
  .inl ⟨enters_of (fn := Try.f85) (by kernel_rfl) (by kernel_rfl) (by kernel_rfl), pure0 first_ctx (leafVal (B := flW.agg) (y := fld1) (first_run toW oneW ofW))⟩

def tt_second : PureTab := [(154, fn0 c12.agg one2), (136, fn1 c6.agg c6.agg toW), (63, fn1 kU c6.agg ofW)]
theorem tt_second_ok : TabPOk PR tt_second := TabPOk.cons one2_ok (TabPOk.cons mto_ok (TabPOk.cons of_ok (TabPOk.nil)))
theorem second_ctx : Ctx PR (envOf eqsT tt_second) [] (fun _ => none) 40 102 :=
  ctx_of (envOf_ok eqsT_ok tt_second_ok) mixed (fn := Try.f102) (by kernel_rfl) (by kernel_rfl) (by kernel_rfl) (tabOk_none _)
theorem second_ok : CallOk PR 102 (fn0 flD.agg fld2) :=
  .inl ⟨enters_of (fn := Try.f102) (by kernel_rfl) (by kernel_rfl) (by kernel_rfl), pure0 second_ctx (leafVal (B := flD.agg) (y := fld2) (second_run toW one2 ofW))⟩

def tt_inp1 : PureTab := [(136, fn1 c6.agg c6.agg toW)]
theorem tt_inp1_ok : TabPOk PR tt_inp1 := TabPOk.cons mto_ok (TabPOk.nil)
theorem inp1_ctx : Ctx PR (envOf eqsT tt_inp1) [] (fun _ => none) 40 87 :=
  ctx_of (envOf_ok eqsT_ok tt_inp1_ok) mixed (fn := Try.f87) (by kernel_rfl) (by kernel_rfl) (by kernel_rfl) (tabOk_none _)
theorem inp1_ok : CallOk PR 87 (fn1 aW.agg aW.agg inP1) :=
  .inl ⟨enters_of (fn := Try.f87) (by kernel_rfl) (by kernel_rfl) (by kernel_rfl), pure1 inp1_ctx (fun p => leafVal (B := aW.agg) (y := inP1 p) (in1_run toW p))⟩

def tt_outp1 : PureTab := [(141, fn1 c6.agg c6.agg fromW)]
theorem tt_outp1_ok : TabPOk PR tt_outp1 := TabPOk.cons mfrom_ok (TabPOk.nil)
theorem outp1_ctx : Ctx PR (envOf eqsT tt_outp1) [] (fun _ => none) 40 91 :=
  ctx_of (envOf_ok eqsT_ok tt_outp1_ok) mixed (fn := Try.f91) (by kernel_rfl) (by kernel_rfl) (by kernel_rfl) (tabOk_none _)
theorem outp1_ok : CallOk PR 91 (fn1 aW.agg aW.agg outP1) :=
  .inl ⟨enters_of (fn := Try.f91) (by kernel_rfl) (by kernel_rfl) (by kernel_rfl), pure1 outp1_ctx (fun p => leafVal (B := aW.agg) (y := outP1 p) (out1_run fromW p))⟩

def tt_inp2 : PureTab := [(155, fn1 c12.agg c12.agg (to2 fW))]
theorem tt_inp2_ok : TabPOk PR tt_inp2 := TabPOk.cons to2_ok (TabPOk.nil)
theorem inp2_ctx : Ctx PR (envOf eqsT tt_inp2) [] (fun _ => none) 40 104 :=
  ctx_of (envOf_ok eqsT_ok tt_inp2_ok) mixed (fn := Try.f104) (by kernel_rfl) (by kernel_rfl) (by kernel_rfl) (tabOk_none _)
theorem inp2_ok : CallOk PR 104 (fn1 aD.agg aD.agg inP2) :=
  .inl ⟨enters_of (fn := Try.f104) (by kernel_rfl) (by kernel_rfl) (by kernel_rfl), pure1 inp2_ctx (fun p => leafVal (B := aD.agg) (y := inP2 p) (in2_run (to2 fW) p))⟩

def tt_outp2 : PureTab := [(159, fn1 c12.agg c12.agg (back2 fW))]
theorem tt_outp2_ok : TabPOk PR tt_outp2 := TabPOk.cons back2_ok (TabPOk.nil)
theorem outp2_ctx : Ctx PR (envOf eqsT tt_outp2) [] (fun _ => none) 40 106 :=
  ctx_of (envOf_ok eqsT_ok tt_outp2_ok) mixed (fn := Try.f106) (by kernel_rfl) (by kernel_rfl) (by kernel_rfl) (tabOk_none _)
theorem outp2_ok : CallOk PR 106 (fn1 aD.agg aD.agg outP2) :=
  .inl ⟨enters_of (fn := Try.f106) (by kernel_rfl) (by kernel_rfl) (by kernel_rfl), pure1 outp2_ctx (fun p => leafVal (B := aD.agg) (y := outP2 p) (out2_run (back2 fW) p))⟩

def belowP1 (p : Ap W6) : Bool := bif belowI p.x then belowI p.y else false

def tt_belowp1 : PureTab := [(130, fn1 c6.agg kBool belowI)]
theorem tt_belowp1_ok : TabPOk PR tt_belowp1 := TabPOk.cons below_ok (TabPOk.nil)
theorem belowp1_ctx : Ctx PR (envOf eqsT tt_belowp1) [6] (fun _ => none) 40 84 :=
  ctx_of (envOf_ok eqsT_ok tt_belowp1_ok) mixed (fn := Try.f84) (by kernel_rfl) (by kernel_rfl) (by kernel_rfl) (tabOk_none _)
theorem belowp1_ok : CallOk PR 84 (fn1 aW.agg kBool belowP1) :=
  .inl ⟨enters_of (fn := Try.f84) (by kernel_rfl) (by kernel_rfl) (by kernel_rfl), pure1 belowp1_ctx (fun p => givesOf (below1_run belowI p) (holds_br (B := kBool) (holds_leaf (kBool.h1 _)) (holds_leaf (a := .lit false) (v := kBool.val false) rfl)))⟩

def lowFW : Fl W6 → Jp W6 → Ap W6 := fun _ p => lowerE fW eqW p
theorem lowFW_ok : CallOk PR 137 (fn2 flW.agg jW.agg aW.agg lowFW) := loW_ok
def inGW (on : Fl W6 → Ap W6 → Bool) (ra : Fl W6 → Ap W6 → Jp W6) (od : W6) (tm : Fl W6 → Jp W6 → W6 → Jp W6) (lo : Fl W6 → Jp W6 → Ap W6) (f : Fl W6) (p : Ap W6) : Bool := bif on f p then (lo f (tm f (ra f p) od)).zero else false
theorem inGW_gives (on : Fl W6 → Ap W6 → Bool) (ra : Fl W6 → Ap W6 → Jp W6) (od : W6) (tm : Fl W6 → Jp W6 → W6 → Jp W6) (lo : Fl W6 → Jp W6 → Ap W6) (f : Fl W6) (p : Ap W6) {t : Tree AV}
    (h : t.strict = .br (on f p) (.leaf (kBool.enc (lo f (tm f (ra f p) od)).zero)) (.leaf (.lit false))) : Gives t (kBool.val (inGW on ra od tm lo f p)) :=
  givesOf h (holds_br (B := kBool) (holds_leaf (kBool.h1 _)) (holds_leaf (a := .lit false) (v := kBool.val false) rfl))
def inEW : Fl W6 → Ap W6 → Bool := inGW (onE fW eqW) (raiseJ fW) orderW timesW lowFW

def tt_isW : PureTab := [(86, fn2 flW.agg aW.agg kBool (onE fW eqW)), (139, fn2 flW.agg aW.agg jW.agg (raiseJ fW)), (64, fn0 c6.agg orderW), (138, fn3 flW.agg jW.agg c6.agg jW.agg timesW), (137, fn2 flW.agg jW.agg aW.agg lowFW)]
theorem tt_isW_ok : TabPOk PR tt_isW := TabPOk.cons onW_ok (TabPOk.cons raW_ok (TabPOk.cons order_ok (TabPOk.cons tm_okW (TabPOk.cons lowFW_ok (TabPOk.nil)))))
theorem isW_ctx : Ctx PR (envOf eqsT tt_isW) [8] (fun _ => none) 40 88 :=
  ctx_of (envOf_ok eqsT_ok tt_isW_ok) mixed (fn := Try.f88) (by kernel_rfl) (by kernel_rfl) (by kernel_rfl) (tabOk_none _)
theorem isW_ok : CallOk PR 88 (fn2 flW.agg aW.agg kBool inEW) :=
  .inl ⟨enters_of (fn := Try.f88) (by kernel_rfl) (by kernel_rfl) (by kernel_rfl), pure2 isW_ctx (fun f p => inGW_gives (onE fW eqW) (raiseJ fW) orderW timesW lowFW f p (isW_run (onE fW eqW) (raiseJ fW) orderW timesW lowFW f p))⟩

def checkP1 (p : Ap W6) : Bool := bif belowP1 p then onE fW eqW fld1 (inP1 p) else false
def inGroup1 (p : Ap W6) : Bool := bif belowP1 p then inEW fld1 (inP1 p) else false

def tt_checkp1 : PureTab := [(84, fn1 aW.agg kBool belowP1), (85, fn0 flW.agg fld1), (87, fn1 aW.agg aW.agg inP1), (86, fn2 flW.agg aW.agg kBool (onE fW eqW))]
theorem tt_checkp1_ok : TabPOk PR tt_checkp1 := TabPOk.cons belowp1_ok (TabPOk.cons first_ok (TabPOk.cons inp1_ok (TabPOk.cons onW_ok (TabPOk.nil))))
theorem checkp1_ctx : Ctx PR (envOf eqsT tt_checkp1) [5] (fun _ => none) 40 30 :=
  ctx_of (envOf_ok eqsT_ok tt_checkp1_ok) mixed (fn := Try.f30) (by kernel_rfl) (by kernel_rfl) (by kernel_rfl) (tabOk_none _)
theorem checkp1_ok : CallOk PR 30 (fn1 aW.agg kBool checkP1) :=
  .inl ⟨enters_of (fn := Try.f30) (by kernel_rfl) (by kernel_rfl) (by kernel_rfl), pure1 checkp1_ctx (fun p => givesOf (check1_run belowP1 fld1 inP1 (onE fW eqW) p) (holds_br (B := kBool) (holds_leaf (kBool.h1 _)) (holds_leaf (a := .lit false) (v := kBool.val false) rfl)))⟩

def tt_isinp1 : PureTab := [(84, fn1 aW.agg kBool belowP1), (85, fn0 flW.agg fld1), (87, fn1 aW.agg aW.agg inP1), (88, fn2 flW.agg aW.agg kBool inEW)]
theorem tt_isinp1_ok : TabPOk PR tt_isinp1 := TabPOk.cons belowp1_ok (TabPOk.cons first_ok (TabPOk.cons inp1_ok (TabPOk.cons isW_ok (TabPOk.nil))))
theorem isinp1_ctx : Ctx PR (envOf eqsT tt_isinp1) [5] (fun _ => none) 40 31 :=
  ctx_of (envOf_ok eqsT_ok tt_isinp1_ok) mixed (fn := Try.f31) (by kernel_rfl) (by kernel_rfl) (by kernel_rfl) (tabOk_none _)
theorem isinp1_ok : CallOk PR 31 (fn1 aW.agg kBool inGroup1) :=
  .inl ⟨enters_of (fn := Try.f31) (by kernel_rfl) (by kernel_rfl) (by kernel_rfl), pure1 isinp1_ctx (fun p => givesOf (isin1_run belowP1 fld1 inP1 inEW p) (holds_br (B := kBool) (holds_leaf (kBool.h1 _)) (holds_leaf (a := .lit false) (v := kBool.val false) rfl)))⟩

def lowFD : Fl D6 → Jp D6 → Ap D6 := fun _ p => lowerE fD eqD p
theorem lowFD_ok : CallOk PR 156 (fn2 flD.agg jD.agg aD.agg lowFD) := loD_ok
def inGD (on : Fl D6 → Ap D6 → Bool) (ra : Fl D6 → Ap D6 → Jp D6) (od : W6) (tm : Fl D6 → Jp D6 → W6 → Jp D6) (lo : Fl D6 → Jp D6 → Ap D6) (f : Fl D6) (p : Ap D6) : Bool := bif on f p then (lo f (tm f (ra f p) od)).zero else false
theorem inGD_gives (on : Fl D6 → Ap D6 → Bool) (ra : Fl D6 → Ap D6 → Jp D6) (od : W6) (tm : Fl D6 → Jp D6 → W6 → Jp D6) (lo : Fl D6 → Jp D6 → Ap D6) (f : Fl D6) (p : Ap D6) {t : Tree AV}
    (h : t.strict = .br (on f p) (.leaf (kBool.enc (lo f (tm f (ra f p) od)).zero)) (.leaf (.lit false))) : Gives t (kBool.val (inGD on ra od tm lo f p)) :=
  givesOf h (holds_br (B := kBool) (holds_leaf (kBool.h1 _)) (holds_leaf (a := .lit false) (v := kBool.val false) rfl))
def inED : Fl D6 → Ap D6 → Bool := inGD (onE fD eqD) (raiseJ fD) orderW timesD lowFD

def tt_isD : PureTab := [(103, fn2 flD.agg aD.agg kBool (onE fD eqD)), (158, fn2 flD.agg aD.agg jD.agg (raiseJ fD)), (64, fn0 c6.agg orderW), (157, fn3 flD.agg jD.agg c6.agg jD.agg timesD), (156, fn2 flD.agg jD.agg aD.agg lowFD)]
theorem tt_isD_ok : TabPOk PR tt_isD := TabPOk.cons onD_ok (TabPOk.cons raD_ok (TabPOk.cons order_ok (TabPOk.cons tm_okD (TabPOk.cons lowFD_ok (TabPOk.nil)))))
theorem isD_ctx : Ctx PR (envOf eqsT tt_isD) [8] (fun _ => none) 40 105 :=
  ctx_of (envOf_ok eqsT_ok tt_isD_ok) mixed (fn := Try.f105) (by kernel_rfl) (by kernel_rfl) (by kernel_rfl) (tabOk_none _)
theorem isD_ok : CallOk PR 105 (fn2 flD.agg aD.agg kBool inED) :=
  .inl ⟨enters_of (fn := Try.f105) (by kernel_rfl) (by kernel_rfl) (by kernel_rfl), pure2 isD_ctx (fun f p => inGD_gives (onE fD eqD) (raiseJ fD) orderW timesD lowFD f p (isD_run (onE fD eqD) (raiseJ fD) orderW timesD lowFD f p))⟩

end Go.Rq
