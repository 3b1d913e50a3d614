/- The curves' negations, and the second group's tests: contracts. Written by a program of ours. -/
import Derived.Test.YtdbcjiggimppdaaRqBk
namespace Go.Rq
open Go Go.Proofs

def kPW : Cod (Ap W6 × Int) := kTup aW.agg (kInt .i64) (fun _ => by kernel_rfl) (fun _ => rfl)
def kPD : Cod (Ap D6 × Int) := kTup aD.agg (kInt .i64) (fun _ => by kernel_rfl) (fun _ => rfl)
theorem noneFlatW : flat (.tup [.agg (c6.enc zeroW ++ (c6.enc zeroW ++ [.lit false])), .v (.int .i64 5)]) = some (kPW.val (⟨zeroW, zeroW, false⟩, 5)) := by kernel_rfl
theorem noneFlatD : flat (.tup [.agg (c12.enc zero2 ++ (c12.enc zero2 ++ [.lit false])), .v (.int .i64 5)]) = some (kPD.val (⟨zero2, zero2, false⟩, 5)) := by kernel_rfl
def belowP2 (p : Ap D6) : Bool := bif belowI p.x.a then (bif belowI p.x.b then (bif belowI p.y.a then belowI p.y.b else false) else false) else false
def checkP2 (p : Ap D6) : Bool := bif belowP2 p then onE fD eqD fld2 (inP2 p) else false
def inGroup2 (p : Ap D6) : Bool := bif belowP2 p then inED fld2 (inP2 p) else false

def tt_belowp2 : PureTab := [(130, fn1 c6.agg kBool belowI)]
theorem tt_belowp2_ok : TabPOk PR tt_belowp2 := TabPOk.cons below_ok (TabPOk.nil)
theorem belowp2_ctx : Ctx PR (envOf eqsT tt_belowp2) [7, 13, 19] (fun _ => none) 40 101 :=
  ctx_of (envOf_ok eqsT_ok tt_belowp2_ok) mixed (fn := Try.f101) (by kernel_rfl) (by kernel_rfl) (by kernel_rfl) (tabOk_none _)
theorem belowp2_ok : CallOk PR 101 (fn1 aD.agg kBool belowP2) :=
  .inl ⟨enters_of (fn := Try.f101) (by kernel_rfl) (by kernel_rfl) (by kernel_rfl), pure1 belowp2_ctx (fun p => givesOf (below2_run belowI p) (holds_br (B := kBool) (holds_br (B := kBool) (holds_br (B := kBool) (holds_leaf (kBool.h1 _)) (holds_leaf (a := .lit false) (v := kBool.val false) rfl)) (holds_leaf (a := .lit false) (v := kBool.val false) rfl)) (holds_leaf (a := .lit false) (v := kBool.val false) rfl)))⟩

def tt_checkp2 : PureTab := [(101, fn1 aD.agg kBool belowP2), (102, fn0 flD.agg fld2), (104, fn1 aD.agg aD.agg inP2), (103, fn2 flD.agg aD.agg kBool (onE fD eqD))]
theorem tt_checkp2_ok : TabPOk PR tt_checkp2 := TabPOk.cons belowp2_ok (TabPOk.cons second_ok (TabPOk.cons inp2_ok (TabPOk.cons onD_ok (TabPOk.nil))))
theorem checkp2_ctx : Ctx PR (envOf eqsT tt_checkp2) [5] (fun _ => none) 40 43 :=
  ctx_of (envOf_ok eqsT_ok tt_checkp2_ok) mixed (fn := Try.f43) (by kernel_rfl) (by kernel_rfl) (by kernel_rfl) (tabOk_none _)
theorem checkp2_ok : CallOk PR 43 (fn1 aD.agg kBool checkP2) :=
  .inl ⟨enters_of (fn := Try.f43) (by kernel_rfl) (by kernel_rfl) (by kernel_rfl), pure1 checkp2_ctx (fun p => givesOf (check2_run belowP2 fld2 inP2 (onE fD eqD) p) (holds_br (B := kBool) (holds_leaf (kBool.h1 _)) (holds_leaf (a := .lit false) (v := kBool.val false) rfl)))⟩

def tt_isinp2 : PureTab := [(101, fn1 aD.agg kBool belowP2), (102, fn0 flD.agg fld2), (104, fn1 aD.agg aD.agg inP2), (105, fn2 flD.agg aD.agg kBool inED)]
theorem tt_isinp2_ok : TabPOk PR tt_isinp2 := TabPOk.cons belowp2_ok (TabPOk.cons second_ok (TabPOk.cons inp2_ok (TabPOk.cons isD_ok (TabPOk.nil))))
theorem isinp2_ctx : Ctx PR (envOf eqsT tt_isinp2) [5] (fun _ => none) 40 44 :=
  ctx_of (envOf_ok eqsT_ok tt_isinp2_ok) mixed (fn := Try.f44) (by kernel_rfl) (by kernel_rfl) (by kernel_rfl) (tabOk_none _)
theorem isinp2_ok : CallOk PR 44 (fn1 aD.agg kBool inGroup2) :=
  .inl ⟨enters_of (fn := Try.f44) (by kernel_rfl) (by kernel_rfl) (by kernel_rfl), pure1 isinp2_ctx (fun p => givesOf (isin2_run belowP2 fld2 inP2 inED p) (holds_br (B := kBool) (holds_leaf (kBool.h1 _)) (holds_leaf (a := .lit false) (v := kBool.val false) rfl)))⟩

def negP1 (p : Ap W6) : Ap W6 × Int := bif !(checkP1 p) then (⟨zeroW, zeroW, false⟩, 5) else (outP1 (negE fW (inP1 p)), 0)

def negFW : Fl W6 → Ap W6 → Ap W6 := fun _ p => negE fW p
theorem negFW_ok : CallOk PR 92 (fn2 flW.agg aW.agg aW.agg negFW) := neW_ok

def tt_negp1 : PureTab := [(30, fn1 aW.agg kBool checkP1), (85, fn0 flW.agg fld1), (87, fn1 aW.agg aW.agg inP1), (91, fn1 aW.agg aW.agg outP1), (92, fn2 flW.agg aW.agg aW.agg negFW)]
theorem tt_negp1_ok : TabPOk PR tt_negp1 := TabPOk.cons checkp1_ok (TabPOk.cons first_ok (TabPOk.cons inp1_ok (TabPOk.cons outp1_ok (TabPOk.cons negFW_ok (TabPOk.nil)))))
theorem negp1_ctx : Ctx PR (envOf eqsT tt_negp1) [6] (fun _ => none) 40 35 :=
  ctx_of (envOf_ok eqsT_ok tt_negp1_ok) mixed (fn := Try.f35) (by kernel_rfl) (by kernel_rfl) (by kernel_rfl) (tabOk_none _)
theorem negp1_ok : CallOk PR 35 (fn1 aW.agg kPW negP1) :=
  .inl ⟨enters_of (fn := Try.f35) (by kernel_rfl) (by kernel_rfl) (by kernel_rfl), pure1 negp1_ctx (fun p => givesOf (neg1_run checkP1 fld1 inP1 outP1 negFW p) (holds_br (B := kPW) (holds_leaf noneFlatW) (holds_leaf (kPW.h1 (outP1 (negE fW (inP1 p)), 0)))))⟩

def negP2 (p : Ap D6) : Ap D6 × Int := bif !(checkP2 p) then (⟨zero2, zero2, false⟩, 5) else (outP2 (negE fD (inP2 p)), 0)

def negFD : Fl D6 → Ap D6 → Ap D6 := fun _ p => negE fD p
theorem negFD_ok : CallOk PR 107 (fn2 flD.agg aD.agg aD.agg negFD) := neD_ok

def tt_negp2 : PureTab := [(43, fn1 aD.agg kBool checkP2), (102, fn0 flD.agg fld2), (104, fn1 aD.agg aD.agg inP2), (106, fn1 aD.agg aD.agg outP2), (107, fn2 flD.agg aD.agg aD.agg negFD)]
theorem tt_negp2_ok : TabPOk PR tt_negp2 := TabPOk.cons checkp2_ok (TabPOk.cons second_ok (TabPOk.cons inp2_ok (TabPOk.cons outp2_ok (TabPOk.cons negFD_ok (TabPOk.nil)))))
theorem negp2_ctx : Ctx PR (envOf eqsT tt_negp2) [6] (fun _ => none) 40 48 :=
  ctx_of (envOf_ok eqsT_ok tt_negp2_ok) mixed (fn := Try.f48) (by kernel_rfl) (by kernel_rfl) (by kernel_rfl) (tabOk_none _)
theorem negp2_ok : CallOk PR 48 (fn1 aD.agg kPD negP2) :=
  .inl ⟨enters_of (fn := Try.f48) (by kernel_rfl) (by kernel_rfl) (by kernel_rfl), pure1 negp2_ctx (fun p => givesOf (neg2_run checkP2 fld2 inP2 outP2 negFD p) (holds_br (B := kPD) (holds_leaf noneFlatD) (holds_leaf (kPD.h1 (outP2 (negE fD (inP2 p)), 0)))))⟩

end Go.Rq
