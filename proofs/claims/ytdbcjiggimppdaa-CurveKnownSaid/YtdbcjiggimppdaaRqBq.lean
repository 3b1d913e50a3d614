/- Sums of one and of two points: contracts. Written by a program of ours. -/
import Derived.Test.YtdbcjiggimppdaaRqBp
namespace Go.Rq
open Go Go.Proofs


def gaOW : GO W6 := ⟨onE fW eqW, raiseJ fW, timesW, sumE fW eqW, lowFW⟩
theorem gaT_okW : TabPOk PR (gaTW gaOW) := TabPOk.cons onW_ok (TabPOk.cons raW_ok (TabPOk.cons tm_okW (TabPOk.cons suW_ok (TabPOk.cons lowFW_ok TabPOk.nil))))
theorem gaE_okW : EnvOk PR (gaEW gaOW) := envH_ok eqsT_ok gaT_okW TabHOk.nil
def gath1W : Fl W6 → Ap W6 → W6 → Ap W6 × Int := ga1 gaOW zeroW
def gath2W : Fl W6 → Ap W6 × Ap W6 → W6 × W6 → Ap W6 × Int := ga2 gaOW zeroW
theorem ga_entW : Enters PR 112 := enters_of (fn := Try.f112) (by kernel_rfl) (by kernel_rfl) (by kernel_rfl)
theorem ga1_okW : HeapOk PR 112 (sl3 (.own 13 1) (.slc 1) 126 47 flW.agg aW c6 kPW gath1W) :=
  sl3_ok gaE_okW mixed (sym := [27]) (lf := 10) (fn := Try.f112) (c := bodyOf PR 112) (by kernel_rfl) (by kernel_rfl) (by kernel_rfl) (tabOk_none _)
    (fun f p n => givesH (ga1_runW gaOW f p n) (holds_br (B := kPW) (holds_leaf (kPW.h1 _)) (holds_leaf noneFlatW)))
theorem ga2_okW : HeapOk PR 112 (sl3 (.own 13 2) (.slc 2) 126 47 flW.agg (CC.prod aW aW) (CC.prod c6 c6) kPW gath2W) :=
  sl3_ok gaE_okW mixed (sym := [27]) (lf := 10) (fn := Try.f112) (c := bodyOf PR 112) (by kernel_rfl) (by kernel_rfl) (by kernel_rfl) (tabOk_none _)
    (fun f p n => givesH (ga2_runW gaOW f p.1 p.2 n.1 n.2) (holds_br (B := kPW) (holds_br (B := kPW) (holds_leaf (kPW.h1 _)) (holds_leaf noneFlatW)) (holds_leaf noneFlatW)))

def suOW : SO W6 := ⟨belowP1, fld1, inP1, outP1⟩
theorem suT_okW : TabPOk PR (suTW suOW) := TabPOk.cons belowp1_ok (TabPOk.cons inp1_ok (TabPOk.cons first_ok (TabPOk.cons outp1_ok TabPOk.nil)))
def sumP1W : Ap W6 → W6 → Ap W6 × Int := sm1 zeroW suOW gath1W
def sumP2W : Ap W6 × Ap W6 → W6 × W6 → Ap W6 × Int := sm2 zeroW suOW gath2W
theorem su_entW : Enters PR 56 := enters_of (fn := Try.f56) (by kernel_rfl) (by kernel_rfl) (by kernel_rfl)
theorem su1_okW : HeapOk PR 56 (sl2 (.slc 1) (.slc 1) 49 47 aW c6 kPW sumP1W) :=
  sl2_ok (E := suE1W suOW gath1W) (envH_ok eqsT_ok suT_okW (TabHOk.cons ga_entW ga1_okW TabHOk.nil)) mixed (sym := [24]) (lf := 10) (fn := Try.f56) (c := bodyOf PR 56) (by kernel_rfl) (by kernel_rfl) (by kernel_rfl) (tabOk_none _)
    (fun p n => givesH (su1_runW suOW gath1W p n) (holds_br (B := kPW) (holds_leaf (kPW.h1 _)) (holds_leaf noneFlatW)))
theorem su2_okW : HeapOk PR 56 (sl2 (.slc 2) (.slc 2) 49 47 (CC.prod aW aW) (CC.prod c6 c6) kPW sumP2W) :=
  sl2_ok (E := suE2W suOW gath2W) (envH_ok eqsT_ok suT_okW (TabHOk.cons ga_entW ga2_okW TabHOk.nil)) mixed (sym := [24]) (lf := 10) (fn := Try.f56) (c := bodyOf PR 56) (by kernel_rfl) (by kernel_rfl) (by kernel_rfl) (tabOk_none _)
    (fun p n => givesH (su2_runW suOW gath2W p.1 p.2 n.1 n.2) (holds_br (B := kPW) (holds_br (B := kPW) (holds_leaf (kPW.h1 _)) (holds_leaf noneFlatW)) (holds_leaf noneFlatW)))

def addP1 (p q : Ap W6) : Ap W6 × Int := sumP2W (p, q) (ofW (bitW true), ofW (bitW true))
theorem adE_okW : EnvOk PR (adEW sumP2W ofW) := envH_ok eqsT_ok (TabPOk.cons of_ok TabPOk.nil) (TabHOk.cons su_entW su2_okW TabHOk.nil)
theorem ad_ctxW : Ctx PR (adEW sumP2W ofW) [] (fun _ => none) 10 36 :=
  ctx_of adE_okW mixed (fn := Try.f36) (by kernel_rfl) (by kernel_rfl) (by kernel_rfl) (tabOk_none _)
theorem addp1_ok : CallOk PR 36 (fn2 aW.agg aW.agg kPW addP1) :=
  .inl ⟨enters_of (fn := Try.f36) (by kernel_rfl) (by kernel_rfl) (by kernel_rfl), pure2 ad_ctxW (fun p q => leafVal (B := kPW) (y := addP1 p q) (ad_runW sumP2W ofW p q))⟩
theorem muE_okW : EnvOk PR (muEW sumP1W) := envH_ok eqsT_ok TabPOk.nil (TabHOk.cons su_entW su1_okW TabHOk.nil)
theorem mu_ctxW : Ctx PR (muEW sumP1W) [] (fun _ => none) 10 37 :=
  ctx_of muE_okW mixed (fn := Try.f37) (by kernel_rfl) (by kernel_rfl) (by kernel_rfl) (tabOk_none _)
theorem mulp1_ok : CallOk PR 37 (fn2 aW.agg c6.agg kPW sumP1W) :=
  .inl ⟨enters_of (fn := Try.f37) (by kernel_rfl) (by kernel_rfl) (by kernel_rfl), pure2 mu_ctxW (fun p n => leafVal (B := kPW) (y := sumP1W p n) (mu_runW sumP1W p n))⟩


def gaOD : GO D6 := ⟨onE fD eqD, raiseJ fD, timesD, sumE fD eqD, lowFD⟩
theorem gaT_okD : TabPOk PR (gaTD gaOD) := TabPOk.cons onD_ok (TabPOk.cons raD_ok (TabPOk.cons tm_okD (TabPOk.cons suD_ok (TabPOk.cons lowFD_ok TabPOk.nil))))
theorem gaE_okD : EnvOk PR (gaED gaOD) := envH_ok eqsT_ok gaT_okD TabHOk.nil
def gath1D : Fl D6 → Ap D6 → W6 → Ap D6 × Int := ga1 gaOD zero2
def gath2D : Fl D6 → Ap D6 × Ap D6 → W6 × W6 → Ap D6 × Int := ga2 gaOD zero2
theorem ga_entD : Enters PR 113 := enters_of (fn := Try.f113) (by kernel_rfl) (by kernel_rfl) (by kernel_rfl)
theorem ga1_okD : HeapOk PR 113 (sl3 (.own 25 1) (.slc 1) 145 47 flD.agg aD c6 kPD gath1D) :=
  sl3_ok gaE_okD mixed (sym := [27]) (lf := 10) (fn := Try.f113) (c := bodyOf PR 113) (by kernel_rfl) (by kernel_rfl) (by kernel_rfl) (tabOk_none _)
    (fun f p n => givesH (ga1_runD gaOD f p n) (holds_br (B := kPD) (holds_leaf (kPD.h1 _)) (holds_leaf noneFlatD)))
theorem ga2_okD : HeapOk PR 113 (sl3 (.own 25 2) (.slc 2) 145 47 flD.agg (CC.prod aD aD) (CC.prod c6 c6) kPD gath2D) :=
  sl3_ok gaE_okD mixed (sym := [27]) (lf := 10) (fn := Try.f113) (c := bodyOf PR 113) (by kernel_rfl) (by kernel_rfl) (by kernel_rfl) (tabOk_none _)
    (fun f p n => givesH (ga2_runD gaOD f p.1 p.2 n.1 n.2) (holds_br (B := kPD) (holds_br (B := kPD) (holds_leaf (kPD.h1 _)) (holds_leaf noneFlatD)) (holds_leaf noneFlatD)))

def suOD : SO D6 := ⟨belowP2, fld2, inP2, outP2⟩
theorem suT_okD : TabPOk PR (suTD suOD) := TabPOk.cons belowp2_ok (TabPOk.cons inp2_ok (TabPOk.cons second_ok (TabPOk.cons outp2_ok TabPOk.nil)))
def sumP1D : Ap D6 → W6 → Ap D6 × Int := sm1 zero2 suOD gath1D
def sumP2D : Ap D6 × Ap D6 → W6 × W6 → Ap D6 × Int := sm2 zero2 suOD gath2D
theorem su_entD : Enters PR 57 := enters_of (fn := Try.f57) (by kernel_rfl) (by kernel_rfl) (by kernel_rfl)
theorem su1_okD : HeapOk PR 57 (sl2 (.slc 1) (.slc 1) 64 47 aD c6 kPD sumP1D) :=
  sl2_ok (E := suE1D suOD gath1D) (envH_ok eqsT_ok suT_okD (TabHOk.cons ga_entD ga1_okD TabHOk.nil)) mixed (sym := [24]) (lf := 10) (fn := Try.f57) (c := bodyOf PR 57) (by kernel_rfl) (by kernel_rfl) (by kernel_rfl) (tabOk_none _)
    (fun p n => givesH (su1_runD suOD gath1D p n) (holds_br (B := kPD) (holds_leaf (kPD.h1 _)) (holds_leaf noneFlatD)))
theorem su2_okD : HeapOk PR 57 (sl2 (.slc 2) (.slc 2) 64 47 (CC.prod aD aD) (CC.prod c6 c6) kPD sumP2D) :=
  sl2_ok (E := suE2D suOD gath2D) (envH_ok eqsT_ok suT_okD (TabHOk.cons ga_entD ga2_okD TabHOk.nil)) mixed (sym := [24]) (lf := 10) (fn := Try.f57) (c := bodyOf PR 57) (by kernel_rfl) (by kernel_rfl) (by kernel_rfl) (tabOk_none _)
    (fun p n => givesH (su2_runD suOD gath2D p.1 p.2 n.1 n.2) (holds_br (B := kPD) (holds_br (B := kPD) (holds_leaf (kPD.h1 _)) (holds_leaf noneFlatD)) (holds_leaf noneFlatD)))

def addP2 (p q : Ap D6) : Ap D6 × Int := sumP2D (p, q) (ofW (bitW true), ofW (bitW true))
theorem adE_okD : EnvOk PR (adED sumP2D ofW) := envH_ok eqsT_ok (TabPOk.cons of_ok TabPOk.nil) (TabHOk.cons su_entD su2_okD TabHOk.nil)
theorem ad_ctxD : Ctx PR (adED sumP2D ofW) [] (fun _ => none) 10 49 :=
  ctx_of adE_okD mixed (fn := Try.f49) (by kernel_rfl) (by kernel_rfl) (by kernel_rfl) (tabOk_none _)
theorem addp2_ok : CallOk PR 49 (fn2 aD.agg aD.agg kPD addP2) :=
  .inl ⟨enters_of (fn := Try.f49) (by kernel_rfl) (by kernel_rfl) (by kernel_rfl), pure2 ad_ctxD (fun p q => leafVal (B := kPD) (y := addP2 p q) (ad_runD sumP2D ofW p q))⟩
theorem muE_okD : EnvOk PR (muED sumP1D) := envH_ok eqsT_ok TabPOk.nil (TabHOk.cons su_entD su1_okD TabHOk.nil)
theorem mu_ctxD : Ctx PR (muED sumP1D) [] (fun _ => none) 10 50 :=
  ctx_of muE_okD mixed (fn := Try.f50) (by kernel_rfl) (by kernel_rfl) (by kernel_rfl) (tabOk_none _)
theorem mulp2_ok : CallOk PR 50 (fn2 aD.agg c6.agg kPD sumP1D) :=
  .inl ⟨enters_of (fn := Try.f50) (by kernel_rfl) (by kernel_rfl) (by kernel_rfl), pure2 mu_ctxD (fun p n => leafVal (B := kPD) (y := sumP1D p n) (mu_runD sumP1D p n))⟩

end Go.Rq
