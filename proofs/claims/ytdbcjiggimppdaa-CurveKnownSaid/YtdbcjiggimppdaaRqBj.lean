/- The curves' functions on told points: contracts. Written by a program of ours. -/
import Derived.Test.YtdbcjiggimppdaaRqBi
namespace Go.Rq
open Go Go.Proofs

def belowI (a : W6) : Bool := decide (chainV (cmpL a primeW) 0 < 0)
def fld1 : Fl W6 := ⟨oneW, toW (ofW 4#64)⟩
def fld2 : Fl D6 := ⟨one2, ⟨toW (ofW 4#64), toW (ofW 4#64)⟩⟩
def inP1 (p : Ap W6) : Ap W6 := ⟨toW p.x, toW p.y, p.zero⟩
def outP1 (p : Ap W6) : Ap W6 := ⟨fromW p.x, fromW p.y, p.zero⟩
def inP2 (p : Ap D6) : Ap D6 := ⟨to2 fW p.x, to2 fW p.y, p.zero⟩
def outP2 (p : Ap D6) : Ap D6 := ⟨back2 fW p.x, back2 fW p.y, p.zero⟩

def tt_below : PureTab := [(117, fn2 c6.agg c6.agg (kInt .i64) fun a b => chainV (cmpL a b) 0), (168, fn0 c6.agg primeW)]
theorem tt_below_ok : TabPOk PR tt_below := TabPOk.cons cmp_ok (TabPOk.cons base_ok (TabPOk.nil))
theorem below_ctx : Ctx PR (envOf eqsT tt_below) [] (fun _ => none) 40 130 :=
  ctx_of (envOf_ok eqsT_ok tt_below_ok) mixed (fn := Try.f130) (by kernel_rfl) (by kernel_rfl) (by kernel_rfl) (tabOk_none _)
theorem below_ok : CallOk PR 130 (fn1 c6.agg kBool belowI) :=
  .inl ⟨enters_of (fn := Try.f130) (by kernel_rfl) (by kernel_rfl) (by kernel_rfl), pure1 below_ctx (fun a => leafVal (B := kBool) (y := belowI a) (below_run (fun a b => chainV (cmpL a b) 0) primeW a))⟩

def tt_first : PureTab := [(135, fn0 c6.agg oneW), (136, fn1 c6.agg c6.agg toW), (63, fn1 kU c6.agg ofW)]
theorem tt_first_ok : TabPOk PR tt_first := TabPOk.cons one_ok (TabPOk.cons mto_ok (TabPOk.cons of_ok (TabPOk.nil)))
theorem first_ctx : Ctx PR (envOf eqsT tt_first) [] (fun _ => none) 40 85 :=
  ctx_of (envOf_ok eqsT_ok tt_first_ok) mixed (fn := Try.f85) (by kernel_rfl) (by kernel_rfl) (by kernel_rfl) (tabOk_none _)
theorem first_ok : CallOk PR 85 (fn0 flW.agg fld1) :=
  .inl ⟨enters_of (fn := Try.f85) (by kernel_rfl) (by kernel_rfl) (by kernel_rfl), pure0 first_ctx (leafVal (B := flW.agg) (y := fld1) (first_run toW oneW ofW))⟩

def tt_second : PureTab := [(154, fn0 c12.agg one2), (136, fn1 c6.agg c6.agg toW), (63, fn1 kU c6.agg ofW)]
theorem tt_second_ok : TabPOk PR tt_second := TabPOk.cons one2_ok (TabPOk.cons mto_ok (TabPOk.cons of_ok (TabPOk.nil)))
theorem second_ctx : Ctx PR (envOf eqsT tt_second) [] (fun _ => none) 40 102 :=
  ctx_of (envOf_ok eqsT_ok tt_second_ok) mixed (fn := Try.f102) (by kernel_rfl) (by kernel_rfl) (by kernel_rfl) (tabOk_none _)
theorem second_ok : CallOk PR 102 (fn0 flD.agg fld2) :=
  .inl ⟨enters_of (fn := Try.f102) (by kernel_rfl) (by kernel_rfl) (by kernel_rfl), pure0 second_ctx (leafVal (B := flD.agg) (y := fld2) (second_run toW one2 ofW))⟩

def tt_inp1 : PureTab := [(136, fn1 c6.agg c6.agg toW)]
theorem tt_inp1_ok : TabPOk PR tt_inp1 := TabPOk.cons mto_ok (TabPOk.nil)
theorem inp1_ctx : Ctx PR (envOf eqsT tt_inp1) [] (fun _ => none) 40 87 :=
  ctx_of (envOf_ok eqsT_ok tt_inp1_ok) mixed (fn := Try.f87) (by kernel_rfl) (by kernel_rfl) (by kernel_rfl) (tabOk_none _)
theorem inp1_ok : CallOk PR 87 (fn1 aW.agg aW.agg inP1) :=
  .inl ⟨enters_of (fn := Try.f87) (by kernel_rfl) (by kernel_rfl) (by kernel_rfl), pure1 inp1_ctx (fun p => leafVal (B := aW.agg) (y := inP1 p) (in1_run toW p))⟩

def tt_outp1 : PureTab := [(141, fn1 c6.agg c6.agg fromW)]
theorem tt_outp1_ok : TabPOk PR tt_outp1 := TabPOk.cons mfrom_ok (TabPOk.nil)
theorem outp1_ctx : Ctx PR (envOf eqsT tt_outp1) [] (fun _ => none) 40 91 :=
  ctx_of (envOf_ok eqsT_ok tt_outp1_ok) mixed (fn := Try.f91) (by kernel_rfl) (by kernel_rfl) (by kernel_rfl) (tabOk_none _)
theorem outp1_ok : CallOk PR 91 (fn1 aW.agg aW.agg outP1) :=
  .inl ⟨enters_of (fn := Try.f91) (by kernel_rfl) (by kernel_rfl) (by kernel_rfl), pure1 outp1_ctx (fun p => leafVal (B := aW.agg) (y := outP1 p) (out1_run fromW p))⟩

def tt_inp2 : PureTab := [(155, fn1 c12.agg c12.agg (to2 fW))]
theorem tt_inp2_ok : TabPOk PR tt_inp2 := TabPOk.cons to2_ok (TabPOk.nil)
theorem inp2_ctx : Ctx PR (envOf eqsT tt_inp2) [] (fun _ => none) 40 104 :=
  ctx_of (envOf_ok eqsT_ok tt_inp2_ok) mixed (fn := Try.f104) (by kernel_rfl) (by kernel_rfl) (by kernel_rfl) (tabOk_none _)
theorem inp2_ok : CallOk PR 104 (fn1 aD.agg aD.agg inP2) :=
  .inl ⟨enters_of (fn := Try.f104) (by kernel_rfl) (by kernel_rfl) (by kernel_rfl), pure1 inp2_ctx (fun p => leafVal (B := aD.agg) (y := inP2 p) (in2_run (to2 fW) p))⟩

def tt_outp2 : PureTab := [(159, fn1 c12.agg c12.agg (back2 fW))]
theorem tt_outp2_ok : TabPOk PR tt_outp2 := TabPOk.cons back2_ok (TabPOk.nil)
theorem outp2_ctx : Ctx PR (envOf eqsT tt_outp2) [] (fun _ => none) 40 106 :=
  ctx_of (envOf_ok eqsT_ok tt_outp2_ok) mixed (fn := Try.f106) (by kernel_rfl) (by kernel_rfl) (by kernel_rfl) (tabOk_none _)
theorem outp2_ok : CallOk PR 106 (fn1 aD.agg aD.agg outP2) :=
  .inl ⟨enters_of (fn := Try.f106) (by kernel_rfl) (by kernel_rfl) (by kernel_rfl), pure1 outp2_ctx (fun p => leafVal (B := aD.agg) (y := outP2 p) (out2_run (back2 fW) p))⟩

def belowP1 (p : Ap W6) : Bool := bif belowI p.x then belowI p.y else false

def tt_belowp1 : PureTab := [(130, fn1 c6.agg kBool belowI)]
theorem tt_belowp1_ok : TabPOk PR tt_belowp1 := TabPOk.cons below_ok (TabPOk.nil)
theorem belowp1_ctx : Ctx PR (envOf eqsT tt_belowp1) [6] (fun _ => none) 40 84 :=
  ctx_of (envOf_ok eqsT_ok tt_belowp1_ok) mixed (fn := Try.f84) (by kernel_rfl) (by kernel_rfl) (by kernel_rfl) (tabOk_none _)
theorem belowp1_ok : CallOk PR 84 (fn1 aW.agg kBool belowP1) :=
  .inl ⟨enters_of (fn := Try.f84) (by kernel_rfl) (by kernel_rfl) (by kernel_rfl), pure1 belowp1_ctx (fun p => givesOf (below1_run belowI p) (holds_br (B := kBool) (holds_leaf (kBool.h1 _)) (holds_leaf (a := .lit false) (v := kBool.val false) rfl)))⟩

def lowFW : Fl W6 → Jp W6 → Ap W6 := fun _ p => lowerE fW eqW p
theorem lowFW_ok : CallOk PR 137 (fn2 flW.agg jW.agg aW.agg lowFW) := loW_ok
def inGW (on : Fl W6 → Ap W6 → Bool) (ra : Fl W6 → Ap W6 → Jp W6) (od : W6) (tm : Fl W6 → Jp W6 → W6 → Jp W6) (lo : Fl W6 → Jp W6 → Ap W6) (f : Fl W6) (p : Ap W6) : Bool := bif on f p then (lo f (tm f (ra f p) od)).zero else false
theorem inGW_gives (on : Fl W6 → Ap W6 → Bool) (ra : Fl W6 → Ap W6 → Jp W6) (od : W6) (tm : Fl W6 → Jp W6 → W6 → Jp W6) (lo : Fl W6 → Jp W6 → Ap W6) (f : Fl W6) (p : Ap W6) {t : Tree AV}
    (h : t.strict = .br (on f p) (.leaf (kBool.enc (lo f (tm f (ra f p) od)).zero)) (.leaf (.lit false))) : Gives t (kBool.val (inGW on ra od tm lo f p)) :=
  givesOf h (holds_br (B := kBool) (holds_leaf (kBool.h1 _)) (holds_leaf (a := .lit false) (v := kBool.val false) rfl))
def inEW : Fl W6 → Ap W6 → Bool := inGW (onE fW eqW) (raiseJ fW) orderW timesW lowFW

def tt_isW : PureTab := [(86, fn2 flW.agg aW.agg kBool (onE fW eqW)), (139, fn2 flW.agg aW.agg jW.agg (raiseJ fW)), (64, fn0 c6.agg orderW), (138, fn3 flW.agg jW.agg c6.agg jW.agg timesW), (137, fn2 flW.agg jW.agg aW.agg lowFW)]
theorem tt_isW_ok : TabPOk PR tt_isW := TabPOk.cons onW_ok (TabPOk.cons raW_ok (TabPOk.cons order_ok (TabPOk.cons tm_okW (TabPOk.cons lowFW_ok (TabPOk.nil)))))
theorem isW_ctx : Ctx PR (envOf eqsT tt_isW) [8] (fun _ => none) 40 88 :=
  ctx_of (envOf_ok eqsT_ok tt_isW_ok) mixed (fn := Try.f88) (by kernel_rfl) (by kernel_rfl) (by kernel_rfl) (tabOk_none _)
theorem isW_ok : CallOk PR 88 (fn2 flW.agg aW.agg kBool inEW) :=
  .inl ⟨enters_of (fn := Try.f88) (by kernel_rfl) (by kernel_rfl) (by kernel_rfl), pure2 isW_ctx (fun f p => inGW_gives (onE fW eqW) (raiseJ fW) orderW timesW lowFW f p (isW_run (onE fW eqW) (raiseJ fW) orderW timesW lowFW f p))⟩

def checkP1 (p : Ap W6) : Bool := bif belowP1 p then onE fW eqW fld1 (inP1 p) else false
def inGroup1 (p : Ap W6) : Bool := bif belowP1 p then inEW fld1 (inP1 p) else false

def tt_checkp1 : PureTab := [(84, fn1 aW.agg kBool belowP1), (85, fn0 flW.agg fld1), (87, fn1 aW.agg aW.agg inP1), (86, fn2 flW.agg aW.agg kBool (onE fW eqW))]
theorem tt_checkp1_ok : TabPOk PR tt_checkp1 := TabPOk.cons belowp1_ok (TabPOk.cons first_ok (TabPOk.cons inp1_ok (TabPOk.cons onW_ok (TabPOk.nil))))
theorem checkp1_ctx : Ctx PR (envOf eqsT tt_checkp1) [5] (fun _ => none) 40 30 :=
  ctx_of (envOf_ok eqsT_ok tt_checkp1_ok) mixed (fn := Try.f30) (by kernel_rfl) (by kernel_rfl) (by kernel_rfl) (tabOk_none _)
theorem checkp1_ok : CallOk PR 30 (fn1 aW.agg kBool checkP1) :=
  .inl ⟨enters_of (fn := Try.f30) (by kernel_rfl) (by kernel_rfl) (by kernel_rfl), pure1 checkp1_ctx (fun p => givesOf (check1_run belowP1 fld1 inP1 (onE fW eqW) p) (holds_br (B := kBool) (holds_leaf (kBool.h1 _)) (holds_leaf (a := .lit false) (v := kBool.val false) rfl)))⟩

def tt_isinp1 : PureTab := [(84, fn1 aW.agg kBool belowP1), (85, fn0 flW.agg fld1), (87, fn1 aW.agg aW.agg inP1), (88, fn2 flW.agg aW.agg kBool inEW)]
theorem tt_isinp1_ok : TabPOk PR tt_isinp1 := TabPOk.cons belowp1_ok (TabPOk.cons first_ok (TabPOk.cons inp1_ok (TabPOk.cons isW_ok (TabPOk.nil))))
theorem isinp1_ctx : Ctx PR (envOf eqsT tt_isinp1) [5] (fun _ => none) 40 31 :=
  ctx_of (envOf_ok eqsT_ok tt_isinp1_ok) mixed (fn := Try.f31) (by kernel_rfl) (by kernel_rfl) (by kernel_rfl) (tabOk_none _)
theorem isinp1_ok : CallOk PR 31 (fn1 aW.agg kBool inGroup1) :=
  .inl ⟨enters_of (fn := Try.f31) (by kernel_rfl) (by kernel_rfl) (by kernel_rfl), pure1 isinp1_ctx (fun p => givesOf (isin1_run belowP1 fld1 inP1 inEW p) (holds_br (B := kBool) (holds_leaf (kBool.h1 _)) (holds_leaf (a := .lit false) (v := kBool.val false) rfl)))⟩

def lowFD : Fl D6 → Jp D6 → Ap D6 := fun _ p => lowerE fD eqD p
theorem lowFD_ok : CallOk PR 156 (fn2 flD.agg jD.agg aD.agg lowFD) := loD_ok
def inGD (on : Fl D6 → Ap D6 → Bool) (ra : Fl D6 → Ap D6 → Jp D6) (od : W6) (tm : Fl D6 → Jp D6 → W6 → Jp D6) (lo : Fl D6 → Jp D6 → Ap D6) (f : Fl D6) (p : Ap D6) : Bool := bif on f p then (lo f (tm f (ra f p) od)).zero else false
theorem inGD_gives (on : Fl D6 → Ap D6 → Bool) (ra : Fl D6 → Ap D6 → Jp D6) (od : W6) (tm : Fl D6 → Jp D6 → W6 → Jp D6) (lo : Fl D6 → Jp D6 → Ap D6) (f : Fl D6) (p : Ap D6) {t : Tree AV}
    (h : t.strict = .br (on f p) (.leaf (kBool.enc (lo f (tm f (ra f p) od)).zero)) (.leaf (.lit false))) : Gives t (kBool.val (inGD on ra od tm lo f p)) :=
  givesOf h (holds_br (B := kBool) (holds_leaf (kBool.h1 _)) (holds_leaf (a := .lit false) (v := kBool.val false) rfl))
def inED : Fl D6 → Ap D6 → Bool := inGD (onE fD eqD) (raiseJ fD) orderW timesD lowFD

def tt_isD : PureTab := [(103, fn2 flD.agg aD.agg kBool (onE fD eqD)), (158, fn2 flD.agg aD.agg jD.agg (raiseJ fD)), (64, fn0 c6.agg orderW), (157, fn3 flD.agg jD.agg c6.agg jD.agg timesD), (156, fn2 flD.agg jD.agg aD.agg lowFD)]
theorem tt_isD_ok : TabPOk PR tt_isD := TabPOk.cons onD_ok (TabPOk.cons raD_ok (TabPOk.cons order_ok (TabPOk.cons tm_okD (TabPOk.cons lowFD_ok (TabPOk.nil)))))
theorem isD_ctx : Ctx PR (envOf eqsT tt_isD) [8] (fun _ => none) 40 105 :=
  ctx_of (envOf_ok eqsT_ok tt_isD_ok) mixed (fn := Try.f105) (by kernel_rfl) (by kernel_rfl) (by kernel_rfl) (tabOk_none _)
theorem isD_ok : CallOk PR 105 (fn2 flD.agg aD.agg kBool inED) :=
  .inl ⟨enters_of (fn := Try.f105) (by kernel_rfl) (by kernel_rfl) (by kernel_rfl), pure2 isD_ctx (fun f p => inGD_gives (onE fD eqD) (raiseJ fD) orderW timesD lowFD f p (isD_run (onE fD eqD) (raiseJ fD) orderW timesD lowFD f p))⟩

end Go.Rq
