/- The curves' functions on told points: kernel checks, the called functions left open. Written by a program of ours. -/
import Derived.Test.YtdbcjiggimppdaaRqBh
namespace Go.Rq
open Go Go.Proofs

set_option maxRecDepth 100000 in
theorem below_run (C : W6 → W6 → Int) (b : W6) (a : W6) : (afunR PR (envOf eqsT [(117, fn2 c6.agg c6.agg (kInt .i64) C), (168, fn0 c6.agg b)]) [] (fun _ => none) 40 130 [c6.agg.enc a]).strict =
    .leaf (kBool.enc (decide (C a b < 0))) := by kernel_rfl
set_option maxRecDepth 100000 in
theorem first_run (to : W6 → W6) (one : W6) (of : BitVec 64 → W6) : (afunR PR (envOf eqsT [(135, fn0 c6.agg one), (136, fn1 c6.agg c6.agg to), (63, fn1 kU c6.agg of)]) [] (fun _ => none) 40 85 []).strict =
    .leaf (flW.agg.enc ⟨one, to (of 4#64)⟩) := by kernel_rfl
set_option maxRecDepth 100000 in
theorem second_run (to : W6 → W6) (one : D6) (of : BitVec 64 → W6) : (afunR PR (envOf eqsT [(154, fn0 c12.agg one), (136, fn1 c6.agg c6.agg to), (63, fn1 kU c6.agg of)]) [] (fun _ => none) 40 102 []).strict =
    .leaf (flD.agg.enc ⟨one, ⟨to (of 4#64), to (of 4#64)⟩⟩) := by kernel_rfl
set_option maxRecDepth 100000 in
theorem in1_run (to : W6 → W6) (p : Ap W6) : (afunR PR (envOf eqsT [(136, fn1 c6.agg c6.agg to)]) [] (fun _ => none) 40 87 [aW.agg.enc p]).strict =
    .leaf (aW.agg.enc ⟨to p.x, to p.y, p.zero⟩) := by kernel_rfl
set_option maxRecDepth 100000 in
theorem out1_run (fr : W6 → W6) (p : Ap W6) : (afunR PR (envOf eqsT [(141, fn1 c6.agg c6.agg fr)]) [] (fun _ => none) 40 91 [aW.agg.enc p]).strict =
    .leaf (aW.agg.enc ⟨fr p.x, fr p.y, p.zero⟩) := by kernel_rfl
set_option maxRecDepth 100000 in
theorem in2_run (to : D6 → D6) (p : Ap D6) : (afunR PR (envOf eqsT [(155, fn1 c12.agg c12.agg to)]) [] (fun _ => none) 40 104 [aD.agg.enc p]).strict =
    .leaf (aD.agg.enc ⟨to p.x, to p.y, p.zero⟩) := by kernel_rfl
set_option maxRecDepth 100000 in
theorem out2_run (fr : D6 → D6) (p : Ap D6) : (afunR PR (envOf eqsT [(159, fn1 c12.agg c12.agg fr)]) [] (fun _ => none) 40 106 [aD.agg.enc p]).strict =
    .leaf (aD.agg.enc ⟨fr p.x, fr p.y, p.zero⟩) := by kernel_rfl
set_option maxRecDepth 100000 in
theorem below1_run (l : W6 → Bool) (p : Ap W6) : (afunR PR (envOf eqsT [(130, fn1 c6.agg kBool l)]) [6] (fun _ => none) 40 84 [aW.agg.enc p]).strict =
    .br (l p.x) (.leaf (kBool.enc (l p.y))) (.leaf (.lit false)) := by kernel_rfl


set_option maxRecDepth 100000 in
theorem isW_run (on : Fl W6 → Ap W6 → Bool) (ra : Fl W6 → Ap W6 → Jp W6) (od : W6) (tm : Fl W6 → Jp W6 → W6 → Jp W6) (lo : Fl W6 → Jp W6 → Ap W6) (f : Fl W6) (p : Ap W6) :
    (afunR PR (envOf eqsT [(86, fn2 flW.agg aW.agg kBool on), (139, fn2 flW.agg aW.agg jW.agg ra), (64, fn0 c6.agg od),
      (138, fn3 flW.agg jW.agg c6.agg jW.agg tm), (137, fn2 flW.agg jW.agg aW.agg lo)]) [8] (fun _ => none) 40 88 [flW.agg.enc f, aW.agg.enc p]).strict =
    .br (on f p) (.leaf (kBool.enc (lo f (tm f (ra f p) od)).zero)) (.leaf (.lit false)) := by kernel_rfl
set_option maxRecDepth 100000 in
theorem check1_run (l : Ap W6 → Bool) (fi : Fl W6) (inn : Ap W6 → Ap W6) (on : Fl W6 → Ap W6 → Bool) (p : Ap W6) :
    (afunR PR (envOf eqsT [(84, fn1 aW.agg kBool l), (85, fn0 flW.agg fi), (87, fn1 aW.agg aW.agg inn), (86, fn2 flW.agg aW.agg kBool on)]) [5] (fun _ => none) 40 30 [aW.agg.enc p]).strict =
    .br (l p) (.leaf (kBool.enc (on fi (inn p)))) (.leaf (.lit false)) := by kernel_rfl
set_option maxRecDepth 100000 in
theorem isin1_run (l : Ap W6 → Bool) (fi : Fl W6) (inn : Ap W6 → Ap W6) (on : Fl W6 → Ap W6 → Bool) (p : Ap W6) :
    (afunR PR (envOf eqsT [(84, fn1 aW.agg kBool l), (85, fn0 flW.agg fi), (87, fn1 aW.agg aW.agg inn), (88, fn2 flW.agg aW.agg kBool on)]) [5] (fun _ => none) 40 31 [aW.agg.enc p]).strict =
    .br (l p) (.leaf (kBool.enc (on fi (inn p)))) (.leaf (.lit false)) := by kernel_rfl


set_option maxRecDepth 100000 in
theorem isD_run (on : Fl D6 → Ap D6 → Bool) (ra : Fl D6 → Ap D6 → Jp D6) (od : W6) (tm : Fl D6 → Jp D6 → W6 → Jp D6) (lo : Fl D6 → Jp D6 → Ap D6) (f : Fl D6) (p : Ap D6) :
    (afunR PR (envOf eqsT [(103, fn2 flD.agg aD.agg kBool on), (158, fn2 flD.agg aD.agg jD.agg ra), (64, fn0 c6.agg od),
      (157, fn3 flD.agg jD.agg c6.agg jD.agg tm), (156, fn2 flD.agg jD.agg aD.agg lo)]) [8] (fun _ => none) 40 105 [flD.agg.enc f, aD.agg.enc p]).strict =
    .br (on f p) (.leaf (kBool.enc (lo f (tm f (ra f p) od)).zero)) (.leaf (.lit false)) := by kernel_rfl
set_option maxRecDepth 100000 in
theorem check2_run (l : Ap D6 → Bool) (fi : Fl D6) (inn : Ap D6 → Ap D6) (on : Fl D6 → Ap D6 → Bool) (p : Ap D6) :
    (afunR PR (envOf eqsT [(101, fn1 aD.agg kBool l), (102, fn0 flD.agg fi), (104, fn1 aD.agg aD.agg inn), (103, fn2 flD.agg aD.agg kBool on)]) [5] (fun _ => none) 40 43 [aD.agg.enc p]).strict =
    .br (l p) (.leaf (kBool.enc (on fi (inn p)))) (.leaf (.lit false)) := by kernel_rfl
set_option maxRecDepth 100000 in
theorem isin2_run (l : Ap D6 → Bool) (fi : Fl D6) (inn : Ap D6 → Ap D6) (on : Fl D6 → Ap D6 → Bool) (p : Ap D6) :
    (afunR PR (envOf eqsT [(101, fn1 aD.agg kBool l), (102, fn0 flD.agg fi), (104, fn1 aD.agg aD.agg inn), (105, fn2 flD.agg aD.agg kBool on)]) [5] (fun _ => none) 40 44 [aD.agg.enc p]).strict =
    .br (l p) (.leaf (kBool.enc (on fi (inn p)))) (.leaf (.lit false)) := by kernel_rfl

end Go.Rq
