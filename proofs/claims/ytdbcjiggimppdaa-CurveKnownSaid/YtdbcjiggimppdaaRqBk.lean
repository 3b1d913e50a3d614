/- The curves' negations, and the second group's tests: kernel checks. Written by a program of ours. -/
import Derived.Test.YtdbcjiggimppdaaRqBj
namespace Go.Rq
open Go Go.Proofs

set_option maxRecDepth 100000 in
theorem below2_run (l : W6 → Bool) (p : Ap D6) : (afunR PR (envOf eqsT [(130, fn1 c6.agg kBool l)]) [7, 13, 19] (fun _ => none) 40 101 [aD.agg.enc p]).strict =
    .br (l p.x.a) (.br (l p.x.b) (.br (l p.y.a) (.leaf (kBool.enc (l p.y.b))) (.leaf (.lit false))) (.leaf (.lit false))) (.leaf (.lit false)) := by kernel_rfl


set_option maxRecDepth 100000 in
theorem neg1_run (ck : Ap W6 → Bool) (fi : Fl W6) (inn ou : Ap W6 → Ap W6) (ne : Fl W6 → Ap W6 → Ap W6) (p : Ap W6) :
    (afunR PR (envOf eqsT [(30, fn1 aW.agg kBool ck), (85, fn0 flW.agg fi), (87, fn1 aW.agg aW.agg inn), (91, fn1 aW.agg aW.agg ou), (92, fn2 flW.agg aW.agg aW.agg ne)]) [6] (fun _ => none) 40 35 [aW.agg.enc p]).strict =
    .br (!(ck p)) (.leaf (.tup [.agg (c6.enc zeroW ++ (c6.enc zeroW ++ [.lit false])), .v (.int .i64 5)])) (.leaf (.tup [aW.agg.enc (ou (ne fi (inn p))), .v (.int .i64 0)])) := by kernel_rfl


set_option maxRecDepth 100000 in
theorem neg2_run (ck : Ap D6 → Bool) (fi : Fl D6) (inn ou : Ap D6 → Ap D6) (ne : Fl D6 → Ap D6 → Ap D6) (p : Ap D6) :
    (afunR PR (envOf eqsT [(43, fn1 aD.agg kBool ck), (102, fn0 flD.agg fi), (104, fn1 aD.agg aD.agg inn), (106, fn1 aD.agg aD.agg ou), (107, fn2 flD.agg aD.agg aD.agg ne)]) [6] (fun _ => none) 40 48 [aD.agg.enc p]).strict =
    .br (!(ck p)) (.leaf (.tup [.agg (c12.enc zero2 ++ (c12.enc zero2 ++ [.lit false])), .v (.int .i64 5)])) (.leaf (.tup [aD.agg.enc (ou (ne fi (inn p))), .v (.int .i64 0)])) := by kernel_rfl

end Go.Rq
