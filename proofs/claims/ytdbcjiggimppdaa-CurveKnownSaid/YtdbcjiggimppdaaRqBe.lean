/- The curves' functions, the field left open. Written by a program of ours. -/
import Derived.Test.YtdbcjiggimppdaaRqBc
import Derived.Test.YtdbcjiggimppdaaRqV
namespace Go.Rq
open Go Go.Proofs

def flW : CC (Fl W6) := cFl 131 132 133 134 c6
def flD : CC (Fl D6) := cFl 150 151 152 153 c12
def jW : CC (Jp W6) := cJp c6
def jD : CC (Jp D6) := cJp c12
def aW : CC (Ap W6) := cAp c6
def aD : CC (Ap D6) := cAp c12

def T2 (o : FO D6) : PureTab := [(150, fn2 c12.agg c12.agg c12.agg o.add),
  (151, fn2 c12.agg c12.agg c12.agg o.sub),
  (152, fn2 c12.agg c12.agg c12.agg o.mul),
  (153, fn1 c12.agg c12.agg o.inv),
  (155, fn1 c12.agg c12.agg o.to),
  (159, fn1 c12.agg c12.agg o.back),
  (154, fn0 c12.agg o.one)]
theorem T2_eq : [(150, fn2 c12.agg c12.agg c12.agg (add2 fW)), (151, fn2 c12.agg c12.agg c12.agg (sub2 fW)), (152, fn2 c12.agg c12.agg c12.agg (mul2 fW)), (153, fn1 c12.agg c12.agg (inv2 fW)), (155, fn1 c12.agg c12.agg (to2 fW)), (159, fn1 c12.agg c12.agg (back2 fW)), (154, fn0 c12.agg one2)] = T2 fD := by kernel_rfl
theorem T2_ok : TabPOk PR (T2 fD) := Eq.subst (motive := TabPOk PR) T2_eq (TabPOk.cons add2_ok (TabPOk.cons sub2_ok (TabPOk.cons mul2_ok (TabPOk.cons inv2_ok (TabPOk.cons to2_ok (TabPOk.cons back2_ok (TabPOk.cons one2_ok (TabPOk.nil))))))))

set_option maxRecDepth 100000 in
theorem twW_run (o : FO W6) (f : Fl W6) (p : Jp W6) : (afunR PR (envOf eqsT (T1 o)) [] (fun _ => none) 40 176 [flW.agg.enc f, jW.agg.enc p]).strict = .leaf (jW.agg.enc (twiceJ o p)) := by kernel_rfl

set_option maxRecDepth 100000 in
theorem raW_run (o : FO W6) (f : Fl W6) (p : Ap W6) : (afunR PR (envOf eqsT (T1 o)) [6] (fun _ => none) 40 139 [flW.agg.enc f, aW.agg.enc p]).strict = .br p.zero (.leaf (jW.agg.enc ⟨f.one, f.one, zeroW⟩)) (.leaf (jW.agg.enc ⟨p.x, p.y, f.one⟩)) := by kernel_rfl

set_option maxRecDepth 100000 in
theorem loW_run (o : FO W6) (f : Fl W6) (p : Jp W6) : (afunR PR (envOf eqsT (T1 o)) [11] (fun _ => none) 40 137 [flW.agg.enc f, jW.agg.enc p]).strict = .br (eqW p.z zeroW) (.leaf (.agg (c6.enc zeroW ++ (c6.enc zeroW ++ [.lit true])))) (.leaf (.agg (c6.enc (lowerJ o p).x ++ (c6.enc (lowerJ o p).y ++ [.lit false])))) := by kernel_rfl

set_option maxRecDepth 100000 in
theorem neW_run (o : FO W6) (f : Fl W6) (p : Ap W6) : (afunR PR (envOf eqsT (T1 o)) [] (fun _ => none) 40 92 [flW.agg.enc f, aW.agg.enc p]).strict = .leaf (aW.agg.enc ⟨p.x, o.sub zeroW p.y, p.zero⟩) := by kernel_rfl

set_option maxRecDepth 100000 in
theorem onW_run (o : FO W6) (f : Fl W6) (p : Ap W6) : (afunR PR (envOf eqsT (T1 o)) [7, 12] (fun _ => none) 40 86 [flW.agg.enc f, aW.agg.enc p]).strict = .br p.zero (.br (eqW p.x zeroW) (.leaf (kBool.enc (eqW p.y zeroW))) (.leaf (.lit false))) (.leaf (kBool.enc (eqW (o.mul p.y p.y) (o.add (o.mul (o.mul p.x p.x) p.x) f.b)))) := by kernel_rfl

set_option maxRecDepth 100000 in
theorem suW_run (o : FO W6) (f : Fl W6) (tw : Fl W6 → Jp W6 → Jp W6) (p q : Jp W6) : (afunR PR (envOf eqsT ((176, fn2 flW.agg jW.agg jW.agg tw) :: T1 o)) [23, 28, 90, 93] (fun _ => none) 40 161 [flW.agg.enc f, jW.agg.enc p, jW.agg.enc q]).strict = .br (eqW p.z zeroW) (.leaf (jW.agg.enc q)) (.br (eqW q.z zeroW) (.leaf (jW.agg.enc p)) (.br (eqW (hJ o p q) zeroW) (.br (eqW (rJ o p q) zeroW) (.leaf (jW.agg.enc (tw f p))) (.leaf (jW.agg.enc ⟨f.one, f.one, zeroW⟩))) (.leaf (jW.agg.enc (sumJ o p q))))) := by kernel_rfl

set_option maxRecDepth 100000 in
theorem twD_run (o : FO D6) (f : Fl D6) (p : Jp D6) : (afunR PR (envOf eqsT (T2 o)) [] (fun _ => none) 40 186 [flD.agg.enc f, jD.agg.enc p]).strict = .leaf (jD.agg.enc (twiceJ o p)) := by kernel_rfl

set_option maxRecDepth 100000 in
theorem raD_run (o : FO D6) (f : Fl D6) (p : Ap D6) : (afunR PR (envOf eqsT (T2 o)) [6] (fun _ => none) 40 158 [flD.agg.enc f, aD.agg.enc p]).strict = .br p.zero (.leaf (jD.agg.enc ⟨f.one, f.one, zero2⟩)) (.leaf (jD.agg.enc ⟨p.x, p.y, f.one⟩)) := by kernel_rfl

set_option maxRecDepth 100000 in
theorem loD_run (o : FO D6) (f : Fl D6) (p : Jp D6) : (afunR PR (envOf eqsT (T2 o)) [11] (fun _ => none) 40 156 [flD.agg.enc f, jD.agg.enc p]).strict = .br (eqD p.z zero2) (.leaf (.agg (c12.enc zero2 ++ (c12.enc zero2 ++ [.lit true])))) (.leaf (.agg (c12.enc (lowerJ o p).x ++ (c12.enc (lowerJ o p).y ++ [.lit false])))) := by kernel_rfl

set_option maxRecDepth 100000 in
theorem neD_run (o : FO D6) (f : Fl D6) (p : Ap D6) : (afunR PR (envOf eqsT (T2 o)) [] (fun _ => none) 40 107 [flD.agg.enc f, aD.agg.enc p]).strict = .leaf (aD.agg.enc ⟨p.x, o.sub zero2 p.y, p.zero⟩) := by kernel_rfl

set_option maxRecDepth 100000 in
theorem onD_run (o : FO D6) (f : Fl D6) (p : Ap D6) : (afunR PR (envOf eqsT (T2 o)) [7, 12] (fun _ => none) 40 103 [flD.agg.enc f, aD.agg.enc p]).strict = .br p.zero (.br (eqD p.x zero2) (.leaf (kBool.enc (eqD p.y zero2))) (.leaf (.lit false))) (.leaf (kBool.enc (eqD (o.mul p.y p.y) (o.add (o.mul (o.mul p.x p.x) p.x) f.b)))) := by kernel_rfl

set_option maxRecDepth 100000 in
theorem suD_run (o : FO D6) (f : Fl D6) (tw : Fl D6 → Jp D6 → Jp D6) (p q : Jp D6) : (afunR PR (envOf eqsT ((186, fn2 flD.agg jD.agg jD.agg tw) :: T2 o)) [23, 28, 90, 93] (fun _ => none) 40 162 [flD.agg.enc f, jD.agg.enc p, jD.agg.enc q]).strict = .br (eqD p.z zero2) (.leaf (jD.agg.enc q)) (.br (eqD q.z zero2) (.leaf (jD.agg.enc p)) (.br (eqD (hJ o p q) zero2) (.br (eqD (rJ o p q) zero2) (.leaf (jD.agg.enc (tw f p))) (.leaf (jD.agg.enc ⟨f.one, f.one, zero2⟩))) (.leaf (jD.agg.enc (sumJ o p q))))) := by kernel_rfl

end Go.Rq
