/- Sums of one and of two points: contracts. Written by a program of ours. -/
import Derived.Test.YtdbcjiggimppdaaRqBl
import Derived.Test.YtdbcjiggimppdaaRqY
namespace Go.Rq
open Go Go.Proofs

/-- What the functions on points come to, left open. -/
structure GO (K : Type) where
  on : Fl K → Ap K → Bool
  ra : Fl K → Ap K → Jp K
  ti : Fl K → Jp K → W6 → Jp K
  su : Fl K → Jp K → Jp K → Jp K
  lo : Fl K → Jp K → Ap K

section
variable {K : Type} (t : GO K) (z : K)
def ga1 (f : Fl K) (p : Ap K) (n : W6) : Ap K × Int := bif t.on f p then (t.lo f (t.su f ⟨f.one, f.one, z⟩ (t.ti f (t.ra f p) n)), 0) else (⟨z, z, false⟩, 5)
def ga2 (f : Fl K) (x : Ap K × Ap K) (y : W6 × W6) : Ap K × Int := bif t.on f x.1 then (bif t.on f x.2 then
  (t.lo f (t.su f (t.su f ⟨f.one, f.one, z⟩ (t.ti f (t.ra f x.1) y.1)) (t.ti f (t.ra f x.2) y.2)), 0) else (⟨z, z, false⟩, 5)) else (⟨z, z, false⟩, 5)

/-- Likewise of told points. -/
structure SO (K : Type) where
  be : Ap K → Bool
  fi : Fl K
  inn : Ap K → Ap K
  ou : Ap K → Ap K

variable (s : SO K)
def sm1 (G : Fl K → Ap K → W6 → Ap K × Int) (p : Ap K) (n : W6) : Ap K × Int := bif s.be p then (s.ou (G s.fi (s.inn p) n).1, (G s.fi (s.inn p) n).2) else (⟨z, z, false⟩, 5)
def sm2 (G : Fl K → Ap K × Ap K → W6 × W6 → Ap K × Int) (x : Ap K × Ap K) (y : W6 × W6) : Ap K × Int := bif s.be x.1 then (bif s.be x.2 then
  (s.ou (G s.fi (s.inn x.1, s.inn x.2) y).1, (G s.fi (s.inn x.1, s.inn x.2) y).2) else (⟨z, z, false⟩, 5)) else (⟨z, z, false⟩, 5)
end


def gaTW (t : GO W6) : PureTab := [(86, fn2 flW.agg aW.agg kBool t.on), (139, fn2 flW.agg aW.agg jW.agg t.ra), (138, fn3 flW.agg jW.agg c6.agg jW.agg t.ti),
  (161, fn3 flW.agg jW.agg jW.agg jW.agg t.su), (137, fn2 flW.agg jW.agg aW.agg t.lo)]
noncomputable def gaEW (t : GO W6) : Env := envH eqsT (gaTW t) []
def noneWA : Tree AV := .leaf (.tup [.agg (c6.enc zeroW ++ (c6.enc zeroW ++ [.lit false])), .v (.int .i64 5)])
set_option maxRecDepth 100000 in
theorem ga1_runW (t : GO W6) (f : Fl W6) (p : Ap W6) (n : W6) : (afunH PR (gaEW t) [27] 10 112 [flW.agg.enc f, (SlA.own 13 1).at 0, (SlA.slc 1).at 1] (twoAH aW c6 126 47 p n) 2).strict =
    .br (t.on f p) (.leaf (kPW.enc (t.lo f (t.su f ⟨f.one, f.one, zeroW⟩ (t.ti f (t.ra f p) n)), 0))) noneWA := by kernel_rfl
set_option maxRecDepth 100000 in
theorem ga2_runW (t : GO W6) (f : Fl W6) (p q : Ap W6) (n m : W6) : (afunH PR (gaEW t) [27] 10 112 [flW.agg.enc f, (SlA.own 13 2).at 0, (SlA.slc 2).at 1] (twoAH (CC.prod aW aW) (CC.prod c6 c6) 126 47 (p, q) (n, m)) 2).strict =
    .br (t.on f p) (.br (t.on f q) (.leaf (kPW.enc (t.lo f (t.su f (t.su f ⟨f.one, f.one, zeroW⟩ (t.ti f (t.ra f p) n)) (t.ti f (t.ra f q) m)), 0))) noneWA) noneWA := by kernel_rfl

def suTW (s : SO W6) : PureTab := [(84, fn1 aW.agg kBool s.be), (87, fn1 aW.agg aW.agg s.inn), (85, fn0 flW.agg s.fi), (91, fn1 aW.agg aW.agg s.ou)]
noncomputable def suE1W (s : SO W6) (G : Fl W6 → Ap W6 → W6 → Ap W6 × Int) : Env := envH eqsT (suTW s) [(112, sl3 (.own 13 1) (.slc 1) 126 47 flW.agg aW c6 kPW G)]
noncomputable def suE2W (s : SO W6) (G : Fl W6 → Ap W6 × Ap W6 → W6 × W6 → Ap W6 × Int) : Env := envH eqsT (suTW s) [(112, sl3 (.own 13 2) (.slc 2) 126 47 flW.agg (CC.prod aW aW) (CC.prod c6 c6) kPW G)]
set_option maxRecDepth 100000 in
theorem su1_runW (s : SO W6) (G : Fl W6 → Ap W6 → W6 → Ap W6 × Int) (p : Ap W6) (n : W6) : (afunH PR (suE1W s G) [24] 10 56 [(SlA.slc 1).at 0, (SlA.slc 1).at 1] (twoAH aW c6 49 47 p n) 2).strict =
    .br (s.be p) (.leaf (kPW.enc (s.ou (G s.fi (s.inn p) n).1, (G s.fi (s.inn p) n).2))) noneWA := by kernel_rfl
set_option maxRecDepth 100000 in
theorem su2_runW (s : SO W6) (G : Fl W6 → Ap W6 × Ap W6 → W6 × W6 → Ap W6 × Int) (p q : Ap W6) (n m : W6) : (afunH PR (suE2W s G) [24] 10 56 [(SlA.slc 2).at 0, (SlA.slc 2).at 1] (twoAH (CC.prod aW aW) (CC.prod c6 c6) 49 47 (p, q) (n, m)) 2).strict =
    .br (s.be p) (.br (s.be q) (.leaf (kPW.enc (s.ou (G s.fi (s.inn p, s.inn q) (n, m)).1, (G s.fi (s.inn p, s.inn q) (n, m)).2))) noneWA) noneWA := by kernel_rfl

noncomputable def adEW (G : Ap W6 × Ap W6 → W6 × W6 → Ap W6 × Int) (ofw : BitVec 64 → W6) : Env := envH eqsT [(63, fn1 kU c6.agg ofw)] [(56, sl2 (.slc 2) (.slc 2) 49 47 (CC.prod aW aW) (CC.prod c6 c6) kPW G)]
set_option maxRecDepth 100000 in
theorem ad_runW (G : Ap W6 × Ap W6 → W6 × W6 → Ap W6 × Int) (ofw : BitVec 64 → W6) (p q : Ap W6) : (afunR PR (adEW G ofw) [] (fun _ => none) 10 36 [aW.agg.enc p, aW.agg.enc q]).strict =
    .leaf (kPW.enc (G (p, q) (ofw (bitW true), ofw (bitW true)))) := by kernel_rfl
noncomputable def muEW (G : Ap W6 → W6 → Ap W6 × Int) : Env := envH eqsT [] [(56, sl2 (.slc 1) (.slc 1) 49 47 aW c6 kPW G)]
set_option maxRecDepth 100000 in
theorem mu_runW (G : Ap W6 → W6 → Ap W6 × Int) (p : Ap W6) (n : W6) : (afunR PR (muEW G) [] (fun _ => none) 10 37 [aW.agg.enc p, c6.agg.enc n]).strict =
    .leaf (kPW.enc (G p n)) := by kernel_rfl


def gaTD (t : GO D6) : PureTab := [(103, fn2 flD.agg aD.agg kBool t.on), (158, fn2 flD.agg aD.agg jD.agg t.ra), (157, fn3 flD.agg jD.agg c6.agg jD.agg t.ti),
  (162, fn3 flD.agg jD.agg jD.agg jD.agg t.su), (156, fn2 flD.agg jD.agg aD.agg t.lo)]
noncomputable def gaED (t : GO D6) : Env := envH eqsT (gaTD t) []
def noneDA : Tree AV := .leaf (.tup [.agg (c12.enc zero2 ++ (c12.enc zero2 ++ [.lit false])), .v (.int .i64 5)])
set_option maxRecDepth 100000 in
theorem ga1_runD (t : GO D6) (f : Fl D6) (p : Ap D6) (n : W6) : (afunH PR (gaED t) [27] 10 113 [flD.agg.enc f, (SlA.own 25 1).at 0, (SlA.slc 1).at 1] (twoAH aD c6 145 47 p n) 2).strict =
    .br (t.on f p) (.leaf (kPD.enc (t.lo f (t.su f ⟨f.one, f.one, zero2⟩ (t.ti f (t.ra f p) n)), 0))) noneDA := by kernel_rfl
set_option maxRecDepth 100000 in
theorem ga2_runD (t : GO D6) (f : Fl D6) (p q : Ap D6) (n m : W6) : (afunH PR (gaED t) [27] 10 113 [flD.agg.enc f, (SlA.own 25 2).at 0, (SlA.slc 2).at 1] (twoAH (CC.prod aD aD) (CC.prod c6 c6) 145 47 (p, q) (n, m)) 2).strict =
    .br (t.on f p) (.br (t.on f q) (.leaf (kPD.enc (t.lo f (t.su f (t.su f ⟨f.one, f.one, zero2⟩ (t.ti f (t.ra f p) n)) (t.ti f (t.ra f q) m)), 0))) noneDA) noneDA := by kernel_rfl

def suTD (s : SO D6) : PureTab := [(101, fn1 aD.agg kBool s.be), (104, fn1 aD.agg aD.agg s.inn), (102, fn0 flD.agg s.fi), (106, fn1 aD.agg aD.agg s.ou)]
noncomputable def suE1D (s : SO D6) (G : Fl D6 → Ap D6 → W6 → Ap D6 × Int) : Env := envH eqsT (suTD s) [(113, sl3 (.own 25 1) (.slc 1) 145 47 flD.agg aD c6 kPD G)]
noncomputable def suE2D (s : SO D6) (G : Fl D6 → Ap D6 × Ap D6 → W6 × W6 → Ap D6 × Int) : Env := envH eqsT (suTD s) [(113, sl3 (.own 25 2) (.slc 2) 145 47 flD.agg (CC.prod aD aD) (CC.prod c6 c6) kPD G)]
set_option maxRecDepth 100000 in
theorem su1_runD (s : SO D6) (G : Fl D6 → Ap D6 → W6 → Ap D6 × Int) (p : Ap D6) (n : W6) : (afunH PR (suE1D s G) [24] 10 57 [(SlA.slc 1).at 0, (SlA.slc 1).at 1] (twoAH aD c6 64 47 p n) 2).strict =
    .br (s.be p) (.leaf (kPD.enc (s.ou (G s.fi (s.inn p) n).1, (G s.fi (s.inn p) n).2))) noneDA := by kernel_rfl
set_option maxRecDepth 100000 in
theorem su2_runD (s : SO D6) (G : Fl D6 → Ap D6 × Ap D6 → W6 × W6 → Ap D6 × Int) (p q : Ap D6) (n m : W6) : (afunH PR (suE2D s G) [24] 10 57 [(SlA.slc 2).at 0, (SlA.slc 2).at 1] (twoAH (CC.prod aD aD) (CC.prod c6 c6) 64 47 (p, q) (n, m)) 2).strict =
    .br (s.be p) (.br (s.be q) (.leaf (kPD.enc (s.ou (G s.fi (s.inn p, s.inn q) (n, m)).1, (G s.fi (s.inn p, s.inn q) (n, m)).2))) noneDA) noneDA := by kernel_rfl

noncomputable def adED (G : Ap D6 × Ap D6 → W6 × W6 → Ap D6 × Int) (ofw : BitVec 64 → W6) : Env := envH eqsT [(63, fn1 kU c6.agg ofw)] [(57, sl2 (.slc 2) (.slc 2) 64 47 (CC.prod aD aD) (CC.prod c6 c6) kPD G)]
set_option maxRecDepth 100000 in
theorem ad_runD (G : Ap D6 × Ap D6 → W6 × W6 → Ap D6 × Int) (ofw : BitVec 64 → W6) (p q : Ap D6) : (afunR PR (adED G ofw) [] (fun _ => none) 10 49 [aD.agg.enc p, aD.agg.enc q]).strict =
    .leaf (kPD.enc (G (p, q) (ofw (bitW true), ofw (bitW true)))) := by kernel_rfl
noncomputable def muED (G : Ap D6 → W6 → Ap D6 × Int) : Env := envH eqsT [] [(57, sl2 (.slc 1) (.slc 1) 64 47 aD c6 kPD G)]
set_option maxRecDepth 100000 in
theorem mu_runD (G : Ap D6 → W6 → Ap D6 × Int) (p : Ap D6) (n : W6) : (afunR PR (muED G) [] (fun _ => none) 10 50 [aD.agg.enc p, c6.agg.enc n]).strict =
    .leaf (kPD.enc (G p n)) := by kernel_rfl

end Go.Rq
