/- The curves' multiples: a loop over a number's bits. Written by a program of ours. -/
import Derived.Test.YtdbcjiggimppdaaRqBd
import Derived.Test.YtdbcjiggimppdaaRqBf
namespace Go.Rq
open Go Go.Proofs

/-- What times calls, left open. -/
structure TO (K : Type) where
  tw : Fl K → Jp K → Jp K
  su : Fl K → Jp K → Jp K → Jp K
  ln : W6 → Int
  bt : W6 → Int → Int

/-- A multiple, from bit k - 1 down. -/
def timesG {K : Type} (t : TO K) (f : Fl K) (p : Jp K) (n : W6) : Nat → Jp K → Jp K
  | 0, out => out
  | k + 1, out => timesG t f p n k (bif t.bt n (k : Int) == 1 then t.su f (t.tw f out) p else t.tw f out)


def tmTW (t : TO W6) : PureTab := [(176, fn2 flW.agg jW.agg jW.agg t.tw), (161, fn3 flW.agg jW.agg jW.agg jW.agg t.su),
  (116, fn1 c6.agg (kInt .i64) t.ln), (177, fn2 c6.agg (kInt .i64) (kInt .i64) t.bt)]
noncomputable def tmEW (t : TO W6) : Env := envOf eqsT (tmTW t)
def tmKW : Keep := ⟨[3, 4, 5, 6, 7, 8], [0, 1, 2, 3, 9], 15⟩
@[irreducible] noncomputable def tmXW (t : TO W6) (f : Fl W6) (p : Jp W6) (n : W6) : XS := entryOf PR (tmEW t) [18, 27] (fun _ => none) 10 138 [flW.agg.enc f, jW.agg.enc p, c6.agg.enc n] [] 0 0 tmKW
@[irreducible] noncomputable def tmIW (t : TO W6) (f : Fl W6) (p : Jp W6) (n : W6) (d : Int × Jp W6) : XS := ((tmXW t f p n).setT 8 (.v (.int .i64 d.1))).setB 9 (jW.enc d.2)
@[irreducible] noncomputable def tmCW : Code := roundOf PR 138 0

set_option maxRecDepth 100000 in
theorem tm_roundW (t : TO W6) (f : Fl W6) (p : Jp W6) (n : W6) (z : Int) (out : Jp W6) : (roundT PR (tmEW t) [18, 27] (fun _ => none) 10 tmKW tmKW tmKW tmCW (tmIW t f p n (z, out))).strict =
    .br (decide (z ≥ 0))
      (.br (t.bt n z == 1)
        (.leaf (.normal, tmIW t f p n (IntKind.i64.wrap (z - 1), t.su f (t.tw f out) p)))
        (.leaf (.normal, tmIW t f p n (IntKind.i64.wrap (z - 1), t.tw f out))))
      (.leaf (.exit 0, tmIW t f p n (z, out))) := by kernel_rfl


def tmTD (t : TO D6) : PureTab := [(186, fn2 flD.agg jD.agg jD.agg t.tw), (162, fn3 flD.agg jD.agg jD.agg jD.agg t.su),
  (116, fn1 c6.agg (kInt .i64) t.ln), (177, fn2 c6.agg (kInt .i64) (kInt .i64) t.bt)]
noncomputable def tmED (t : TO D6) : Env := envOf eqsT (tmTD t)
def tmKD : Keep := ⟨[3, 4, 5, 6, 7, 8], [0, 1, 2, 3, 9], 15⟩
@[irreducible] noncomputable def tmXD (t : TO D6) (f : Fl D6) (p : Jp D6) (n : W6) : XS := entryOf PR (tmED t) [18, 27] (fun _ => none) 10 157 [flD.agg.enc f, jD.agg.enc p, c6.agg.enc n] [] 0 0 tmKD
@[irreducible] noncomputable def tmID (t : TO D6) (f : Fl D6) (p : Jp D6) (n : W6) (d : Int × Jp D6) : XS := ((tmXD t f p n).setT 8 (.v (.int .i64 d.1))).setB 9 (jD.enc d.2)
@[irreducible] noncomputable def tmCD : Code := roundOf PR 157 0

set_option maxRecDepth 100000 in
theorem tm_roundD (t : TO D6) (f : Fl D6) (p : Jp D6) (n : W6) (z : Int) (out : Jp D6) : (roundT PR (tmED t) [18, 27] (fun _ => none) 10 tmKD tmKD tmKD tmCD (tmID t f p n (z, out))).strict =
    .br (decide (z ≥ 0))
      (.br (t.bt n z == 1)
        (.leaf (.normal, tmID t f p n (IntKind.i64.wrap (z - 1), t.su f (t.tw f out) p)))
        (.leaf (.normal, tmID t f p n (IntKind.i64.wrap (z - 1), t.tw f out))))
      (.leaf (.exit 0, tmID t f p n (z, out))) := by kernel_rfl

end Go.Rq
