/- What the program's functions on points come to, reckoned with numbers. -/
import Derived.Test.YtdbcjiggimppdaaGreatRq14
import Derived.Test.YtdbcjiggimppdaaGreatRq09
import Derived.Test.YtdbcjiggimppdaaGreatRq07
import Derived.Test.YtdbcjiggimppdaaGreatRq08
import Derived.Test.YtdbcjiggimppdaaGreatRq13
namespace Go.Rq
open Go Go.Proofs

section
variable {A B : Type} {R : A → B → Prop} {o : FO A} {o' : FO B} {e : A → A → Bool} {e' : B → B → Bool}

def tOf {K : Type} (o : FO K) (e : K → K → Bool) : TO K := ⟨fun _ p => twiceJ o p, sumE o e, lenI, bitI⟩
def gOf {K : Type} (o : FO K) (e : K → K → Bool) (ti : Fl K → Jp K → W6 → Jp K) : GO K := ⟨onE o e, raiseJ o, ti, sumE o e, fun _ p => lowerE o e p⟩

theorem times_rel (h : FRel R o o' e e') {f : Fl A} {g : Fl B} (hf : RFl R f g) {p : Jp A} {q : Jp B} (hp : RJ R p q) (n : W6) : ∀ (k : Nat) {u : Jp A} {v : Jp B}, RJ R u v →
    RJ R (timesG (tOf o e) f p n k u) (timesG (tOf o' e') g q n k v)
  | 0, u, v, hu => hu
  | k + 1, u, v, hu => by
    show RJ R (timesG (tOf o e) f p n k (bif bitI n (k : Int) == 1 then sumE o e f (twiceJ o u) p else twiceJ o u)) (timesG (tOf o' e') g q n k (bif bitI n (k : Int) == 1 then sumE o' e' g (twiceJ o' v) q else twiceJ o' v))
    apply times_rel h hf hp n k
    cases bitI n (k : Int) == 1
    · exact twice_rel h hu
    · exact sum_rel h hf (twice_rel h hu) hp

/-- The functions on points go alike. -/
structure GRel (R : A → B → Prop) (t : GO A) (s : GO B) : Prop where
  on : ∀ {f g p q}, RFl R f g → RA R p q → t.on f p = s.on g q
  ra : ∀ {f g p q}, RFl R f g → RA R p q → RJ R (t.ra f p) (s.ra g q)
  ti : ∀ {f g p q}, RFl R f g → RJ R p q → ∀ n, RJ R (t.ti f p n) (s.ti g q n)
  su : ∀ {f g p q u v}, RFl R f g → RJ R p q → RJ R u v → RJ R (t.su f p u) (s.su g q v)
  lo : ∀ {f g p q}, RFl R f g → RJ R p q → RA R (t.lo f p) (s.lo g q)

theorem g_rel (h : FRel R o o' e e') {ti : Fl A → Jp A → W6 → Jp A} {ti' : Fl B → Jp B → W6 → Jp B} (ht : ∀ {f g p q}, RFl R f g → RJ R p q → ∀ n, RJ R (ti f p n) (ti' g q n)) : GRel R (gOf o e ti) (gOf o' e' ti') :=
  ⟨fun hf hp => on_rel h hf hp, fun hf hp => raise_rel h hf hp, ht, fun hf hp hu => sum_rel h hf hp hu, fun _ hp => lower_rel h hp⟩

theorem ga1_rel {t : GO A} {s : GO B} (h : GRel R t s) {z : A} {z' : B} (hz : R z z') {f : Fl A} {g : Fl B} (hf : RFl R f g) {p : Ap A} {q : Ap B} (hp : RA R p q) (n : W6) :
    RA R (ga1 t z f p n).1 (ga1 s z' g q n).1 ∧ (ga1 t z f p n).2 = (ga1 s z' g q n).2 := by
  unfold ga1
  rw [h.on hf hp]
  cases s.on g q
  · exact ⟨⟨hz, hz, rfl⟩, rfl⟩
  · exact ⟨h.lo hf (h.su hf ⟨hf.one, hf.one, hz⟩ (h.ti hf (h.ra hf hp) n)), rfl⟩

theorem ga2_rel {t : GO A} {s : GO B} (h : GRel R t s) {z : A} {z' : B} (hz : R z z') {f : Fl A} {g : Fl B} (hf : RFl R f g) {x : Ap A × Ap A} {y : Ap B × Ap B} (h1 : RA R x.1 y.1) (h2 : RA R x.2 y.2) (n : W6 × W6) :
    RA R (ga2 t z f x n).1 (ga2 s z' g y n).1 ∧ (ga2 t z f x n).2 = (ga2 s z' g y n).2 := by
  unfold ga2
  rw [h.on hf h1, h.on hf h2]
  cases s.on g y.1
  · exact ⟨⟨hz, hz, rfl⟩, rfl⟩
  · cases s.on g y.2
    · exact ⟨⟨hz, hz, rfl⟩, rfl⟩
    · exact ⟨h.lo hf (h.su hf (h.su hf ⟨hf.one, hf.one, hz⟩ (h.ti hf (h.ra hf h1) n.1)) (h.ti hf (h.ra hf h2) n.2)), rfl⟩
end

/-! Multiples, reckoned step by step. -/

def forceJ {α : Type} (r : Jp Nat) (f : Jp Nat → α) : α := forceN r.x fun x => forceN r.y fun y => forceN r.z fun z => f ⟨x, y, z⟩
theorem forceJ_eq {α : Type} (r : Jp Nat) (f : Jp Nat → α) : forceJ r f = f r := by simp only [forceJ, forceN_eq]
def forceK {α : Type} (r : Jp (DN Nat)) (f : Jp (DN Nat) → α) : α := forceN r.x.a fun a => forceN r.x.b fun b => forceN r.y.a fun c => forceN r.y.b fun d => forceN r.z.a fun x => forceN r.z.b fun y => f ⟨⟨a, b⟩, ⟨c, d⟩, ⟨x, y⟩⟩
theorem forceK_eq {α : Type} (r : Jp (DN Nat)) (f : Jp (DN Nat) → α) : forceK r f = f r := by simp only [forceK, forceN_eq]

def stepG {K : Type} (o : FO K) (e : K → K → Bool) (f : Fl K) (p : Jp K) (b : Bool) (u : Jp K) : Jp K := bif b then sumE o e f (twiceJ o u) p else twiceJ o u

/-- A multiple; a point is reckoned whole at each bit. -/
def runN {K : Type} (fo : Jp K → (Jp K → Jp K) → Jp K) (st : Bool → Jp K → Jp K) : List Bool → Jp K → Jp K
  | [], u => u
  | b :: t, u => fo (st b u) fun v => runN fo st t v

def bitsL (n : W6) : Nat → List Bool
  | 0 => []
  | k + 1 => (bitI n (k : Int) == 1) :: bitsL n k

theorem runN_eq {K : Type} {o : FO K} {e : K → K → Bool} {fo : Jp K → (Jp K → Jp K) → Jp K} (hfo : ∀ r f, fo r f = f r) (f : Fl K) (p : Jp K) (n : W6) : ∀ (k : Nat) (u : Jp K),
    runN fo (stepG o e f p) (bitsL n k) u = timesG (tOf o e) f p n k u
  | 0, u => rfl
  | k + 1, u => by
    simp only [bitsL, runN, hfo]
    exact runN_eq hfo f p n k _

def timesN (f : Fl Nat) (p : Jp Nat) (n : W6) : Jp Nat := runN forceJ (stepG fN Nat.beq f p) (bitsL n (lenI n).toNat) ⟨f.one, f.one, 0⟩
def timesK (f : Fl (DN Nat)) (p : Jp (DN Nat)) (n : W6) : Jp (DN Nat) := runN forceK (stepG fDN (beqA Nat.beq) f p) (bitsL n (lenI n).toNat) ⟨f.one, f.one, ⟨0, 0⟩⟩

theorem timesN_rel {f : Fl Nat} {g : Fl W6} {p : Jp Nat} {q : Jp W6} (hf : RFl Rep f g) (hp : RJ Rep p q) (n : W6) : RJ Rep (timesN f p n) (timesW g q n) := by
  unfold timesN timesW
  rw [runN_eq (o := fN) (e := Nat.beq) forceJ_eq]
  exact times_rel relW hf hp n _ ⟨hf.one, hf.one, rep_zero⟩
theorem timesK_rel {f : Fl (DN Nat)} {g : Fl D6} {p : Jp (DN Nat)} {q : Jp D6} (hf : RFl (RD Rep) f g) (hp : RJ (RD Rep) p q) (n : W6) : RJ (RD Rep) (timesK f p n) (timesD g q n) := by
  unfold timesK timesD
  rw [runN_eq (o := fDN) (e := beqA Nat.beq) forceK_eq]
  exact times_rel relD hf hp n _ ⟨hf.one, hf.one, rd_zero⟩

def gN : GO Nat := gOf fN Nat.beq timesN
def gK : GO (DN Nat) := gOf fDN (beqA Nat.beq) timesK
theorem gN_rel : GRel Rep gN gaOW := g_rel relW timesN_rel
theorem gK_rel : GRel (RD Rep) gK gaOD := g_rel relD timesK_rel

def flN : Fl Nat := ⟨oneN, toN 4⟩
def flK : Fl (DN Nat) := ⟨⟨oneN, 0⟩, ⟨toN 4, toN 4⟩⟩
theorem four_val : (ofW 4#64).val = 4 := by decide +kernel
theorem four_rep : Rep (toN 4) (toW (ofW 4#64)) := by
  have := rep_to (ofW 4#64)
  rw [four_val] at this
  exact this
theorem flN_rel : RFl Rep flN fld1 := ⟨rep_one, four_rep⟩
theorem flK_rel : RFl (RD Rep) flK fld2 := ⟨rd_one, ⟨four_rep, four_rep⟩⟩

def inN (p : Ap W6) : Ap Nat := ⟨toN p.x.val, toN p.y.val, p.zero⟩
def inK (p : Ap D6) : Ap (DN Nat) := ⟨⟨toN p.x.a.val, toN p.x.b.val⟩, ⟨toN p.y.a.val, toN p.y.b.val⟩, p.zero⟩
theorem inP_rel (t : Nat → Nat) (t' : W6 → W6) (h : ∀ a : W6, Rep (t a.val) (t' a)) (p : Ap W6) : RA Rep ⟨t p.x.val, t p.y.val, p.zero⟩ ⟨t' p.x, t' p.y, p.zero⟩ := ⟨h _, h _, rfl⟩
theorem inN_rel (p : Ap W6) : RA Rep (inN p) (inP1 p) := by
  unfold inN inP1
  exact inP_rel toN toW rep_to p
theorem to2_rel (o : FO W6) (t : Nat → Nat) (h : ∀ a : W6, Rep (t a.val) (o.to a)) (x : D6) : RD Rep ⟨t x.a.val, t x.b.val⟩ (to2 o x) := ⟨h _, h _⟩
theorem fW_to : fW.to = toW := by simp only [fW]
theorem fW_back : fW.back = fromW := by simp only [fW]
theorem inK_rel (p : Ap D6) : RA (RD Rep) (inK p) (inP2 p) := ⟨to2_rel fW toN (fun a => by rw [fW_to]; exact rep_to a) p.x, to2_rel fW toN (fun a => by rw [fW_to]; exact rep_to a) p.y, rfl⟩

/-- A point that is told again. -/
theorem outN_eq {p : Ap Nat} {q r : Ap W6} (h : RA Rep p q) (hx : backN p.x = r.x.val) (hy : backN p.y = r.y.val) (hz : p.zero = r.zero) : outP1 q = r := by
  obtain ⟨rx, ry, rz⟩ := r
  have e1 : fromW q.x = rx := W6.val_inj (by rw [rep_back h.x]; exact hx)
  have e2 : fromW q.y = ry := W6.val_inj (by rw [rep_back h.y]; exact hy)
  unfold outP1
  rw [e1, e2, ← h.z, hz]
theorem back2_eq (o : FO W6) (b : Nat → Nat) (h : ∀ {a : Nat} {w : W6}, Rep a w → (o.back w).val = b a) {p : DN Nat} {q r : D6} (hp : RD Rep p q) (h1 : b p.a = r.a.val) (h2 : b p.b = r.b.val) : back2 o q = r := by
  obtain ⟨ra, rb⟩ := r
  have e1 : o.back q.a = ra := W6.val_inj (by rw [h hp.a]; exact h1)
  have e2 : o.back q.b = rb := W6.val_inj (by rw [h hp.b]; exact h2)
  unfold back2
  rw [e1, e2]
theorem outK_eq {p : Ap (DN Nat)} {q r : Ap D6} (h : RA (RD Rep) p q) (h1 : backN p.x.a = r.x.a.val) (h2 : backN p.x.b = r.x.b.val) (h3 : backN p.y.a = r.y.a.val) (h4 : backN p.y.b = r.y.b.val) (hz : p.zero = r.zero) : outP2 q = r := by
  have e1 := back2_eq fW backN (fun {a w} h => by rw [fW_back]; exact rep_back h) h.x h1 h2
  have e2 := back2_eq fW backN (fun {a w} h => by rw [fW_back]; exact rep_back h) h.y h3 h4
  unfold outP2
  obtain ⟨rx, ry, rz⟩ := r
  rw [e1, e2, ← h.z, hz]

/-! What is reckoned, and what is told. -/
def tellN (x : Ap Nat × Int) : Ap Nat × Int := (⟨backN x.1.x, backN x.1.y, x.1.zero⟩, x.2)
def tellK (x : Ap (DN Nat) × Int) : Ap (DN Nat) × Int := (⟨⟨backN x.1.x.a, backN x.1.x.b⟩, ⟨backN x.1.y.a, backN x.1.y.b⟩, x.1.zero⟩, x.2)
def litN (r : Ap W6) : Ap Nat := ⟨r.x.val, r.y.val, r.zero⟩
def litK (r : Ap D6) : Ap (DN Nat) := ⟨⟨r.x.a.val, r.x.b.val⟩, ⟨r.y.a.val, r.y.b.val⟩, r.zero⟩

theorem mul1_of {p r : Ap W6} {n : W6} {err : Int} (hb : belowP1 p = true) (h : tellN (ga1 gN 0 flN (inN p) n) = (litN r, err)) : sumP1W p n = (r, err) := by
  obtain ⟨h1, h2⟩ := ga1_rel gN_rel rep_zero flN_rel (inN_rel p) n
  have e := Prod.mk.inj h
  obtain ⟨e1, e2⟩ := e
  have e3 := Ap.mk.inj e1
  have ho := outN_eq (r := r) h1 e3.1 e3.2.1 e3.2.2
  have hs : sumP1W p n = bif belowP1 p then (outP1 (gath1W fld1 (inP1 p) n).1, (gath1W fld1 (inP1 p) n).2) else (⟨zeroW, zeroW, false⟩, 5) := by unfold sumP1W sm1 suOW; rfl
  rw [hs, hb, cond_true]
  have hg : gath1W fld1 (inP1 p) n = ga1 gaOW zeroW fld1 (inP1 p) n := by unfold gath1W; rfl
  rw [hg, ho, ← h2]
  exact congrArg (Prod.mk r) e2

theorem add1_of {p q r : Ap W6} {err : Int} (hb : belowP1 p = true) (hc : belowP1 q = true) (h : tellN (ga2 gN 0 flN (inN p, inN q) (ofW (bitW true), ofW (bitW true))) = (litN r, err)) : addP1 p q = (r, err) := by
  obtain ⟨h1, h2⟩ := ga2_rel gN_rel rep_zero flN_rel (x := (inN p, inN q)) (y := (inP1 p, inP1 q)) (inN_rel p) (inN_rel q) (ofW (bitW true), ofW (bitW true))
  have e := Prod.mk.inj h
  obtain ⟨e1, e2⟩ := e
  have e3 := Ap.mk.inj e1
  have ho := outN_eq (r := r) h1 e3.1 e3.2.1 e3.2.2
  have hs : addP1 p q = bif belowP1 p then (bif belowP1 q then (outP1 (gath2W fld1 (inP1 p, inP1 q) (ofW (bitW true), ofW (bitW true))).1, (gath2W fld1 (inP1 p, inP1 q) (ofW (bitW true), ofW (bitW true))).2) else (⟨zeroW, zeroW, false⟩, 5)) else (⟨zeroW, zeroW, false⟩, 5) := by
    unfold addP1 sumP2W sm2 suOW; rfl
  rw [hs, hb, hc, cond_true, cond_true]
  have hg : gath2W fld1 (inP1 p, inP1 q) (ofW (bitW true), ofW (bitW true)) = ga2 gaOW zeroW fld1 (inP1 p, inP1 q) (ofW (bitW true), ofW (bitW true)) := by unfold gath2W; rfl
  rw [hg, ho, ← h2]
  exact congrArg (Prod.mk r) e2

theorem mul2_of {p r : Ap D6} {n : W6} {err : Int} (hb : belowP2 p = true) (h : tellK (ga1 gK ⟨0, 0⟩ flK (inK p) n) = (litK r, err)) : sumP1D p n = (r, err) := by
  obtain ⟨h1, h2⟩ := ga1_rel gK_rel rd_zero flK_rel (inK_rel p) n
  have e := Prod.mk.inj h
  obtain ⟨e1, e2⟩ := e
  have e3 := Ap.mk.inj e1
  have e4 := DN.mk.inj e3.1
  have e5 := DN.mk.inj e3.2.1
  have ho := outK_eq (r := r) h1 e4.1 e4.2 e5.1 e5.2 e3.2.2
  have hs : sumP1D p n = bif belowP2 p then (outP2 (gath1D fld2 (inP2 p) n).1, (gath1D fld2 (inP2 p) n).2) else (⟨zero2, zero2, false⟩, 5) := by unfold sumP1D sm1 suOD; rfl
  rw [hs, hb, cond_true]
  have hg : gath1D fld2 (inP2 p) n = ga1 gaOD zero2 fld2 (inP2 p) n := by unfold gath1D; rfl
  rw [hg, ho, ← h2]
  exact congrArg (Prod.mk r) e2

theorem check1_of (p : Ap W6) : checkP1 p = bif belowP1 p then onE fN Nat.beq flN (inN p) else false := by
  unfold checkP1
  rw [on_rel relW flN_rel (inN_rel p)]
theorem check2_of (p : Ap D6) : checkP2 p = bif belowP2 p then onE fDN (beqA Nat.beq) flK (inK p) else false := by
  unfold checkP2
  rw [on_rel relD flK_rel (inK_rel p)]
theorem in1_of (p : Ap W6) : inGroup1 p = bif belowP1 p then (bif onE fN Nat.beq flN (inN p) then (lowerE fN Nat.beq (timesN flN (raiseJ fN flN (inN p)) orderW)).zero else false) else false := by
  unfold inGroup1 inEW inGW lowFW
  rw [on_rel relW flN_rel (inN_rel p), (lower_rel relW (timesN_rel flN_rel (raise_rel relW flN_rel (inN_rel p)) orderW)).z]
theorem neg1_of {p r : Ap W6} (hc : checkP1 p = true) (hx : backN (inN p).x = r.x.val) (hy : backN (subN 0 (inN p).y) = r.y.val) (hz : p.zero = r.zero) : negP1 p = (r, 0) := by
  have hn := neg_rel relW (inN_rel p)
  unfold negP1
  rw [hc, outN_eq (r := r) hn hx (by unfold negE; rw [fN_sub]; exact hy) hz]
  rfl
end Go.Rq

/- Numbers out of text: gone through where they are called. -/
namespace Go.Rq
open Go Go.Proofs

theorem ibs_ok : CallOk PR 191 (fn2 kStr (kInt .u8) (kInt .i64) idxByte) :=
  .inr (ext2 (fn := Tryz.f191) (by kernel_rfl) (by kernel_rfl) (by kernel_rfl) (by kernel_rfl) (r := Extern.BytealgIndexByte.indexByte) (by kernel_rfl) idxByte_run)
def ibT (X : ByteArray → Int → Int) : PureTab := [(191, fn2 kStr (kInt .u8) (kInt .i64) X), (185, fn2 kStr (kInt .u8) (kInt .i64) X)]
theorem ib1_run (X : ByteArray → Int → Int) (s : ByteArray) (b : Int) : (afunR PR (envOf eqsT [(191, fn2 kStr (kInt .u8) (kInt .i64) X)]) [] (fun _ => none) 40 185 [kStr.enc s, (kInt .u8).enc b]).strict = .leaf ((kInt .i64).enc (X s b)) := by kernel_rfl
theorem ib2_run (X : ByteArray → Int → Int) (s : ByteArray) (b : Int) : (afunR PR (envOf eqsT [(185, fn2 kStr (kInt .u8) (kInt .i64) X)]) [] (fun _ => none) 40 147 [kStr.enc s, (kInt .u8).enc b]).strict = .leaf ((kInt .i64).enc (X s b)) := by kernel_rfl
def ib1T : PureTab := [(191, fn2 kStr (kInt .u8) (kInt .i64) idxByte)]
theorem ib1T_ok : TabPOk PR ib1T := TabPOk.cons ibs_ok TabPOk.nil
theorem ib1_ctx : Ctx PR (envOf eqsT ib1T) [] (fun _ => none) 40 185 :=
  ctx_of (envOf_ok eqsT_ok ib1T_ok) mixed (fn := Tryz.f185) (by kernel_rfl) (by kernel_rfl) (by kernel_rfl) (tabOk_none _)
theorem ib1_ok : CallOk PR 185 (fn2 kStr (kInt .u8) (kInt .i64) idxByte) :=
  .inl ⟨enters_of (fn := Tryz.f185) (by kernel_rfl) (by kernel_rfl) (by kernel_rfl), pure2 ib1_ctx (fun s b => leafVal (B := kInt .i64) (y := idxByte s b) (ib1_run idxByte s b))⟩
def ib2T : PureTab := [(185, fn2 kStr (kInt .u8) (kInt .i64) idxByte)]
theorem ib2T_ok : TabPOk PR ib2T := TabPOk.cons ib1_ok TabPOk.nil
theorem ib2_ctx : Ctx PR (envOf eqsT ib2T) [] (fun _ => none) 40 147 :=
  ctx_of (envOf_ok eqsT_ok ib2T_ok) mixed (fn := Tryz.f147) (by kernel_rfl) (by kernel_rfl) (by kernel_rfl) (tabOk_none _)
theorem ib2_ok : CallOk PR 147 (fn2 kStr (kInt .u8) (kInt .i64) idxByte) :=
  .inl ⟨enters_of (fn := Tryz.f147) (by kernel_rfl) (by kernel_rfl) (by kernel_rfl), pure2 ib2_ctx (fun s b => leafVal (B := kInt .i64) (y := idxByte s b) (ib2_run idxByte s b))⟩
end Go.Rq

/- Numbers out of text: shift by four; the text's digits; a generator's number is gone through where it is told. -/
namespace Go.Rq
open Go Go.Proofs
def shift4 (a : W6) : W6 := ⟨a.w0 <<< 4, a.w1 <<< 4 ||| a.w0 >>> 60, a.w2 <<< 4 ||| a.w1 >>> 60, a.w3 <<< 4 ||| a.w2 >>> 60, a.w4 <<< 4 ||| a.w3 >>> 60, a.w5 <<< 4 ||| a.w4 >>> 60⟩
set_option maxRecDepth 100000 in
theorem shift4_run (a : W6) : (afunR PR (envOf eqsT []) [] (fun _ => none) 40 44 [c6.agg.enc a, (kInt .i64).enc 4]).strict = .leaf (c6.agg.enc (shift4 a)) := by kernel_rfl

/-- One number alone. -/
def kAt (k : IntKind) (n : Int) : Cod Unit where
  enc _ := .v (.int k n)
  dec a := match a with
    | .v (.int k' m) => match decide (k' = k ∧ m = n) with
      | true => some ()
      | false => none
    | _ => none
  val _ := .int k n
  h1 _ := rfl
  h2 ρ a v x h r := by
    split at h
    · rename_i k' m
      split at h
      · rename_i e
        obtain ⟨rfl, rfl⟩ := of_decide_eq_true e
        cases r
        rfl
      · cases h
    · cases h

theorem shift_ctx : Ctx PR (envOf eqsT []) [] (fun _ => none) 40 44 :=
  ctx_of (envOf_ok eqsT_ok TabPOk.nil) mixed (fn := Tryz.f44) (by kernel_rfl) (by kernel_rfl) (by kernel_rfl) (tabOk_none _)
theorem shift_ok : CallOk PR 44 (fn2 c6.agg (kAt .i64 4) c6.agg (fun a _ => shift4 a)) :=
  .inl ⟨enters_of (fn := Tryz.f44) (by kernel_rfl) (by kernel_rfl) (by kernel_rfl), pure2 (C := kAt .i64 4) shift_ctx (fun a _ => leafVal (B := c6.agg) (y := shift4 a) (shift4_run a))⟩

def parseT : PureTab := [(44, fn2 c6.agg (kAt .i64 4) c6.agg (fun a _ => shift4 a)), (147, fn2 kStr (kInt .u8) (kInt .i64) idxByte)]
theorem parseT_ok : TabPOk PR parseT := TabPOk.cons shift_ok (TabPOk.cons ib2_ok TabPOk.nil)
theorem parse_ctx : Ctx PR (envOf eqsT parseT) [] (fun _ => none) 110 97 :=
  ctx_of (envOf_ok eqsT_ok parseT_ok) mixed (fn := Tryz.f97) (by kernel_rfl) (by kernel_rfl) (by kernel_rfl) (tabOk_none _)
end Go.Rq

/- The generators' numbers, gone through out of their texts. -/
namespace Go.Rq
open Go Go.Proofs

def genS0 : ByteArray := ⟨#[49, 55, 102, 49, 100, 51, 97, 55, 51, 49, 57, 55, 100, 55, 57, 52, 50, 54, 57, 53, 54, 51, 56, 99, 52, 102, 97, 57, 97, 99, 48, 102, 99, 51, 54, 56, 56, 99, 52, 102, 57, 55, 55, 52, 98, 57, 48, 53, 97, 49, 52, 101, 51, 97, 51, 102, 49, 55, 49, 98, 97, 99, 53, 56, 54, 99, 53, 53, 101, 56, 51, 102, 102, 57, 55, 97, 49, 97, 101, 102, 102, 98, 51, 97, 102, 48, 48, 97, 100, 98, 50, 50, 99, 54, 98, 98]⟩
def genN0 : W6 := ⟨0xfb3af00adb22c6bb#64, 0x6c55e83ff97a1aef#64, 0xa14e3a3f171bac58#64, 0xc3688c4f9774b905#64, 0x2695638c4fa9ac0f#64, 0x17f1d3a73197d794#64⟩
def genS1 : ByteArray := ⟨#[56, 98, 51, 102, 52, 56, 49, 101, 51, 97, 97, 97, 48, 102, 49, 97, 48, 57, 101, 51, 48, 101, 100, 55, 52, 49, 100, 56, 97, 101, 52, 102, 99, 102, 53, 101, 48, 57, 53, 100, 53, 100, 48, 48, 97, 102, 54, 48, 48, 100, 98, 49, 56, 99, 98, 50, 99, 48, 52, 98, 51, 101, 100, 100, 48, 51, 99, 99, 55, 52, 52, 97, 50, 56, 56, 56, 97, 101, 52, 48, 99, 97, 97, 50, 51, 50, 57, 52, 54, 99, 53, 101, 55, 101, 49]⟩
def genN1 : W6 := ⟨0xcaa232946c5e7e1#64, 0xd03cc744a2888ae4#64, 0xdb18cb2c04b3ed#64, 0xfcf5e095d5d00af6#64, 0xa09e30ed741d8ae4#64, 0x8b3f481e3aaa0f1#64⟩
def genS2 : ByteArray := ⟨#[50, 52, 97, 97, 50, 98, 50, 102, 48, 56, 102, 48, 97, 57, 49, 50, 54, 48, 56, 48, 53, 50, 55, 50, 100, 99, 53, 49, 48, 53, 49, 99, 54, 101, 52, 55, 97, 100, 52, 102, 97, 52, 48, 51, 98, 48, 50, 98, 52, 53, 49, 48, 98, 54, 52, 55, 97, 101, 51, 100, 49, 55, 55, 48, 98, 97, 99, 48, 51, 50, 54, 97, 56, 48, 53, 98, 98, 101, 102, 100, 52, 56, 48, 53, 54, 99, 56, 99, 49, 50, 49, 98, 100, 98, 56]⟩
def genN2 : W6 := ⟨0xd48056c8c121bdb8#64, 0xbac0326a805bbef#64, 0xb4510b647ae3d177#64, 0xc6e47ad4fa403b02#64, 0x260805272dc51051#64, 0x24aa2b2f08f0a91#64⟩
def genS3 : ByteArray := ⟨#[49, 51, 101, 48, 50, 98, 54, 48, 53, 50, 55, 49, 57, 102, 54, 48, 55, 100, 97, 99, 100, 51, 97, 48, 56, 56, 50, 55, 52, 102, 54, 53, 53, 57, 54, 98, 100, 48, 100, 48, 57, 57, 50, 48, 98, 54, 49, 97, 98, 53, 100, 97, 54, 49, 98, 98, 100, 99, 55, 102, 53, 48, 52, 57, 51, 51, 52, 99, 102, 49, 49, 50, 49, 51, 57, 52, 53, 100, 53, 55, 101, 53, 97, 99, 55, 100, 48, 53, 53, 100, 48, 52, 50, 98, 55, 101]⟩
def genN3 : W6 := ⟨0xe5ac7d055d042b7e#64, 0x334cf11213945d57#64, 0xb5da61bbdc7f5049#64, 0x596bd0d09920b61a#64, 0x7dacd3a088274f65#64, 0x13e02b6052719f60#64⟩
def genS4 : ByteArray := ⟨#[99, 101, 53, 100, 53, 50, 55, 55, 50, 55, 100, 54, 101, 49, 49, 56, 99, 99, 57, 99, 100, 99, 54, 100, 97, 50, 101, 51, 53, 49, 97, 97, 100, 102, 100, 57, 98, 97, 97, 56, 99, 98, 100, 100, 51, 97, 55, 54, 100, 52, 50, 57, 97, 54, 57, 53, 49, 54, 48, 100, 49, 50, 99, 57, 50, 51, 97, 99, 57, 99, 99, 51, 98, 97, 99, 97, 50, 56, 57, 101, 49, 57, 51, 53, 52, 56, 54, 48, 56, 98, 56, 50, 56, 48, 49]⟩
def genN4 : W6 := ⟨0xe193548608b82801#64, 0x923ac9cc3baca289#64, 0x6d429a695160d12c#64, 0xadfd9baa8cbdd3a7#64, 0x8cc9cdc6da2e351a#64, 0xce5d527727d6e11#64⟩
def genS5 : ByteArray := ⟨#[54, 48, 54, 99, 52, 97, 48, 50, 101, 97, 55, 51, 52, 99, 99, 51, 50, 97, 99, 100, 50, 98, 48, 50, 98, 99, 50, 56, 98, 57, 57, 99, 98, 51, 101, 50, 56, 55, 101, 56, 53, 97, 55, 54, 51, 97, 102, 50, 54, 55, 52, 57, 50, 97, 98, 53, 55, 50, 101, 57, 57, 97, 98, 51, 102, 51, 55, 48, 100, 50, 55, 53, 99, 101, 99, 49, 100, 97, 49, 97, 97, 97, 57, 48, 55, 53, 102, 102, 48, 53, 102, 55, 57, 98, 101]⟩
def genN5 : W6 := ⟨0xaaa9075ff05f79be#64, 0x3f370d275cec1da1#64, 0x267492ab572e99ab#64, 0xcb3e287e85a763af#64, 0x32acd2b02bc28b99#64, 0x606c4a02ea734cc#64⟩
def kNE : Cod (W6 × Int) := kTup c6.agg (kInt .i64) (fun _ => rfl) (fun _ => rfl)
set_option maxRecDepth 1000000 in
theorem genP0 : (afunR PR (envOf eqsT parseT) [] (fun _ => none) 110 97 [kStr.enc genS0]).strict = .leaf (kNE.enc (genN0, 0)) := by kernel_rfl
set_option maxRecDepth 1000000 in
theorem genP1 : (afunR PR (envOf eqsT parseT) [] (fun _ => none) 110 97 [kStr.enc genS1]).strict = .leaf (kNE.enc (genN1, 0)) := by kernel_rfl
set_option maxRecDepth 1000000 in
theorem genP2 : (afunR PR (envOf eqsT parseT) [] (fun _ => none) 110 97 [kStr.enc genS2]).strict = .leaf (kNE.enc (genN2, 0)) := by kernel_rfl
set_option maxRecDepth 1000000 in
theorem genP3 : (afunR PR (envOf eqsT parseT) [] (fun _ => none) 110 97 [kStr.enc genS3]).strict = .leaf (kNE.enc (genN3, 0)) := by kernel_rfl
set_option maxRecDepth 1000000 in
theorem genP4 : (afunR PR (envOf eqsT parseT) [] (fun _ => none) 110 97 [kStr.enc genS4]).strict = .leaf (kNE.enc (genN4, 0)) := by kernel_rfl
set_option maxRecDepth 1000000 in
theorem genP5 : (afunR PR (envOf eqsT parseT) [] (fun _ => none) 110 97 [kStr.enc genS5]).strict = .leaf (kNE.enc (genN5, 0)) := by kernel_rfl

def eqStr (a b : ByteArray) : Bool := a.data.toList == b.data.toList
theorem eqStr_ok (a b : ByteArray) (h : eqStr a b = true) : a = b := by
  have h := eq_of_beq h
  cases a; cases b
  simp at h
  rw [h]
def genT : List (ByteArray × (W6 × Int)) := [(genS0, (genN0, 0)), (genS1, (genN1, 0)), (genS2, (genN2, 0)), (genS3, (genN3, 0)), (genS4, (genN4, 0)), (genS5, (genN5, 0))]
theorem parse_ok : CallOk PR 97 (fnT1 kStr kNE eqStr genT) :=
  .inl ⟨enters_of (fn := Tryz.f97) (by kernel_rfl) (by kernel_rfl) (by kernel_rfl), tabT1 (B := kNE) parse_ctx eqStr_ok (fun p hp => by
    simp only [genT, List.mem_cons, List.not_mem_nil, or_false] at hp
    rcases hp with rfl | rfl | rfl | rfl | rfl | rfl
    · exact leafVal (B := kNE) genP0
    · exact leafVal (B := kNE) genP1
    · exact leafVal (B := kNE) genP2
    · exact leafVal (B := kNE) genP3
    · exact leafVal (B := kNE) genP4
    · exact leafVal (B := kNE) genP5)⟩

def numT : PureTab := [(97, fnT1 kStr kNE eqStr genT)]
theorem numT_ok : TabPOk PR numT := TabPOk.cons parse_ok TabPOk.nil
theorem num_ctx : Ctx PR (envOf eqsT numT) [] (fun _ => none) 40 82 :=
  ctx_of (envOf_ok eqsT_ok numT_ok) mixed (fn := Tryz.f82) (by kernel_rfl) (by kernel_rfl) (by kernel_rfl) (tabOk_none _)
def genU : List (ByteArray × W6) := [(genS0, genN0), (genS1, genN1), (genS2, genN2), (genS3, genN3), (genS4, genN4), (genS5, genN5)]
theorem genQ0 : (afunR PR (envOf eqsT numT) [] (fun _ => none) 40 82 [kStr.enc genS0]).strict = .leaf (c6.agg.enc genN0) := by kernel_rfl
theorem genQ1 : (afunR PR (envOf eqsT numT) [] (fun _ => none) 40 82 [kStr.enc genS1]).strict = .leaf (c6.agg.enc genN1) := by kernel_rfl
theorem genQ2 : (afunR PR (envOf eqsT numT) [] (fun _ => none) 40 82 [kStr.enc genS2]).strict = .leaf (c6.agg.enc genN2) := by kernel_rfl
theorem genQ3 : (afunR PR (envOf eqsT numT) [] (fun _ => none) 40 82 [kStr.enc genS3]).strict = .leaf (c6.agg.enc genN3) := by kernel_rfl
theorem genQ4 : (afunR PR (envOf eqsT numT) [] (fun _ => none) 40 82 [kStr.enc genS4]).strict = .leaf (c6.agg.enc genN4) := by kernel_rfl
theorem genQ5 : (afunR PR (envOf eqsT numT) [] (fun _ => none) 40 82 [kStr.enc genS5]).strict = .leaf (c6.agg.enc genN5) := by kernel_rfl
theorem num_ok : CallOk PR 82 (fnT1 kStr c6.agg eqStr genU) :=
  .inl ⟨enters_of (fn := Tryz.f82) (by kernel_rfl) (by kernel_rfl) (by kernel_rfl), tabT1 (B := c6.agg) num_ctx eqStr_ok (fun p hp => by
    simp only [genU, List.mem_cons, List.not_mem_nil, or_false] at hp
    rcases hp with rfl | rfl | rfl | rfl | rfl | rfl
    · exact leafVal (B := c6.agg) genQ0
    · exact leafVal (B := c6.agg) genQ1
    · exact leafVal (B := c6.agg) genQ2
    · exact leafVal (B := c6.agg) genQ3
    · exact leafVal (B := c6.agg) genQ4
    · exact leafVal (B := c6.agg) genQ5)⟩

def genT1 : PureTab := [(82, fnT1 kStr c6.agg eqStr genU)]
theorem genT1_ok : TabPOk PR genT1 := TabPOk.cons num_ok TabPOk.nil
def gen1P : Ap W6 := ⟨genN0, genN1, false⟩
def gen2P : Ap D6 := ⟨⟨genN2, genN3⟩, ⟨genN4, genN5⟩, false⟩
theorem gen1_ctx : Ctx PR (envOf eqsT genT1) [] (fun _ => none) 40 83 :=
  ctx_of (envOf_ok eqsT_ok genT1_ok) mixed (fn := Tryz.f83) (by kernel_rfl) (by kernel_rfl) (by kernel_rfl) (tabOk_none _)
theorem gen1_run : (afunR PR (envOf eqsT genT1) [] (fun _ => none) 40 83 []).strict = .leaf (.agg (c6.enc genN0 ++ (c6.enc genN1 ++ [.lit false]))) := by kernel_rfl
theorem gen1_ok : CallOk PR 83 (fn0 (cAp c6).agg gen1P) :=
  .inl ⟨enters_of (fn := Tryz.f83) (by kernel_rfl) (by kernel_rfl) (by kernel_rfl), pure0 gen1_ctx (givesOf gen1_run (holds_leaf (apFlatW _ _ _)))⟩
theorem gen2_ctx : Ctx PR (envOf eqsT genT1) [] (fun _ => none) 40 29 :=
  ctx_of (envOf_ok eqsT_ok genT1_ok) mixed (fn := Tryz.f29) (by kernel_rfl) (by kernel_rfl) (by kernel_rfl) (tabOk_none _)
theorem gen2_run : (afunR PR (envOf eqsT genT1) [] (fun _ => none) 40 29 []).strict = .leaf (.agg (c12.enc ⟨genN2, genN3⟩ ++ (c12.enc ⟨genN4, genN5⟩ ++ [.lit false]))) := by kernel_rfl
theorem gen2_ok : CallOk PR 29 (fn0 (cAp c12).agg gen2P) :=
  .inl ⟨enters_of (fn := Tryz.f29) (by kernel_rfl) (by kernel_rfl) (by kernel_rfl), pure0 gen2_ctx (givesOf gen2_run (holds_leaf (apFlatD _ _ _)))⟩
end Go.Rq

/- What the functions on points answer at the chapter's examples. -/
namespace Go.Rq
open Go Go.Proofs

def zeroP : Ap W6 := ⟨zeroW, zeroW, true⟩
def errP : Ap W6 := ⟨zeroW, zeroW, false⟩
def oddP : Ap W6 := ⟨zeroW, ofW 2#64, false⟩
def badP : Ap W6 := ⟨ofW 1#64, zeroW, true⟩
def offP : Ap W6 := ⟨ofW 1#64, ofW 1#64, false⟩
def ngP : Ap W6 := ⟨⟨0xfb3af00adb22c6bb#64, 0x6c55e83ff97a1aef#64, 0xa14e3a3f171bac58#64, 0xc3688c4f9774b905#64, 0x2695638c4fa9ac0f#64, 0x17f1d3a73197d794#64⟩, ⟨0xad54dcd6b939c2ca#64, 0x4e6f38ba0ecb751b#64, 0x6655b9d5caac4236#64, 0x67816aef1db507c9#64, 0xaa7d76c8cf2e21f2#64, 0x114d1d6855d545a8#64⟩, false⟩
def dbP : Ap W6 := ⟨⟨0xc39a8c5529bf0f4e#64, 0xe28f75bb8f1c7c42#64, 0x43902d0ac358a62a#64, 0x9721db3091280125#64, 0x8808c8eb50a9450c#64, 0x572cbea904d6746#64⟩, ⟨0xba86881979749d28#64, 0x4c56d9d4cd16bd1b#64, 0xf73bb9021d5fd76a#64, 0x22ba3ecb8670e461#64, 0x22fda673779d8e38#64, 0x166a9d8cabc673a3#64⟩, false⟩
def moreW : W6 := ⟨0xffffffff00000002#64, 0x53bda402fffe5bfe#64, 0x3339d80809a1d805#64, 0x73eda753299d7d48#64, 0x0#64, 0x0#64⟩
set_option maxRecDepth 1000000 in
theorem below_gen : belowP1 gen1P = true := by kernel_rfl
set_option maxRecDepth 1000000 in
theorem check_gen : checkP1 gen1P = true := by
  rw [check1_of]; kernel_rfl
set_option maxRecDepth 1000000 in
theorem below_zero : belowP1 zeroP = true := by kernel_rfl
set_option maxRecDepth 1000000 in
theorem check_zero : checkP1 zeroP = true := by
  rw [check1_of]; kernel_rfl
set_option maxRecDepth 1000000 in
theorem below_odd : belowP1 oddP = true := by kernel_rfl
set_option maxRecDepth 1000000 in
theorem check_odd : checkP1 oddP = true := by
  rw [check1_of]; kernel_rfl
set_option maxRecDepth 1000000 in
theorem below_bad : belowP1 badP = true := by kernel_rfl
set_option maxRecDepth 1000000 in
theorem check_bad : checkP1 badP = false := by
  rw [check1_of]; kernel_rfl
set_option maxRecDepth 1000000 in
theorem below_off : belowP1 offP = true := by kernel_rfl
set_option maxRecDepth 1000000 in
theorem check_off : checkP1 offP = false := by
  rw [check1_of]; kernel_rfl
set_option maxRecDepth 1000000 in
theorem in_gen : inGroup1 gen1P = true := by
  rw [in1_of]; kernel_rfl
set_option maxRecDepth 1000000 in
theorem in_odd : inGroup1 oddP = false := by
  rw [in1_of]; kernel_rfl
set_option maxRecDepth 1000000 in
theorem below_ng : belowP1 ngP = true := by kernel_rfl
set_option maxRecDepth 1000000 in
theorem neg_gen : negP1 gen1P = (ngP, 0) := neg1_of check_gen (by kernel_rfl) (by kernel_rfl) rfl
set_option maxRecDepth 1000000 in
theorem add_ng : addP1 gen1P ngP = (zeroP, 0) := add1_of below_gen below_ng (by kernel_rfl)
set_option maxRecDepth 1000000 in
theorem add_off : addP1 gen1P offP = (errP, 5) := add1_of below_gen below_off (by kernel_rfl)
set_option maxRecDepth 1000000 in
theorem add_gen : addP1 gen1P gen1P = (dbP, 0) := add1_of below_gen below_gen (by kernel_rfl)
set_option maxRecDepth 1000000 in
theorem mul_zero : sumP1W gen1P zeroW = (zeroP, 0) := mul1_of below_gen (by kernel_rfl)
set_option maxRecDepth 1000000 in
theorem mul_order : sumP1W gen1P orderW = (zeroP, 0) := mul1_of below_gen (by kernel_rfl)
set_option maxRecDepth 1000000 in
theorem mul_two : sumP1W gen1P (ofW 2#64) = (dbP, 0) := mul1_of below_gen (by kernel_rfl)
set_option maxRecDepth 1000000 in
theorem below_gen2 : belowP2 gen2P = true := by kernel_rfl
set_option maxRecDepth 1000000 in
theorem check_gen2 : checkP2 gen2P = true := by
  rw [check2_of]; kernel_rfl
set_option maxRecDepth 1000000 in
theorem mul_more : sumP1D gen2P moreW = (gen2P, 0) := mul2_of below_gen2 (by kernel_rfl)
end Go.Rq

/- The functions at the chapter's examples. -/
namespace Go.Rq
open Go Go.Proofs

def eqAp (a b : Ap W6) : Bool := bif eqW a.x b.x then (bif eqW a.y b.y then a.zero == b.zero else false) else false
theorem eqAp_ok (a b : Ap W6) (h : eqAp a b = true) : a = b := by
  obtain ⟨ax, ay, az⟩ := a
  obtain ⟨bx, bw, bz⟩ := b
  unfold eqAp at h
  dsimp only at h
  cases h1 : eqW ax bx with
  | false => rw [h1] at h; cases h
  | true =>
    cases h2 : eqW ay bw with
    | false => rw [h1, h2] at h; cases h
    | true =>
      rw [h1, h2] at h
      have h3 : az = bz := by simpa using h
      rw [(eqW_iff _ _).1 h1, (eqW_iff _ _).1 h2, h3]
def eqAd (a b : Ap D6) : Bool := bif eqD a.x b.x then (bif eqD a.y b.y then a.zero == b.zero else false) else false
theorem eqAd_ok (a b : Ap D6) (h : eqAd a b = true) : a = b := by
  obtain ⟨ax, ay, az⟩ := a
  obtain ⟨bx, bw, bz⟩ := b
  unfold eqAd at h
  dsimp only at h
  cases h1 : eqD ax bx with
  | false => rw [h1] at h; cases h
  | true =>
    cases h2 : eqD ay bw with
    | false => rw [h1, h2] at h; cases h
    | true =>
      rw [h1, h2] at h
      have h3 : az = bz := by simpa using h
      rw [(eqD_iff _ _).1 h1, (eqD_iff _ _).1 h2, h3]
theorem eqW_ok (a b : W6) (h : eqW a b = true) : a = b := (eqW_iff a b).1 h

def tCheck1 : List (Ap W6 × Bool) := [(zeroP, true), (oddP, true), (badP, false), (offP, false), (gen1P, true)]
theorem tCheck1_ok : ∀ p ∈ tCheck1, checkP1 p.1 = p.2 := fun p hp => by
  simp only [tCheck1, List.mem_cons, List.not_mem_nil, or_false] at hp
  rcases hp with rfl | rfl | rfl | rfl | rfl
  · exact check_zero
  · exact check_odd
  · exact check_bad
  · exact check_off
  · exact check_gen
def tIn1 : List (Ap W6 × Bool) := [(gen1P, true), (oddP, false)]
theorem tIn1_ok : ∀ p ∈ tIn1, inGroup1 p.1 = p.2 := fun p hp => by
  simp only [tIn1, List.mem_cons, List.not_mem_nil, or_false] at hp
  rcases hp with rfl | rfl
  · exact in_gen
  · exact in_odd
def tNeg1 : List (Ap W6 × (Ap W6 × Int)) := [(gen1P, (ngP, 0))]
theorem tNeg1_ok : ∀ p ∈ tNeg1, negP1 p.1 = p.2 := fun p hp => by
  simp only [tNeg1, List.mem_cons, List.not_mem_nil, or_false] at hp
  rw [hp]
  exact neg_gen
def tAdd1 : List ((Ap W6 × Ap W6) × (Ap W6 × Int)) := [((gen1P, ngP), (zeroP, 0)), ((gen1P, offP), (errP, 5)), ((gen1P, gen1P), (dbP, 0))]
theorem tAdd1_ok : ∀ p ∈ tAdd1, addP1 p.1.1 p.1.2 = p.2 := fun p hp => by
  simp only [tAdd1, List.mem_cons, List.not_mem_nil, or_false] at hp
  rcases hp with rfl | rfl | rfl
  · exact add_ng
  · exact add_off
  · exact add_gen
def tMul1 : List ((Ap W6 × W6) × (Ap W6 × Int)) := [((gen1P, zeroW), (zeroP, 0)), ((gen1P, orderW), (zeroP, 0)), ((gen1P, ofW 2#64), (dbP, 0))]
theorem tMul1_ok : ∀ p ∈ tMul1, sumP1W p.1.1 p.1.2 = p.2 := fun p hp => by
  simp only [tMul1, List.mem_cons, List.not_mem_nil, or_false] at hp
  rcases hp with rfl | rfl | rfl
  · exact mul_zero
  · exact mul_order
  · exact mul_two
def tMul2 : List ((Ap D6 × W6) × (Ap D6 × Int)) := [((gen2P, moreW), (gen2P, 0))]
theorem tMul2_ok : ∀ p ∈ tMul2, sumP1D p.1.1 p.1.2 = p.2 := fun p hp => by
  simp only [tMul2, List.mem_cons, List.not_mem_nil, or_false] at hp
  rw [hp]
  exact mul_more
def tCheck2 : List (Ap D6 × Bool) := [(gen2P, true)]
theorem tCheck2_ok : ∀ p ∈ tCheck2, checkP2 p.1 = p.2 := fun p hp => by
  simp only [tCheck2, List.mem_cons, List.not_mem_nil, or_false] at hp
  rw [hp]
  exact check_gen2

/-! The sum of two numbers. -/
def wAddW (a b : W6) : W6 × Bool := ((adds a b).1, (adds a b).2 == true)
def wAddT : PureTab := [(171, fn3 kU kU kBit kUB add64)]
theorem wAddT_ok : TabPOk PR wAddT := TabPOk.cons add64_ok TabPOk.nil
theorem wadd_ctx : Ctx PR (envOf eqsT wAddT) [] (fun _ => none) 40 126 :=
  ctx_of (envOf_ok eqsT_ok wAddT_ok) mixed (fn := Tryz.f126) (by kernel_rfl) (by kernel_rfl) (by kernel_rfl) (tabOk_none _)
set_option maxRecDepth 100000 in
theorem wadd_run (a b : W6) : (afunR PR (envOf eqsT wAddT) [] (fun _ => none) 40 126 [c6.agg.enc a, c6.agg.enc b]).strict = .leaf (kWB.enc (wAddW a b)) := by kernel_rfl
theorem wadd_ok : CallOk PR 126 (fn2 c6.agg c6.agg kWB wAddW) :=
  .inl ⟨enters_of (fn := Tryz.f126) (by kernel_rfl) (by kernel_rfl) (by kernel_rfl), pure2 wadd_ctx (fun a b => leafVal (B := kWB) (y := wAddW a b) (wadd_run a b))⟩

/-! The digits of the generator. -/
def textT : PureTab := [(169, fn1 c6.agg (kInt .i64) lenI)]
theorem textT_ok : TabPOk PR textT := TabPOk.cons len_ok TabPOk.nil
noncomputable def textE : Env := envS eqsT textT [] [9]
theorem textE_ok : EnvOk PR textE := envS_ok eqsT_ok textT_ok TabHOk.nil
def tText : List (W6 × ByteArray) := [(genN0, genS0)]
/-! Sums of unlike lists. -/
noncomputable def gaV : Env := envH eqsT [] []
theorem gaV_ok : EnvOk PR gaV := envH_ok eqsT_ok TabPOk.nil TabHOk.nil
theorem gaV_ctx : Ctx PR gaV [] (fun _ => none) 10 164 :=
  ctx_of gaV_ok mixed (fn := Tryz.f164) (by kernel_rfl) (by kernel_rfl) (by kernel_rfl) (tabOk_none _)
noncomputable def suV : Env := envH eqsT (suTW suOW) [(164, viewG PR gaV [] 10 164)]
theorem suV_ok : EnvOk PR suV := envH_ok eqsT_ok suT_okW (TabHOk.cons ga_entW (view_ok gaV_ctx) TabHOk.nil)
theorem suV_ctx : Ctx PR suV [] (fun _ => none) 10 115 :=
  ctx_of suV_ok mixed (fn := Tryz.f115) (by kernel_rfl) (by kernel_rfl) (by kernel_rfl) (tabOk_none _)

/-! The functions, at the examples. -/
end Go.Rq

/- The reference's numbers of six words: contracts. -/
namespace Go.Rq
open Go Go.Proofs

/-! Which is the less. -/
theorem rcmp_ctx : Ctx PR (envOf eqsT []) [16, 23] (fun _ => none) 40 54 :=
  ctx_of (envOf_ok eqsT_ok TabPOk.nil) mixed (fn := Tryz.f54) (by kernel_rfl) (by kernel_rfl) (by kernel_rfl) (tabOk_none _)
theorem rcmp_run (a b : W6) : (afunR PR (envOf eqsT []) [16, 23] (fun _ => none) 40 54 [c6.agg.enc a, c6.agg.enc b]).strict = chain (kInt .i64) (cmpL a b) 0 := by kernel_rfl
theorem rcmp_ok : CallOk PR 54 (fn2 c6.agg c6.agg (kInt .i64) fun a b => chainV (cmpL a b) 0) :=
  .inl ⟨enters_of (fn := Tryz.f54) (by kernel_rfl) (by kernel_rfl) (by kernel_rfl), pure2 rcmp_ctx (fun a b => chainVal (rcmp_run a b))⟩

/-! Sum and difference. -/
def raC (x y c : BitVec 64) : BitVec 64 := bif (bif BitVec.ult (x + y + c) (x + y) then true else BitVec.ult (x + y) x) then bitW true else bitW false
def raddW (a b : W6) : W6 × Bool :=
  let c1 := raC a.w0 b.w0 (bitW false)
  let c2 := raC a.w1 b.w1 c1
  let c3 := raC a.w2 b.w2 c2
  let c4 := raC a.w3 b.w3 c3
  let c5 := raC a.w4 b.w4 c4
  let c6 := raC a.w5 b.w5 c5
  (⟨a.w0 + b.w0 + bitW false, a.w1 + b.w1 + c1, a.w2 + b.w2 + c2, a.w3 + b.w3 + c3, a.w4 + b.w4 + c4, a.w5 + b.w5 + c5⟩, c6 == bitW true)
noncomputable def raE : Env := envM eqsT [] [] [36, 37]
theorem raE_ok : EnvOk PR raE := envM_ok eqsT_ok TabPOk.nil TabHOk.nil
theorem radd_ctx : Ctx PR raE [] (fun _ => none) 40 110 :=
  ctx_of raE_ok mixed (fn := Tryz.f110) (by kernel_rfl) (by kernel_rfl) (by kernel_rfl) (tabOk_none _)
set_option maxRecDepth 100000 in
theorem radd_run (a b : W6) : (afunR PR raE [] (fun _ => none) 40 110 [c6.agg.enc a, c6.agg.enc b]).strict = .leaf (kWB.enc (raddW a b)) := by kernel_rfl
theorem radd_ok : CallOk PR 110 (fn2 c6.agg c6.agg kWB raddW) :=
  .inl ⟨enters_of (fn := Tryz.f110) (by kernel_rfl) (by kernel_rfl) (by kernel_rfl), pure2 radd_ctx (fun a b => leafVal (B := kWB) (y := raddW a b) (radd_run a b))⟩

def rsC (x y c : BitVec 64) : BitVec 64 := bif (bif BitVec.ult (x - y) c then true else BitVec.ult x y) then bitW true else bitW false
def rsubW (a b : W6) : W6 × Bool :=
  let c1 := rsC a.w0 b.w0 (bitW false)
  let c2 := rsC a.w1 b.w1 c1
  let c3 := rsC a.w2 b.w2 c2
  let c4 := rsC a.w3 b.w3 c3
  let c5 := rsC a.w4 b.w4 c4
  let c6 := rsC a.w5 b.w5 c5
  (⟨a.w0 - b.w0 - bitW false, a.w1 - b.w1 - c1, a.w2 - b.w2 - c2, a.w3 - b.w3 - c3, a.w4 - b.w4 - c4, a.w5 - b.w5 - c5⟩, c6 == bitW true)
theorem rsub_ctx : Ctx PR raE [] (fun _ => none) 40 111 :=
  ctx_of raE_ok mixed (fn := Tryz.f111) (by kernel_rfl) (by kernel_rfl) (by kernel_rfl) (tabOk_none _)
set_option maxRecDepth 100000 in
theorem rsub_run (a b : W6) : (afunR PR raE [] (fun _ => none) 40 111 [c6.agg.enc a, c6.agg.enc b]).strict = .leaf (kWB.enc (rsubW a b)) := by kernel_rfl
theorem rsub_ok : CallOk PR 111 (fn2 c6.agg c6.agg kWB rsubW) :=
  .inl ⟨enters_of (fn := Tryz.f111) (by kernel_rfl) (by kernel_rfl) (by kernel_rfl), pure2 rsub_ctx (fun a b => leafVal (B := kWB) (y := rsubW a b) (rsub_run a b))⟩

/-! A row of a product, written into eight words. -/
def cFa : CC (W6 × BitVec 64 × W6) := CC.prod c6 (CC.prod cU c6)
def c8 : CC (W6 × BitVec 64 × BitVec 64) := CC.prod c6 (CC.prod cU cU)
def rowG (M : BitVec 64 → BitVec 64 → BitVec 64 × BitVec 64) (S : BitVec 64 → BitVec 64 → Bool → BitVec 64 × Bool) (t : W6 × BitVec 64 × BitVec 64) (a : BitVec 64) (b : W6) : W6 × BitVec 64 × BitVec 64 :=
  let mc := fun (y u c : BitVec 64) => let p := M a y; let s := S p.2 u false; let h := p.1 + bitW s.2; let r := S s.1 c false; ((r.1, h + bitW r.2) : BitVec 64 × BitVec 64)
  let r0 := mc b.w0 t.1.w0 (bitW false)
  let r1 := mc b.w1 t.1.w1 r0.2
  let r2 := mc b.w2 t.1.w2 r1.2
  let r3 := mc b.w3 t.1.w3 r2.2
  let r4 := mc b.w4 t.1.w4 r3.2
  let r5 := mc b.w5 t.1.w5 r4.2
  let s := S t.2.1 r5.2 false
  (⟨r0.1, r1.1, r2.1, r3.1, r4.1, r5.1⟩, s.1, t.2.2 + bitW s.2)
def rowT (M : BitVec 64 → BitVec 64 → BitVec 64 × BitVec 64) (S : BitVec 64 → BitVec 64 → Bool → BitVec 64 × Bool) : PureTab := [(170, fn2 kU kU kUU M), (171, fn3 kU kU kBit kUB S)]
noncomputable def rowE (M : BitVec 64 → BitVec 64 → BitVec 64 × BitVec 64) (S : BitVec 64 → BitVec 64 → Bool → BitVec 64 × Bool) : Env := envH eqsT (rowT M S) []
set_option maxRecDepth 100000 in
theorem row_run (M : BitVec 64 → BitVec 64 → BitVec 64 × BitVec 64) (S : BitVec 64 → BitVec 64 → Bool → BitVec 64 × Bool) (f : W6 × BitVec 64 × W6) (t : W6 × BitVec 64 × BitVec 64) (a : BitVec 64) (b : W6) :
    (afunW PR (rowE M S) [] 10 163 171 [cFa.agg.enc f, .ptr 0 0, kU.enc a, c6.agg.enc b] (c8.enc t)).strict = .leaf (.tup [.tup [], .agg (c8.enc (rowG M S t a b))]) := by kernel_rfl
def rowW : W6 × BitVec 64 × BitVec 64 → BitVec 64 → W6 → W6 × BitVec 64 × BitVec 64 := rowG mul64 add64
theorem row_ent : Enters PR 163 := enters_of (fn := Tryz.f163) (by kernel_rfl) (by kernel_rfl) (by kernel_rfl)
theorem row_ok : HeapOk PR 163 (wr4 171 cFa.agg c8 kU c6.agg (fun _ => rowW)) :=
  wr4_ok (E := rowE mul64 add64) (envH_ok eqsT_ok (TabPOk.cons mul64_ok (TabPOk.cons add64_ok TabPOk.nil)) TabHOk.nil) mixed (sym := []) (lf := 10) (fn := Tryz.f163) (c := bodyOf PR 163) (by kernel_rfl) (by kernel_rfl) (by kernel_rfl)
    (fun f t a b => row_run mul64 add64 f t a b)
end Go.Rq

/- The reference's arithmetic of a modulus: contracts. -/
namespace Go.Rq
open Go Go.Proofs

abbrev W8 : Type := W6 × BitVec 64 × BitVec 64
abbrev Fa : Type := W6 × BitVec 64 × W6

def mtRound (R : W8 → BitVec 64 → W6 → W8) (f : Fa) (b : W6) (x : BitVec 64) (t : W8) : W8 :=
  let u := R t x b
  let v := R u (u.1.w0 * f.2.1) f.1
  (⟨v.1.w1, v.1.w2, v.1.w3, v.1.w4, v.1.w5, v.2.1⟩, v.2.2, bitW false)
def zero8 : W8 := (⟨0#64, 0#64, 0#64, 0#64, 0#64, 0#64⟩, 0#64, 0#64)
def mtRaw (R : W8 → BitVec 64 → W6 → W8) (f : Fa) (a b : W6) : W8 :=
  mtRound R f b a.w5 (mtRound R f b a.w4 (mtRound R f b a.w3 (mtRound R f b a.w2 (mtRound R f b a.w1 (mtRound R f b a.w0 zero8)))))

def mtT (cm : W6 → W6 → Int) (sb : W6 → W6 → W6 × Bool) : PureTab := [(54, fn2 c6.agg c6.agg (kInt .i64) cm), (111, fn2 c6.agg c6.agg kWB sb)]
noncomputable def mtE (R : W8 → BitVec 64 → W6 → W8) (cm : W6 → W6 → Int) (sb : W6 → W6 → W6 × Bool) : Env := envH eqsT (mtT cm sb) [(163, wr4 171 cFa.agg c8 kU c6.agg (fun _ => R))]
set_option maxRecDepth 1000000 in
theorem mont_run (R : W8 → BitVec 64 → W6 → W8) (cm : W6 → W6 → Int) (sb : W6 → W6 → W6 × Bool) (f : Fa) (a b : W6) :
    (afunR PR (mtE R cm sb) [54, 60] (fun _ => none) 20 114 [cFa.agg.enc f, c6.agg.enc a, c6.agg.enc b]).strict =
    .br ((mtRaw R f a b).2.1 != bitW false) (.leaf (c6.agg.enc (sb (mtRaw R f a b).1 f.1).1)) (.br (decide (cm (mtRaw R f a b).1 f.1 ≥ 0)) (.leaf (c6.agg.enc (sb (mtRaw R f a b).1 f.1).1)) (.leaf (c6.agg.enc (mtRaw R f a b).1))) := by kernel_rfl
def cmW (a b : W6) : Int := chainV (cmpL a b) 0
def montW (f : Fa) (a b : W6) : W6 := bif (mtRaw rowW f a b).2.1 != bitW false then (rsubW (mtRaw rowW f a b).1 f.1).1 else bif decide (cmW (mtRaw rowW f a b).1 f.1 ≥ 0) then (rsubW (mtRaw rowW f a b).1 f.1).1 else (mtRaw rowW f a b).1
theorem mtE_ok : EnvOk PR (mtE rowW cmW rsubW) := envH_ok eqsT_ok (TabPOk.cons rcmp_ok (TabPOk.cons rsub_ok TabPOk.nil)) (TabHOk.cons row_ent row_ok TabHOk.nil)
theorem mont_ctx : Ctx PR (mtE rowW cmW rsubW) [54, 60] (fun _ => none) 20 114 :=
  ctx_of mtE_ok mixed (fn := Tryz.f114) (by kernel_rfl) (by kernel_rfl) (by kernel_rfl) (tabOk_none _)
theorem mont_ok : CallOk PR 114 (fn3 cFa.agg c6.agg c6.agg c6.agg montW) :=
  .inl ⟨enters_of (fn := Tryz.f114) (by kernel_rfl) (by kernel_rfl) (by kernel_rfl), pure3 mont_ctx (fun f a b => givesOf (mont_run rowW cmW rsubW f a b) (holds_br (B := c6.agg) (holds_leaf (c6.agg.h1 _)) (holds_br (B := c6.agg) (holds_leaf (c6.agg.h1 _)) (holds_leaf (c6.agg.h1 _)))))⟩

/-! The great prime. -/
def fastP : Fa := (primeW, 9940570264628428797#64, wideW)
theorem rbase_ctx : Ctx PR (envOf eqsT []) [] (fun _ => none) 10 55 :=
  ctx_of (envOf_ok eqsT_ok TabPOk.nil) mixed (fn := Tryz.f55) (by kernel_rfl) (by kernel_rfl) (by kernel_rfl) (tabOk_none _)
theorem rbase_run : (afunR PR (envOf eqsT []) [] (fun _ => none) 10 55 []).strict = .leaf (c6.agg.enc primeW) := by kernel_rfl
theorem rbase_ok : CallOk PR 55 (fn0 c6.agg primeW) :=
  .inl ⟨enters_of (fn := Tryz.f55) (by kernel_rfl) (by kernel_rfl) (by kernel_rfl), pure0 rbase_ctx (leafVal (B := c6.agg) (y := primeW) rbase_run)⟩
theorem rorder_ctx : Ctx PR (envOf eqsT []) [] (fun _ => none) 10 106 :=
  ctx_of (envOf_ok eqsT_ok TabPOk.nil) mixed (fn := Tryz.f106) (by kernel_rfl) (by kernel_rfl) (by kernel_rfl) (tabOk_none _)
theorem rorder_run : (afunR PR (envOf eqsT []) [] (fun _ => none) 10 106 []).strict = .leaf (.agg [.u orderW.w0, .u orderW.w1, .u orderW.w2, .u orderW.w3, .bit false, .bit false]) := by kernel_rfl
theorem rorder_ok : CallOk PR 106 (fn0 c6.agg orderW) :=
  .inl ⟨enters_of (fn := Tryz.f106) (by kernel_rfl) (by kernel_rfl) (by kernel_rfl), pure0 rorder_ctx (givesOf rorder_run (holds_leaf (by kernel_rfl)))⟩
def rpT : PureTab := [(55, fn0 c6.agg primeW)]
theorem rp_ctx : Ctx PR (envOf eqsT rpT) [] (fun _ => none) 10 60 :=
  ctx_of (envOf_ok eqsT_ok (TabPOk.cons rbase_ok TabPOk.nil)) mixed (fn := Tryz.f60) (by kernel_rfl) (by kernel_rfl) (by kernel_rfl) (tabOk_none _)
theorem rp_run : (afunR PR (envOf eqsT rpT) [] (fun _ => none) 10 60 []).strict = .leaf (cFa.agg.enc fastP) := by kernel_rfl
theorem rp_ok : CallOk PR 60 (fn0 cFa.agg fastP) :=
  .inl ⟨enters_of (fn := Tryz.f60) (by kernel_rfl) (by kernel_rfl) (by kernel_rfl), pure0 rp_ctx (leafVal (B := cFa.agg) (y := fastP) rp_run)⟩

/-! Product, sum, negated one, difference. -/
def rmG (M : Fa → W6 → W6 → W6) (f : Fa) (a b : W6) : W6 := M f (M f a b) f.2.2
def rmT (M : Fa → W6 → W6 → W6) : PureTab := [(114, fn3 cFa.agg c6.agg c6.agg c6.agg M)]
theorem rmul_run (M : Fa → W6 → W6 → W6) (f : Fa) (a b : W6) : (afunR PR (envOf eqsT (rmT M)) [] (fun _ => none) 10 67 [cFa.agg.enc f, c6.agg.enc a, c6.agg.enc b]).strict = .leaf (c6.agg.enc (rmG M f a b)) := by kernel_rfl
theorem rmul_ctx : Ctx PR (envOf eqsT (rmT montW)) [] (fun _ => none) 10 67 :=
  ctx_of (envOf_ok eqsT_ok (TabPOk.cons mont_ok TabPOk.nil)) mixed (fn := Tryz.f67) (by kernel_rfl) (by kernel_rfl) (by kernel_rfl) (tabOk_none _)
def rmulW : Fa → W6 → W6 → W6 := rmG montW
theorem rmul_ok : CallOk PR 67 (fn3 cFa.agg c6.agg c6.agg c6.agg rmulW) :=
  .inl ⟨enters_of (fn := Tryz.f67) (by kernel_rfl) (by kernel_rfl) (by kernel_rfl), pure3 rmul_ctx (fun f a b => leafVal (B := c6.agg) (y := rmulW f a b) (rmul_run montW f a b))⟩

def rfT (ad : W6 → W6 → W6 × Bool) (cm : W6 → W6 → Int) (sb : W6 → W6 → W6 × Bool) : PureTab := [(110, fn2 c6.agg c6.agg kWB ad), (54, fn2 c6.agg c6.agg (kInt .i64) cm), (111, fn2 c6.agg c6.agg kWB sb)]
theorem rfT_ok : TabPOk PR (rfT raddW cmW rsubW) := TabPOk.cons radd_ok (TabPOk.cons rcmp_ok (TabPOk.cons rsub_ok TabPOk.nil))
def rfadd (f : Fa) (a b : W6) : W6 := bif decide (cmW (raddW a b).1 f.1 ≥ 0) then (rsubW (raddW a b).1 f.1).1 else (raddW a b).1
theorem rfadd_run (ad : W6 → W6 → W6 × Bool) (cm : W6 → W6 → Int) (sb : W6 → W6 → W6 × Bool) (f : Fa) (a b : W6) : (afunR PR (envOf eqsT (rfT ad cm sb)) [19] (fun _ => none) 10 62 [cFa.agg.enc f, c6.agg.enc a, c6.agg.enc b]).strict =
    .br (decide (cm (ad a b).1 f.1 ≥ 0)) (.leaf (c6.agg.enc (sb (ad a b).1 f.1).1)) (.leaf (c6.agg.enc (ad a b).1)) := by kernel_rfl
theorem rfadd_ctx : Ctx PR (envOf eqsT (rfT raddW cmW rsubW)) [19] (fun _ => none) 10 62 :=
  ctx_of (envOf_ok eqsT_ok rfT_ok) mixed (fn := Tryz.f62) (by kernel_rfl) (by kernel_rfl) (by kernel_rfl) (tabOk_none _)
theorem rfadd_ok : CallOk PR 62 (fn3 cFa.agg c6.agg c6.agg c6.agg rfadd) :=
  .inl ⟨enters_of (fn := Tryz.f62) (by kernel_rfl) (by kernel_rfl) (by kernel_rfl), pure3 rfadd_ctx (fun f a b => givesOf (rfadd_run raddW cmW rsubW f a b) (holds_br (B := c6.agg) (holds_leaf (c6.agg.h1 _)) (holds_leaf (c6.agg.h1 _))))⟩

def rfneg (f : Fa) (a : W6) : W6 := bif eqW a zeroW then a else (rsubW f.1 a).1
theorem rfneg_run (ad : W6 → W6 → W6 × Bool) (cm : W6 → W6 → Int) (sb : W6 → W6 → W6 × Bool) (f : Fa) (a : W6) : (afunR PR (envOf eqsT (rfT ad cm sb)) [9] (fun _ => none) 10 74 [cFa.agg.enc f, c6.agg.enc a]).strict =
    .br (eqW a zeroW) (.leaf (c6.agg.enc a)) (.leaf (c6.agg.enc (sb f.1 a).1)) := by kernel_rfl
theorem rfneg_ctx : Ctx PR (envOf eqsT (rfT raddW cmW rsubW)) [9] (fun _ => none) 10 74 :=
  ctx_of (envOf_ok eqsT_ok rfT_ok) mixed (fn := Tryz.f74) (by kernel_rfl) (by kernel_rfl) (by kernel_rfl) (tabOk_none _)
theorem rfneg_ok : CallOk PR 74 (fn2 cFa.agg c6.agg c6.agg rfneg) :=
  .inl ⟨enters_of (fn := Tryz.f74) (by kernel_rfl) (by kernel_rfl) (by kernel_rfl), pure2 rfneg_ctx (fun f a => givesOf (rfneg_run raddW cmW rsubW f a) (holds_br (B := c6.agg) (holds_leaf (c6.agg.h1 _)) (holds_leaf (c6.agg.h1 _))))⟩

def rfsub (f : Fa) (a b : W6) : W6 := rfadd f a (rfneg f b)
def rsT (A : Fa → W6 → W6 → W6) (N : Fa → W6 → W6) : PureTab := [(62, fn3 cFa.agg c6.agg c6.agg c6.agg A), (74, fn2 cFa.agg c6.agg c6.agg N)]
theorem rfsub_run (A : Fa → W6 → W6 → W6) (N : Fa → W6 → W6) (f : Fa) (a b : W6) : (afunR PR (envOf eqsT (rsT A N)) [] (fun _ => none) 10 94 [cFa.agg.enc f, c6.agg.enc a, c6.agg.enc b]).strict = .leaf (c6.agg.enc (A f a (N f b))) := by kernel_rfl
theorem rfsub_ctx : Ctx PR (envOf eqsT (rsT rfadd rfneg)) [] (fun _ => none) 10 94 :=
  ctx_of (envOf_ok eqsT_ok (TabPOk.cons rfadd_ok (TabPOk.cons rfneg_ok TabPOk.nil))) mixed (fn := Tryz.f94) (by kernel_rfl) (by kernel_rfl) (by kernel_rfl) (tabOk_none _)
theorem rfsub_ok : CallOk PR 94 (fn3 cFa.agg c6.agg c6.agg c6.agg rfsub) :=
  .inl ⟨enters_of (fn := Tryz.f94) (by kernel_rfl) (by kernel_rfl) (by kernel_rfl), pure3 rfsub_ctx (fun f a b => leafVal (B := c6.agg) (y := rfsub f a b) (rfsub_run rfadd rfneg f a b))⟩
end Go.Rq

/- The reference's bits and lengths: contracts. -/
namespace Go.Rq
open Go Go.Proofs

def rbitTree (a : W6) (i : Int) : Tree AV :=
  .br (decide (i < 0)) (.need true (.leaf (.v (.int .i64 0)))) (.br (decide (i > 383)) (.need true (.leaf (.v (.int .i64 0))))
    (.need (powCond i) (.leaf (.v (.int .i64 (IntKind.i64.wrap (Int.ofNat ((a.get (0 + (quo64 i).toNat * 1) >>> Nat.min (Int.tmod i 64).toNat 64) &&& bitW true).toNat)))))))
set_option maxRecDepth 100000 in
theorem rbit_run (a : W6) (i : Int) : Tree.but [2] 0 (afunR PR (envW eqsT []) [7, 10] (fun _ => none) 40 168 [c6.agg.enc a, (kInt .i64).enc i]) = rbitTree a i := by kernel_rfl

theorem rbit_gives (a : W6) (i : Int) : Gives (afunR PR (envW eqsT []) [7, 10] (fun _ => none) 40 168 [c6.agg.enc a, (kInt .i64).enc i]) ((kInt .i64).val (bitI a i)) := by
  refine ⟨Tree.holds_but (l := [2]) (i := 0) ?_⟩
  rw [rbit_run]
  unfold rbitTree bitI
  refine ⟨fun h1 => by rw [h1]; exact ⟨rfl, rfl⟩, fun h1 => ⟨fun h2 => ?_, fun h2 => ?_⟩⟩
  · rw [h1, show decide (i ≥ 384) = true from decide_eq_true (by have := of_decide_eq_true h2; omega)]; exact ⟨rfl, rfl⟩
  have h1' : ¬ i < 0 := of_decide_eq_false h1
  have h2' : ¬ i > 383 := of_decide_eq_false h2
  rw [h1, show decide (i ≥ 384) = false from decide_eq_false (by omega)]
  have hq := quo64_eq (z := i) (by omega) (by omega)
  have hm : Int.tmod i 64 = i % 64 := Int.tmod_eq_emod_of_nonneg (by omega)
  have e1 : 0 + (quo64 i).toNat * 1 = i.toNat / 64 := by rw [hq]; omega
  have e2 : Nat.min (Int.tmod i 64).toNat 64 = i.toNat % 64 := by rw [hm]; show min _ _ = _; omega
  refine ⟨?_, ?_⟩
  · unfold powCond
    rw [hq, hm]
    simp; omega
  · rw [e1, e2]
    show some (Value.int .i64 _) = some (Value.int .i64 _)
    congr 2
    unfold W6.bit
    generalize a.get (i.toNat / 64) >>> (i.toNat % 64) = y
    have hb : (y &&& 1#64).toNat < 2 := by
      rw [BitVec.toNat_and, show (1#64).toNat = 1 from rfl, Nat.and_one_is_mod]
      omega
    rw [show bitW true = 1#64 from rfl]
    cases hc : (y &&& 1#64) == 1#64 with
    | true =>
      rw [eq_of_beq hc]
      rfl
    | false =>
      have : (y &&& 1#64).toNat = 0 := by
        have hne : (y &&& 1#64) ≠ 1#64 := by simpa using hc
        have : (y &&& 1#64).toNat ≠ 1 := fun h => hne (BitVec.eq_of_toNat_eq (by rw [h]; rfl))
        omega
      rw [this]
      rfl

theorem rbit_ctx : Ctx PR (envW eqsT []) [7, 10] (fun _ => none) 40 168 :=
  ctx_of (envW_ok eqsT_ok TabPOk.nil) mixed (fn := Tryz.f168) (by kernel_rfl) (by kernel_rfl) (by kernel_rfl) (tabOk_none _)
theorem rbit_ok : CallOk PR 168 (fn2 c6.agg (kInt .i64) (kInt .i64) bitI) :=
  .inl ⟨enters_of (fn := Tryz.f168) (by kernel_rfl) (by kernel_rfl) (by kernel_rfl), pure2 rbit_ctx rbit_gives⟩

/-- The bits from the highest on, and what is told at the first that is set. -/
def rlenL (B : W6 → Int → Int) (a : W6) : Nat → List (Bool × Int)
  | 0 => []
  | k + 1 => (B a (k : Int) == 1, (k : Int) + 1) :: rlenL B a k
def rlenT (B : W6 → Int → Int) : PureTab := [(168, fn2 c6.agg (kInt .i64) (kInt .i64) B)]
set_option maxRecDepth 1000000 in
theorem rlen_run (B : W6 → Int → Int) (a : W6) : (afunR PR (envOf eqsT (rlenT B)) [11] (fun _ => none) 400 167 [c6.agg.enc a]).strict = chain (kInt .i64) (rlenL B a 384) 0 := by kernel_rfl
def rlenI (a : W6) : Int := chainV (rlenL bitI a 384) 0
theorem rlen_ctx : Ctx PR (envOf eqsT (rlenT bitI)) [11] (fun _ => none) 400 167 :=
  ctx_of (envOf_ok eqsT_ok (TabPOk.cons rbit_ok TabPOk.nil)) mixed (fn := Tryz.f167) (by kernel_rfl) (by kernel_rfl) (by kernel_rfl) (tabOk_none _)
theorem rlen_ok : CallOk PR 167 (fn1 c6.agg (kInt .i64) rlenI) :=
  .inl ⟨enters_of (fn := Tryz.f167) (by kernel_rfl) (by kernel_rfl) (by kernel_rfl), pure1 rlen_ctx (fun a => chainVal (rlen_run bitI a))⟩
end Go.Rq
