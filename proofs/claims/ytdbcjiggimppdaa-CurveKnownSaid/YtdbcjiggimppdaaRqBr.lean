/- What the program's functions on points come to, reckoned with numbers. -/
import Derived.Test.YtdbcjiggimppdaaRqBq
import Derived.Test.YtdbcjiggimppdaaRqZd
namespace Go.Rq
open Go Go.Proofs

section
variable {A B : Type} {R : A → B → Prop} {o : FO A} {o' : FO B} {e : A → A → Bool} {e' : B → B → Bool}

def tOf {K : Type} (o : FO K) (e : K → K → Bool) : TO K := ⟨fun _ p => twiceJ o p, sumE o e, lenI, bitI⟩
def gOf {K : Type} (o : FO K) (e : K → K → Bool) (ti : Fl K → Jp K → W6 → Jp K) : GO K := ⟨onE o e, raiseJ o, ti, sumE o e, fun _ p => lowerE o e p⟩

theorem times_rel (h : FRel R o o' e e') {f : Fl A} {g : Fl B} (hf : RFl R f g) {p : Jp A} {q : Jp B} (hp : RJ R p q) (n : W6) : ∀ (k : Nat) {u : Jp A} {v : Jp B}, RJ R u v →
    RJ R (timesG (tOf o e) f p n k u) (timesG (tOf o' e') g q n k v)
  | 0, u, v, hu => hu
  | k + 1, u, v, hu => by
    show RJ R (timesG (tOf o e) f p n k (bif bitI n (k : Int) == 1 then sumE o e f (twiceJ o u) p else twiceJ o u)) (timesG (tOf o' e') g q n k (bif bitI n (k : Int) == 1 then sumE o' e' g (twiceJ o' v) q else twiceJ o' v))
    apply times_rel h hf hp n k
    cases bitI n (k : Int) == 1
    · exact twice_rel h hu
    · exact sum_rel h hf (twice_rel h hu) hp

/-- The functions on points go alike. -/
structure GRel (R : A → B → Prop) (t : GO A) (s : GO B) : Prop where
  on : ∀ {f g p q}, RFl R f g → RA R p q → t.on f p = s.on g q
  ra : ∀ {f g p q}, RFl R f g → RA R p q → RJ R (t.ra f p) (s.ra g q)
  ti : ∀ {f g p q}, RFl R f g → RJ R p q → ∀ n, RJ R (t.ti f p n) (s.ti g q n)
  su : ∀ {f g p q u v}, RFl R f g → RJ R p q → RJ R u v → RJ R (t.su f p u) (s.su g q v)
  lo : ∀ {f g p q}, RFl R f g → RJ R p q → RA R (t.lo f p) (s.lo g q)

theorem g_rel (h : FRel R o o' e e') {ti : Fl A → Jp A → W6 → Jp A} {ti' : Fl B → Jp B → W6 → Jp B} (ht : ∀ {f g p q}, RFl R f g → RJ R p q → ∀ n, RJ R (ti f p n) (ti' g q n)) : GRel R (gOf o e ti) (gOf o' e' ti') :=
  ⟨fun hf hp => on_rel h hf hp, fun hf hp => raise_rel h hf hp, ht, fun hf hp hu => sum_rel h hf hp hu, fun _ hp => lower_rel h hp⟩

theorem ga1_rel {t : GO A} {s : GO B} (h : GRel R t s) {z : A} {z' : B} (hz : R z z') {f : Fl A} {g : Fl B} (hf : RFl R f g) {p : Ap A} {q : Ap B} (hp : RA R p q) (n : W6) :
    RA R (ga1 t z f p n).1 (ga1 s z' g q n).1 ∧ (ga1 t z f p n).2 = (ga1 s z' g q n).2 := by
  unfold ga1
  rw [h.on hf hp]
  cases s.on g q
  · exact ⟨⟨hz, hz, rfl⟩, rfl⟩
  · exact ⟨h.lo hf (h.su hf ⟨hf.one, hf.one, hz⟩ (h.ti hf (h.ra hf hp) n)), rfl⟩

theorem ga2_rel {t : GO A} {s : GO B} (h : GRel R t s) {z : A} {z' : B} (hz : R z z') {f : Fl A} {g : Fl B} (hf : RFl R f g) {x : Ap A × Ap A} {y : Ap B × Ap B} (h1 : RA R x.1 y.1) (h2 : RA R x.2 y.2) (n : W6 × W6) :
    RA R (ga2 t z f x n).1 (ga2 s z' g y n).1 ∧ (ga2 t z f x n).2 = (ga2 s z' g y n).2 := by
  unfold ga2
  rw [h.on hf h1, h.on hf h2]
  cases s.on g y.1
  · exact ⟨⟨hz, hz, rfl⟩, rfl⟩
  · cases s.on g y.2
    · exact ⟨⟨hz, hz, rfl⟩, rfl⟩
    · exact ⟨h.lo hf (h.su hf (h.su hf ⟨hf.one, hf.one, hz⟩ (h.ti hf (h.ra hf h1) n.1)) (h.ti hf (h.ra hf h2) n.2)), rfl⟩
end

/-! Multiples, reckoned step by step. -/

def forceJ {α : Type} (r : Jp Nat) (f : Jp Nat → α) : α := forceN r.x fun x => forceN r.y fun y => forceN r.z fun z => f ⟨x, y, z⟩
theorem forceJ_eq {α : Type} (r : Jp Nat) (f : Jp Nat → α) : forceJ r f = f r := by simp only [forceJ, forceN_eq]
def forceK {α : Type} (r : Jp (DN Nat)) (f : Jp (DN Nat) → α) : α := forceN r.x.a fun a => forceN r.x.b fun b => forceN r.y.a fun c => forceN r.y.b fun d => forceN r.z.a fun x => forceN r.z.b fun y => f ⟨⟨a, b⟩, ⟨c, d⟩, ⟨x, y⟩⟩
theorem forceK_eq {α : Type} (r : Jp (DN Nat)) (f : Jp (DN Nat) → α) : forceK r f = f r := by simp only [forceK, forceN_eq]

def stepG {K : Type} (o : FO K) (e : K → K → Bool) (f : Fl K) (p : Jp K) (b : Bool) (u : Jp K) : Jp K := bif b then sumE o e f (twiceJ o u) p else twiceJ o u

/-- A multiple; a point is reckoned whole at each bit. -/
def runN {K : Type} (fo : Jp K → (Jp K → Jp K) → Jp K) (st : Bool → Jp K → Jp K) : List Bool → Jp K → Jp K
  | [], u => u
  | b :: t, u => fo (st b u) fun v => runN fo st t v

def bitsL (n : W6) : Nat → List Bool
  | 0 => []
  | k + 1 => (bitI n (k : Int) == 1) :: bitsL n k

theorem runN_eq {K : Type} {o : FO K} {e : K → K → Bool} {fo : Jp K → (Jp K → Jp K) → Jp K} (hfo : ∀ r f, fo r f = f r) (f : Fl K) (p : Jp K) (n : W6) : ∀ (k : Nat) (u : Jp K),
    runN fo (stepG o e f p) (bitsL n k) u = timesG (tOf o e) f p n k u
  | 0, u => rfl
  | k + 1, u => by
    simp only [bitsL, runN, hfo]
    exact runN_eq hfo f p n k _

def timesN (f : Fl Nat) (p : Jp Nat) (n : W6) : Jp Nat := runN forceJ (stepG fN Nat.beq f p) (bitsL n (lenI n).toNat) ⟨f.one, f.one, 0⟩
def timesK (f : Fl (DN Nat)) (p : Jp (DN Nat)) (n : W6) : Jp (DN Nat) := runN forceK (stepG fDN (beqA Nat.beq) f p) (bitsL n (lenI n).toNat) ⟨f.one, f.one, ⟨0, 0⟩⟩

theorem timesN_rel {f : Fl Nat} {g : Fl W6} {p : Jp Nat} {q : Jp W6} (hf : RFl Rep f g) (hp : RJ Rep p q) (n : W6) : RJ Rep (timesN f p n) (timesW g q n) := by
  unfold timesN timesW
  rw [runN_eq (o := fN) (e := Nat.beq) forceJ_eq]
  exact times_rel relW hf hp n _ ⟨hf.one, hf.one, rep_zero⟩
theorem timesK_rel {f : Fl (DN Nat)} {g : Fl D6} {p : Jp (DN Nat)} {q : Jp D6} (hf : RFl (RD Rep) f g) (hp : RJ (RD Rep) p q) (n : W6) : RJ (RD Rep) (timesK f p n) (timesD g q n) := by
  unfold timesK timesD
  rw [runN_eq (o := fDN) (e := beqA Nat.beq) forceK_eq]
  exact times_rel relD hf hp n _ ⟨hf.one, hf.one, rd_zero⟩

def gN : GO Nat := gOf fN Nat.beq timesN
def gK : GO (DN Nat) := gOf fDN (beqA Nat.beq) timesK
theorem gN_rel : GRel Rep gN gaOW := g_rel relW timesN_rel
theorem gK_rel : GRel (RD Rep) gK gaOD := g_rel relD timesK_rel

def flN : Fl Nat := ⟨oneN, toN 4⟩
def flK : Fl (DN Nat) := ⟨⟨oneN, 0⟩, ⟨toN 4, toN 4⟩⟩
theorem four_val : (ofW 4#64).val = 4 := by decide +kernel
theorem four_rep : Rep (toN 4) (toW (ofW 4#64)) := by
  have := rep_to (ofW 4#64)
  rw [four_val] at this
  exact this
theorem flN_rel : RFl Rep flN fld1 := ⟨rep_one, four_rep⟩
theorem flK_rel : RFl (RD Rep) flK fld2 := ⟨rd_one, ⟨four_rep, four_rep⟩⟩

def inN (p : Ap W6) : Ap Nat := ⟨toN p.x.val, toN p.y.val, p.zero⟩
def inK (p : Ap D6) : Ap (DN Nat) := ⟨⟨toN p.x.a.val, toN p.x.b.val⟩, ⟨toN p.y.a.val, toN p.y.b.val⟩, p.zero⟩
theorem inP_rel (t : Nat → Nat) (t' : W6 → W6) (h : ∀ a : W6, Rep (t a.val) (t' a)) (p : Ap W6) : RA Rep ⟨t p.x.val, t p.y.val, p.zero⟩ ⟨t' p.x, t' p.y, p.zero⟩ := ⟨h _, h _, rfl⟩
theorem inN_rel (p : Ap W6) : RA Rep (inN p) (inP1 p) := by
  unfold inN inP1
  exact inP_rel toN toW rep_to p
theorem to2_rel (o : FO W6) (t : Nat → Nat) (h : ∀ a : W6, Rep (t a.val) (o.to a)) (x : D6) : RD Rep ⟨t x.a.val, t x.b.val⟩ (to2 o x) := ⟨h _, h _⟩
theorem fW_to : fW.to = toW := by simp only [fW]
theorem fW_back : fW.back = fromW := by simp only [fW]
theorem inK_rel (p : Ap D6) : RA (RD Rep) (inK p) (inP2 p) := ⟨to2_rel fW toN (fun a => by rw [fW_to]; exact rep_to a) p.x, to2_rel fW toN (fun a => by rw [fW_to]; exact rep_to a) p.y, rfl⟩

/-- A point that is told again. -/
theorem outN_eq {p : Ap Nat} {q r : Ap W6} (h : RA Rep p q) (hx : backN p.x = r.x.val) (hy : backN p.y = r.y.val) (hz : p.zero = r.zero) : outP1 q = r := by
  obtain ⟨rx, ry, rz⟩ := r
  have e1 : fromW q.x = rx := W6.val_inj (by rw [rep_back h.x]; exact hx)
  have e2 : fromW q.y = ry := W6.val_inj (by rw [rep_back h.y]; exact hy)
  unfold outP1
  rw [e1, e2, ← h.z, hz]
theorem back2_eq (o : FO W6) (b : Nat → Nat) (h : ∀ {a : Nat} {w : W6}, Rep a w → (o.back w).val = b a) {p : DN Nat} {q r : D6} (hp : RD Rep p q) (h1 : b p.a = r.a.val) (h2 : b p.b = r.b.val) : back2 o q = r := by
  obtain ⟨ra, rb⟩ := r
  have e1 : o.back q.a = ra := W6.val_inj (by rw [h hp.a]; exact h1)
  have e2 : o.back q.b = rb := W6.val_inj (by rw [h hp.b]; exact h2)
  unfold back2
  rw [e1, e2]
theorem outK_eq {p : Ap (DN Nat)} {q r : Ap D6} (h : RA (RD Rep) p q) (h1 : backN p.x.a = r.x.a.val) (h2 : backN p.x.b = r.x.b.val) (h3 : backN p.y.a = r.y.a.val) (h4 : backN p.y.b = r.y.b.val) (hz : p.zero = r.zero) : outP2 q = r := by
  have e1 := back2_eq fW backN (fun {a w} h => by rw [fW_back]; exact rep_back h) h.x h1 h2
  have e2 := back2_eq fW backN (fun {a w} h => by rw [fW_back]; exact rep_back h) h.y h3 h4
  unfold outP2
  obtain ⟨rx, ry, rz⟩ := r
  rw [e1, e2, ← h.z, hz]

/-! What is reckoned, and what is told. -/
def tellN (x : Ap Nat × Int) : Ap Nat × Int := (⟨backN x.1.x, backN x.1.y, x.1.zero⟩, x.2)
def tellK (x : Ap (DN Nat) × Int) : Ap (DN Nat) × Int := (⟨⟨backN x.1.x.a, backN x.1.x.b⟩, ⟨backN x.1.y.a, backN x.1.y.b⟩, x.1.zero⟩, x.2)
def litN (r : Ap W6) : Ap Nat := ⟨r.x.val, r.y.val, r.zero⟩
def litK (r : Ap D6) : Ap (DN Nat) := ⟨⟨r.x.a.val, r.x.b.val⟩, ⟨r.y.a.val, r.y.b.val⟩, r.zero⟩

theorem mul1_of {p r : Ap W6} {n : W6} {err : Int} (hb : belowP1 p = true) (h : tellN (ga1 gN 0 flN (inN p) n) = (litN r, err)) : sumP1W p n = (r, err) := by
  obtain ⟨h1, h2⟩ := ga1_rel gN_rel rep_zero flN_rel (inN_rel p) n
  have e := Prod.mk.inj h
  obtain ⟨e1, e2⟩ := e
  have e3 := Ap.mk.inj e1
  have ho := outN_eq (r := r) h1 e3.1 e3.2.1 e3.2.2
  have hs : sumP1W p n = bif belowP1 p then (outP1 (gath1W fld1 (inP1 p) n).1, (gath1W fld1 (inP1 p) n).2) else (⟨zeroW, zeroW, false⟩, 5) := by unfold sumP1W sm1 suOW; rfl
  rw [hs, hb, cond_true]
  have hg : gath1W fld1 (inP1 p) n = ga1 gaOW zeroW fld1 (inP1 p) n := by unfold gath1W; rfl
  rw [hg, ho, ← h2]
  exact congrArg (Prod.mk r) e2

theorem add1_of {p q r : Ap W6} {err : Int} (hb : belowP1 p = true) (hc : belowP1 q = true) (h : tellN (ga2 gN 0 flN (inN p, inN q) (ofW (bitW true), ofW (bitW true))) = (litN r, err)) : addP1 p q = (r, err) := by
  obtain ⟨h1, h2⟩ := ga2_rel gN_rel rep_zero flN_rel (x := (inN p, inN q)) (y := (inP1 p, inP1 q)) (inN_rel p) (inN_rel q) (ofW (bitW true), ofW (bitW true))
  have e := Prod.mk.inj h
  obtain ⟨e1, e2⟩ := e
  have e3 := Ap.mk.inj e1
  have ho := outN_eq (r := r) h1 e3.1 e3.2.1 e3.2.2
  have hs : addP1 p q = bif belowP1 p then (bif belowP1 q then (outP1 (gath2W fld1 (inP1 p, inP1 q) (ofW (bitW true), ofW (bitW true))).1, (gath2W fld1 (inP1 p, inP1 q) (ofW (bitW true), ofW (bitW true))).2) else (⟨zeroW, zeroW, false⟩, 5)) else (⟨zeroW, zeroW, false⟩, 5) := by
    unfold addP1 sumP2W sm2 suOW; rfl
  rw [hs, hb, hc, cond_true, cond_true]
  have hg : gath2W fld1 (inP1 p, inP1 q) (ofW (bitW true), ofW (bitW true)) = ga2 gaOW zeroW fld1 (inP1 p, inP1 q) (ofW (bitW true), ofW (bitW true)) := by unfold gath2W; rfl
  rw [hg, ho, ← h2]
  exact congrArg (Prod.mk r) e2

theorem mul2_of {p r : Ap D6} {n : W6} {err : Int} (hb : belowP2 p = true) (h : tellK (ga1 gK ⟨0, 0⟩ flK (inK p) n) = (litK r, err)) : sumP1D p n = (r, err) := by
  obtain ⟨h1, h2⟩ := ga1_rel gK_rel rd_zero flK_rel (inK_rel p) n
  have e := Prod.mk.inj h
  obtain ⟨e1, e2⟩ := e
  have e3 := Ap.mk.inj e1
  have e4 := DN.mk.inj e3.1
  have e5 := DN.mk.inj e3.2.1
  have ho := outK_eq (r := r) h1 e4.1 e4.2 e5.1 e5.2 e3.2.2
  have hs : sumP1D p n = bif belowP2 p then (outP2 (gath1D fld2 (inP2 p) n).1, (gath1D fld2 (inP2 p) n).2) else (⟨zero2, zero2, false⟩, 5) := by unfold sumP1D sm1 suOD; rfl
  rw [hs, hb, cond_true]
  have hg : gath1D fld2 (inP2 p) n = ga1 gaOD zero2 fld2 (inP2 p) n := by unfold gath1D; rfl
  rw [hg, ho, ← h2]
  exact congrArg (Prod.mk r) e2

theorem check1_of (p : Ap W6) : checkP1 p = bif belowP1 p then onE fN Nat.beq flN (inN p) else false := by
  unfold checkP1
  rw [on_rel relW flN_rel (inN_rel p)]
theorem check2_of (p : Ap D6) : checkP2 p = bif belowP2 p then onE fDN (beqA Nat.beq) flK (inK p) else false := by
  unfold checkP2
  rw [on_rel relD flK_rel (inK_rel p)]
theorem in1_of (p : Ap W6) : inGroup1 p = bif belowP1 p then (bif onE fN Nat.beq flN (inN p) then (lowerE fN Nat.beq (timesN flN (raiseJ fN flN (inN p)) orderW)).zero else false) else false := by
  unfold inGroup1 inEW inGW lowFW
  rw [on_rel relW flN_rel (inN_rel p), (lower_rel relW (timesN_rel flN_rel (raise_rel relW flN_rel (inN_rel p)) orderW)).z]
theorem neg1_of {p r : Ap W6} (hc : checkP1 p = true) (hx : backN (inN p).x = r.x.val) (hy : backN (subN 0 (inN p).y) = r.y.val) (hz : p.zero = r.zero) : negP1 p = (r, 0) := by
  have hn := neg_rel relW (inN_rel p)
  unfold negP1
  rw [hc, outN_eq (r := r) hn hx (by unfold negE; rw [fN_sub]; exact hy) hz]
  rfl
end Go.Rq
