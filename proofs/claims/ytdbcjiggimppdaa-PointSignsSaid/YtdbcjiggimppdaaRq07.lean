/- Rows of the library with two arguments; strings and bytes. -/
import Derived.Test.YtdbcjiggimppdaaRq06
namespace Go.Rq
open Go

theorem ext2 {P : Program} {f : FuncId} {fn : Func} (hf : P.funcs.toList[f]? = some fn) (h1 : (fn.name == "runtime.NumGoroutine") = false) (h2 : fn.body.isNone = true) (h3 : (Extern.findNext fn).isNone = true)
    {r : Array Value → Sem Value} (h4 : Extern.find fn = some r) {α β γ : Type} {A : Cod α} {B : Cod β} {C : Cod γ} {F : α → γ → β}
    (h : ∀ x y w, (r #[A.val x, C.val y]).run P w = .ok (B.val (F x y)) w) : ExtOk P f (fn2 A C B F) := by
  intro ρ as xs q hg hx w
  unfold fn2 at hg
  split at hg
  · rename_i a c
    split at hg
    · rename_i x y hx' hy
      simp at hg; subst hg
      obtain ⟨v, ys, rfl, h1', h2'⟩ := hx.uncons
      obtain ⟨u, zs, rfl, h3', h4'⟩ := h2'.uncons
      rw [h4'.unnil, A.h2 ρ _ _ _ hx' h1', C.h2 ρ _ _ _ hy h3']
      refine ⟨B.val (F x y), ?_, .of_flat (B.h1 _)⟩
      have hf' : P.funcs[f]? = some fn := by simpa using hf
      have hnext : Extern.findNext fn = none := by simpa using h3
      have hr := h x y w
      simp only [callFunc, Sem.run_bind, run_program, Result.andThen_ok, hf', h1, h2, hnext, h4, Sem.run_ite]
      simp only [hr, Bool.false_eq_true, if_false, if_true, run_mark, Result.andThen_ok, Sem.run_pure]
    · cases hg
  · cases hg

def strOf : AV → Option ByteArray
  | .v (.string s) => some s
  | _ => none

def kStr : Cod ByteArray where
  enc s := .v (.string s)
  dec a := strOf a
  val s := .string s
  h1 _ := rfl
  h2 ρ a v x h r := by
    unfold strOf at h
    split at h
    · simp at h; subst h; cases r; rfl
    · cases h

/-- Where a byte stands first. -/
def idxByte (s : ByteArray) (b : Int) : Int := match (List.range s.size).find? (fun i => s[i]! == b.toNat.toUInt8) with
  | some i => (i : Int)
  | none => -1

theorem idxByte_run {P : Program} (s : ByteArray) (b : Int) (w : World) : (Extern.BytealgIndexByte.indexByte #[kStr.val s, (kInt .u8).val b]).run P w = .ok ((kInt .i64).val (idxByte s b)) w := by
  have e : Extern.BytealgIndexByte.indexByte #[kStr.val s, (kInt .u8).val b] = (do
    let x ← Extern.Bytes.bytesOf (.string s)
    let c ← Extern.Bytes.asByte (.int .u8 b)
    match (List.range x.size).find? fun i => x[i]! == c with
    | some i => pure (goInt i)
    | none => pure (goInt (-1)) : Sem Value) := rfl
  rw [e]
  simp only [kInt, Extern.Bytes.bytesOf, Extern.Bytes.asByte, Sem.run_bind, Sem.run_pure, Result.andThen_ok, idxByte]
  cases (List.range s.size).find? (fun i => s[i]! == b.toNat.toUInt8) with
  | none => simp [Sem.run_pure, goInt]
  | some i => simp [Sem.run_pure, goInt]

/-- A tree of answers, all of them exact. -/
theorem treeVal {β : Type} {B : Cod β} {y : β} {t u : Tree AV} (h : t.strict = u) (hu : u.holds (fun q => q = B.enc y)) : Gives t (B.val y) :=
  ⟨Tree.holds_strict (by rw [h]; exact Tree.holds_mono (fun a ha => by rw [ha]; exact B.h1 y) hu)⟩

/-- Which of two numbers is the less, from the top. -/
def cmpW (a b : W6) : Int :=
  bif BitVec.ult a.w5 b.w5 then -1 else bif BitVec.ult b.w5 a.w5 then 1 else
  bif BitVec.ult a.w4 b.w4 then -1 else bif BitVec.ult b.w4 a.w4 then 1 else
  bif BitVec.ult a.w3 b.w3 then -1 else bif BitVec.ult b.w3 a.w3 then 1 else
  bif BitVec.ult a.w2 b.w2 then -1 else bif BitVec.ult b.w2 a.w2 then 1 else
  bif BitVec.ult a.w1 b.w1 then -1 else bif BitVec.ult b.w1 a.w1 then 1 else
  bif BitVec.ult a.w0 b.w0 then -1 else bif BitVec.ult b.w0 a.w0 then 1 else 0

/-- A chain of questions, each with its answer. -/
def chain {β : Type} (B : Cod β) : List (Bool × β) → β → Tree AV
  | [], y => .leaf (B.enc y)
  | (c, x) :: t, y => .br c (.leaf (B.enc x)) (chain B t y)

def chainV {β : Type} : List (Bool × β) → β → β
  | [], y => y
  | (c, x) :: t, y => bif c then x else chainV t y

theorem chain_holds {β : Type} (B : Cod β) : ∀ (l : List (Bool × β)) (y : β), (chain B l y).holds (fun q => q = B.enc (chainV l y))
  | [], _ => rfl
  | (c, x) :: t, y => ⟨fun h => by simp only [chainV, h, cond_true]; rfl, fun h => by simp only [chainV, h, cond_false]; exact chain_holds B t y⟩

theorem chainVal {β : Type} {B : Cod β} {l : List (Bool × β)} {y : β} {t : Tree AV} (h : t.strict = chain B l y) : Gives t (B.val (chainV l y)) := treeVal h (chain_holds B l y)

end Go.Rq

/- Codecs for records: functions' values, points. -/
namespace Go.Rq
open Go

/-- The same cells, another name for the datum. -/
def CC.iso {α β : Type} (c : CC α) (f : α → β) (g : β → α) (h : ∀ a, g (f a) = a) : CC β where
  n := c.n
  enc b := c.enc (g b)
  dec l := match c.dec l with
    | some a => some (f a)
    | none => none
  val b := c.val (g b)
  len b := c.len _
  h1 b := c.h1 _
  h2 ρ as vs x e r := by
    split at e
    · rename_i a ha
      simp at e; subst e
      rw [h]
      exact c.h2 ρ as vs a ha r
    · cases e

def fnIs (f : FuncId) : AV → Bool
  | .fn (.func g) [] [] => Nat.beq g f
  | _ => false

/-- One cell: a function of the program. -/
def cFn (f : FuncId) : CC Unit where
  n := 1
  enc _ := [.fn (.func f) [] []]
  dec l := match l with
    | [a] => bif fnIs f a then some () else none
    | _ => none
  val _ := [.func (.func f) #[] #[]]
  len _ := rfl
  h1 _ := rfl
  h2 ρ as vs x e r := by
    split at e
    · rename_i a
      unfold fnIs at e
      split at e
      · rename_i g
        cases hb : Nat.beq g f with
        | false => rw [hb] at e; simp at e
        | true =>
          obtain rfl := Nat.eq_of_beq_eq_true hb
          obtain ⟨v, ys, rfl, h1, h2⟩ := r.uncons
          rw [h2.unnil, h1.scal_eq (y := .func (.func g) #[] #[]) rfl]
      · simp at e
    · cases e

/-- A curve's field, as its functions take it: what it adds, takes away, multiplies and inverts with; and 1, and b. -/
structure Fl (K : Type) where
  one : K
  b : K

structure Jp (K : Type) where
  x : K
  y : K
  z : K

structure Ap (K : Type) where
  x : K
  y : K
  zero : Bool

def cFl {K : Type} (f1 f2 f3 f4 : FuncId) (c : CC K) : CC (Fl K) :=
  (CC.prod (cFn f1) (CC.prod (cFn f2) (CC.prod (cFn f3) (CC.prod (cFn f4) (CC.prod c c))))).iso (fun x => ⟨x.2.2.2.2.1, x.2.2.2.2.2⟩) (fun y => ((), (), (), (), y.one, y.b)) (fun _ => rfl)

def cJp {K : Type} (c : CC K) : CC (Jp K) := (CC.prod c (CC.prod c c)).iso (fun x => ⟨x.1, x.2.1, x.2.2⟩) (fun y => (y.x, y.y, y.z)) (fun _ => rfl)

def cAp {K : Type} (c : CC K) : CC (Ap K) := (CC.prod c (CC.prod c cBool)).iso (fun x => ⟨x.1, x.2.1, x.2.2⟩) (fun y => (y.x, y.y, y.zero)) (fun _ => rfl)

/-! What the curve's functions reckon, the field left open. -/
section
variable {K : Type} (o : FO K)

def raiseJ (f : Fl K) (p : Ap K) : Jp K := bif p.zero then ⟨f.one, f.one, o.zero⟩ else ⟨p.x, p.y, f.one⟩

def twiceJ (p : Jp K) : Jp K :=
  let yy := o.mul p.y p.y
  let s1 := o.mul p.x yy
  let s2 := o.add s1 s1
  let s := o.add s2 s2
  let m1 := o.mul p.x p.x
  let m := o.add (o.add m1 m1) m1
  let x := o.sub (o.mul m m) (o.add s s)
  let e0 := o.mul yy yy
  let e1 := o.add e0 e0
  let e2 := o.add e1 e1
  let e := o.add e2 e2
  let z := o.mul p.y p.z
  ⟨x, o.sub (o.mul m (o.sub s x)) e, o.add z z⟩

def lowerJ (p : Jp K) : Ap K :=
  let i := o.inv p.z
  let s := o.mul i i
  ⟨o.mul p.x s, o.mul p.y (o.mul s i), false⟩

def sumJ (p q : Jp K) : Jp K :=
  let pp := o.mul p.z p.z
  let qq := o.mul q.z q.z
  let u := o.mul p.x qq
  let v := o.mul q.x pp
  let s := o.mul p.y (o.mul qq q.z)
  let t := o.mul q.y (o.mul pp p.z)
  let h := o.sub v u
  let r := o.sub t s
  let hh := o.mul h h
  let hhh := o.mul hh h
  let w := o.mul u hh
  let x := o.sub (o.sub (o.mul r r) hhh) (o.add w w)
  ⟨x, o.sub (o.mul r (o.sub w x)) (o.mul s hhh), o.mul h (o.mul p.z q.z)⟩

def hJ (p q : Jp K) : K := o.sub (o.mul q.x (o.mul p.z p.z)) (o.mul p.x (o.mul q.z q.z))
def rJ (p q : Jp K) : K := o.sub (o.mul q.y (o.mul (o.mul p.z p.z) p.z)) (o.mul p.y (o.mul (o.mul q.z q.z) q.z))
end

def eqW (a b : W6) : Bool := (a.w0 == b.w0) && ((a.w1 == b.w1) && ((a.w2 == b.w2) && ((a.w3 == b.w3) && ((a.w4 == b.w4) && ((a.w5 == b.w5) && true)))))
def eqD (a b : D6) : Bool := (a.a.w0 == b.a.w0) && ((a.a.w1 == b.a.w1) && ((a.a.w2 == b.a.w2) && ((a.a.w3 == b.a.w3) && ((a.a.w4 == b.a.w4) && ((a.a.w5 == b.a.w5) &&
  ((a.b.w0 == b.b.w0) && ((a.b.w1 == b.b.w1) && ((a.b.w2 == b.b.w2) && ((a.b.w3 == b.b.w3) && ((a.b.w4 == b.b.w4) && ((a.b.w5 == b.b.w5) && true)))))))))))


theorem givesOf {t u : Tree AV} {v : Value} (h : t.strict = u) (hu : u.holds (fun q => flat q = some v)) : Gives t v := ⟨Tree.holds_strict (by rw [h]; exact hu)⟩

theorem holds_leaf {a : AV} {v : Value} (h : flat a = some v) : (Tree.leaf a).holds (fun q => flat q = some v) := h

theorem holds_br {β : Type} {B : Cod β} {x y : β} {c : Bool} {t f : Tree AV} (h1 : t.holds (fun q => flat q = some (B.val x))) (h2 : f.holds (fun q => flat q = some (B.val y))) :
    (Tree.br c t f).holds (fun q => flat q = some (B.val (bif c then x else y))) :=
  ⟨fun h => by rw [h]; exact h1, fun h => by rw [h]; exact h2⟩

section
variable {K : Type} (o : FO K) (eq : K → K → Bool)

def lowerE (p : Jp K) : Ap K := bif eq p.z o.zero then ⟨o.zero, o.zero, true⟩ else lowerJ o p
def onE (f : Fl K) (p : Ap K) : Bool := bif p.zero then (bif eq p.x o.zero then eq p.y o.zero else false) else eq (o.mul p.y p.y) (o.add (o.mul (o.mul p.x p.x) p.x) f.b)
def negE (p : Ap K) : Ap K := ⟨p.x, o.sub o.zero p.y, p.zero⟩
def sumE (f : Fl K) (p q : Jp K) : Jp K := bif eq p.z o.zero then q else bif eq q.z o.zero then p else
  bif eq (hJ o p q) o.zero then (bif eq (rJ o p q) o.zero then twiceJ o p else ⟨f.one, f.one, o.zero⟩) else sumJ o p q

theorem lowerJ_eta (p : Jp K) : lowerJ o p = ⟨(lowerJ o p).x, (lowerJ o p).y, false⟩ := rfl
end

theorem apFlatW (x y : W6) (b : Bool) : flat (.agg (c6.enc x ++ (c6.enc y ++ [.lit b]))) = some ((cAp c6).agg.val ⟨x, y, b⟩) := by kernel_rfl
theorem apFlatD (x y : D6) (b : Bool) : flat (.agg (c12.enc x ++ (c12.enc y ++ [.lit b]))) = some ((cAp c12).agg.val ⟨x, y, b⟩) := by kernel_rfl


theorem pure3X {P : Program} {f : Nat} {α β γ δ : Type} {A : Cod α} {B : Cod β} {C : Cod γ} {D : Cod δ} {F : α → γ → δ → β} (h : ∀ x y z, GivesX P f [A.enc x, C.enc y, D.enc z] (B.val (F x y z))) : PureOk P f (fn3 A C D B F) := by
  refine pure_coreX fun as r hg => ?_
  unfold fn3 at hg
  split at hg
  · rename_i a c d
    split at hg
    · rename_i x y z hx hy hz
      simp at hg; subst hg
      refine ⟨[A.enc x, C.enc y, D.enc z], [A.val x, C.val y, D.val z], fun ρ xs hxs => ?_, by simp [flatL, A.h1, C.h1, D.h1], _, B.h1 _, h x y z⟩
      obtain ⟨v, ys, rfl, h1, h2⟩ := hxs.uncons
      obtain ⟨u, zs, rfl, h3, h4⟩ := h2.uncons
      obtain ⟨w, us, rfl, h5, h6⟩ := h4.uncons
      rw [h6.unnil, A.h2 ρ _ _ _ hx h1, C.h2 ρ _ _ _ hy h3, D.h2 ρ _ _ _ hz h5]
    · cases hg
  · cases hg

end Go.Rq

/- Functions that only read the blocks that they are handed, gone through where they are called. -/
namespace Go.Rq
open Go

def idsOf : List AV → List Nat
  | [] => []
  | a :: t => match a with
    | .ptr id _ => id :: idsOf t
    | .slc id _ _ _ => id :: idsOf t
    | .own id _ _ _ => id :: idsOf t
    | _ => idsOf t

def topOf : List Nat → Nat
  | [] => 0
  | i :: t => Nat.max (i + 1) (topOf t)

theorem topOf_lt : ∀ {l : List Nat} {i : Nat}, i ∈ l → i < topOf l
  | j :: t, i, h => by
    simp only [topOf]
    rcases List.mem_cons.1 h with rfl | h
    · exact Nat.lt_of_lt_of_le (Nat.lt_succ_self _) (Nat.le_max_left _ _)
    · exact Nat.lt_of_lt_of_le (topOf_lt h) (Nat.le_max_right _ _)

/-- The blocks named, to be read alone; they must name no blocks. -/
def viewH (h : AH) : List Nat → Option AH
  | [] => some []
  | i :: t => match AH.get h i with
    | none => none
    | some B => match viewH h t with
      | none => none
      | some l => bif allLt 0 B.cs then some ((i, some ⟨false, B.ty, B.cs⟩) :: l) else none

theorem viewH_get {h : AH} : ∀ {ids : List Nat} {l : AH}, viewH h ids = some l → ∀ id B, l.get id = some B →
    id ∈ ids ∧ ∃ B0, h.get id = some B0 ∧ B = ⟨false, B0.ty, B0.cs⟩ ∧ allLt 0 B0.cs = true
  | [], l, e, id, B, g => by simp [viewH] at e; subst e; simp [AH.get] at g
  | i :: t, l, e, id, B, g => by
    simp only [viewH] at e
    split at e
    · cases e
    · rename_i B0 hB0
      split at e
      · cases e
      · rename_i l' hl'
        cases hc : allLt 0 B0.cs with
        | false => rw [hc] at e; simp at e
        | true =>
          rw [hc] at e; simp at e; subst e
          rw [AH.get_cons] at g
          split at g
          · rename_i e; subst e; simp at g; subst g; exact ⟨by simp, B0, hB0, rfl, hc⟩
          · obtain ⟨h1, h2⟩ := viewH_get hl' id B g
            exact ⟨by simp [h1], h2⟩

theorem viewH_congr {h h' : AH} : ∀ {ids : List Nat} {l : AH}, (∀ i ∈ ids, ∀ B, h.get i = some B → h'.get i = some B) → viewH h ids = some l → viewH h' ids = some l
  | [], l, _, e => e
  | i :: t, l, k, e => by
    simp only [viewH] at e ⊢
    split at e
    · cases e
    · rename_i B0 hB0
      split at e
      · cases e
      · rename_i l' hl'
        rw [k i (by simp) B0 hB0, viewH_congr (fun j hj => k j (by simp [hj])) hl']
        exact e

theorem viewH_ok {F : Fr} {ρ : Ren} {h : AH} {w : World} (r : RW F ρ h w) {ids : List Nat} {l : AH} {n : Nat} (hv : viewH h ids = some l) (hn : ∀ i ∈ ids, i < n) :
    RW (frameOf w) (ρ.cut n) l w := by
  refine ⟨fun id B hB => ?_, fun id id' B B' b hB hB' hw => ?_, fun _ _ h => h, rfl, rfl, rfl⟩
  · obtain ⟨hi, B0, h1, rfl, h2⟩ := viewH_get hv id B hB
    obtain ⟨b, o, h3, h4, ⟨xs, fr, rfl, h5, h6, h7⟩, h8⟩ := r.blk id B0 h1
    refine ⟨b, _, by rw [Ren.cut_lt (hn id hi)]; exact h3, h4, ⟨xs, fr, rfl, (fun h => by cases h), h6, fun i a x ha hx => ?_⟩, (fun h => by cases h), h8.2⟩
    exact ((h7 i a x ha hx).lt (n := 0) (allLt_spec h2 a (List.mem_of_getElem? ha))).mono (fun j c hj => absurd (Ren.cut_some hj).1 (by omega))
  · obtain ⟨_, B0, _, rfl, _⟩ := viewH_get hv id B hB
    cases hw

def stripH : Tree (AV × AH) → Option AV
  | .leaf a => some a.1
  | .need true t => stripH t
  | _ => none

theorem stripH_holds : ∀ {t : Tree (AV × AH)} {r : AV}, stripH t = some r → t.holds (fun q => q.1 = r)
  | .leaf a, r, h => by simp [stripH] at h; exact h
  | .need true t, r, h => by simp only [stripH] at h; exact ⟨rfl, stripH_holds h⟩
  | .need false t, r, h => by simp [stripH] at h
  | .br _ _ _, r, h => by simp [stripH] at h
  | .same _ _ _, r, h => by simp [stripH] at h
  | .fail, r, h => by simp [stripH] at h

/-- A function that reads what it is handed, gone through where it is called: it must come to one exact answer. -/
def viewG (P : Program) (E : Env) (sym : List Tmp) (lf f : Nat) (as : List AV) (h : AH) : Option (Bool × AV × AH) :=
  match allLt (topOf (idsOf as)) as with
  | true => match viewH h (idsOf as) with
    | some h0 => match stripH (afun P E sym (fun _ => none) lf f as h0 (topOf (idsOf as))).strict with
      | some r => match isFlat r with
        | true => some (true, r, [])
        | false => none
      | none => none
    | none => none
  | false => none

theorem Rvs.ids_ne {ρ : Ren} {z : Nat} (hz : ρ z = none) : ∀ {as : List AV} {xs : List Value}, Rvs ρ as xs → ∀ i ∈ idsOf as, i ≠ z
  | [], xs, _, i, hi => by simp [idsOf] at hi
  | a :: t, xs, h, i, hi => by
    obtain ⟨x, ys, rfl, hx, ht⟩ := h.uncons
    simp only [idsOf] at hi
    split at hi
    · cases hx with
      | ptr hb =>
        rcases List.mem_cons.1 hi with rfl | hi
        · intro e; subst e; rw [hz] at hb; cases hb
        · exact ht.ids_ne hz i hi
    · cases hx with
      | slc hb =>
        rcases List.mem_cons.1 hi with rfl | hi
        · intro e; subst e; rw [hz] at hb; cases hb
        · exact ht.ids_ne hz i hi
    · cases hx with
      | own hb _ _ _ =>
        rcases List.mem_cons.1 hi with rfl | hi
        · intro e; subst e; rw [hz] at hb; cases hb
        · exact ht.ids_ne hz i hi
    · exact ht.ids_ne hz i hi

theorem Rvs.lt_all {ρ : Ren} {n : Nat} : ∀ {as : List AV} {xs : List Value}, Rvs ρ as xs → allLt n as = true → Rvs (ρ.cut n) as xs
  | [], xs, h, _ => by rw [h.unnil]; exact .nil
  | a :: t, xs, h, e => by
    obtain ⟨x, ys, rfl, hx, ht⟩ := h.uncons
    simp only [allLt, Bool.and_eq_true] at e
    exact .cons (hx.lt e.1) (ht.lt_all e.2)

theorem view_ok {P : Program} {E : Env} {sym : List Tmp} {lf f : Nat} (X : Ctx P E sym (fun _ => none) lf f) : HeapOk P f (viewG P E sym lf f) := by
  obtain ⟨fn, c, hf, hb, hok, htab⟩ := X.body
  refine ⟨?_, ?_, ?_, ?_⟩
  · intro F ρ as xs h r ups w hg hx hw
    unfold viewG at hg
    split at hg
    · rename_i hlt
      split at hg
      · rename_i h0 hv
        split at hg
        · rename_i q hq
          split at hg
          · rename_i hfr
            simp at hg
            obtain ⟨rfl, rfl⟩ := hg
            unfold isFlat at hfr
            split at hfr
            · rename_i y hy
              have := afun_calls X.env X.mixed hf hb hok (tabOk_none c) (K := fun q' _ => flat q' = some y)
                (Tree.holds_strict (Tree.holds_mono (fun a h => by rw [h]; exact hy) (stripH_holds hq))) (F := frameOf w)
                (hx.lt_all hlt) (viewH_ok hw hv (fun i hi => topOf_lt hi)) (fun id hid => Ren.cut_ge hid)
              refine Calls.mono this ?_
              rintro e w' ⟨v, q', h', ρ', rfl, hk, hrv, hrw, _⟩
              have := hrv.flat_eq hk
              subst this
              exact ⟨v, rfl, .of_flat hy, hw.below hrw.to_below⟩
            · cases hfr
          · cases hg
        · cases hg
      · cases hg
    · cases hg
  · intro as h h' x hle hg
    unfold viewG at hg ⊢
    split at hg
    · rename_i hlt
      split at hg
      · rename_i h0 hv
        simp only [viewH_congr (fun i _ B hB => hle i B hB) hv]
        exact hg
      · cases hg
    · cases hg
  · intro ρ as xs z b h x hx hz hg
    unfold viewG at hg ⊢
    split at hg
    · rename_i hlt
      split at hg
      · rename_i h0 hv
        have := viewH_congr (h' := h) (fun i hi B hB => by
          rw [AH.get_cons, if_neg (fun e => hx.ids_ne hz i hi e.symm)] at hB; exact hB) hv
        simp only [this]
        exact hg
      · cases hg
    · cases hg
  · intro as h c r ups hg
    unfold viewG at hg
    split at hg
    · split at hg
      · split at hg
        · split at hg
          · simp at hg
            obtain ⟨_, _, rfl⟩ := hg
            simp
          · cases hg
        · cases hg
      · cases hg
    · cases hg

/-- What a function comes to, whatever it is handed. -/
theorem any_calls {P : Program} {E : Env} {sym : List Tmp} {tab : BTab} {lf f : Nat} (X : Ctx P E sym tab lf f) {k : Nat} {y : Value}
    (h : (afunR P E sym tab lf f (List.replicate k .any)).holds (fun q => flat q = some y)) {xs : Array Value} (hk : xs.size = k) (w : World) :
    Calls P f xs w (fun e w' => e = .returned y ∧ RowKit.Below w.heap.size w w') := by
  obtain ⟨fn, c, hf, hb, hok, htab⟩ := X.body
  have hx : Rvs Ren.empty (List.replicate k .any) xs.toList := ⟨by simp [hk], fun i a x ha _ => by
    have : a = .any := by
      rw [List.getElem?_replicate] at ha
      split at ha
      · simpa using ha.symm
      · cases ha
    subst this
    exact .any x⟩
  have := afun_calls X.env X.mixed hf hb hok htab (K := fun q _ => flat q = some y) (Tree.holds_bind h) (F := frameOf w) (ρ := Ren.empty) (w := w) hx (RW.init w _) (fun _ _ => rfl)
  have e : xs.toList.toArray = xs := by simp
  rw [e] at this
  refine Calls.mono this ?_
  rintro e w' ⟨v, q, h', ρ', rfl, hk, hrv, hrw, _⟩
  have := hrv.flat_eq hk
  subst this
  exact ⟨rfl, hrw.to_below⟩

abbrev HeapTab := List (FuncId × (List AV → AH → Option (Bool × AV × AH)))

def lookHT : HeapTab → FuncId → Option (List AV → AH → Option (Bool × AV × AH))
  | [], _ => none
  | (f, g) :: t, k => bif Nat.beq f k then some g else lookHT t k

theorem lookHT_mem : ∀ {ps : HeapTab} {f : FuncId} {g}, lookHT ps f = some g → (f, g) ∈ ps
  | [], f, g, h => by simp [lookHT] at h
  | (k, q) :: t, f, g, h => by
    simp only [lookHT] at h
    cases hb : Nat.beq k f with
    | true => rw [hb] at h; simp at h; subst h; rw [Nat.eq_of_beq_eq_true hb]; simp
    | false => rw [hb] at h; exact List.mem_cons_of_mem _ (lookHT_mem h)

def TabHOk (P : Program) (ps : HeapTab) : Prop := ∀ p ∈ ps, Enters P p.1 ∧ HeapOk P p.1 p.2

theorem TabHOk.nil {P : Program} : TabHOk P [] := fun p h => by simp at h
theorem TabHOk.cons {P : Program} {f : FuncId} {g : List AV → AH → Option (Bool × AV × AH)} {t : HeapTab} (h1 : Enters P f) (h : HeapOk P f g) (r : TabHOk P t) : TabHOk P ((f, g) :: t) := by
  intro p hp
  rcases List.mem_cons.1 hp with rfl | hp
  · exact ⟨h1, h⟩
  · exact r p hp

def envS (eqs : List (TypeId × List Nat)) (ps : PureTab) (hs : HeapTab) (ss : List TypeId) : Env := ⟨lookP ps, lookHT hs, lookE eqs, false, true, ss, [], fun _ => none, none, fun _ => none, false, []⟩
/-- Likewise; an assignment under a bool (in a slot of ms) that may be a variable is made of both values. -/
def envM (eqs : List (TypeId × List Nat)) (ps : PureTab) (hs : HeapTab) (ms : List Tmp) : Env := ⟨lookP ps, lookHT hs, lookE eqs, false, true, [], ms, fun _ => none, none, fun _ => none, false, []⟩
theorem envM_ok {P : Program} {eqs : List (TypeId × List Nat)} {ps : PureTab} {hs : HeapTab} {ms : List Tmp} (he : EqsOk P eqs) (hp : TabPOk P ps) (hh : TabHOk P hs) : EnvOk P (envM eqs ps hs ms) :=
  ⟨fun _ _ h => he _ (lookE_mem h), fun _ _ h => hp _ (lookP_mem h), fun _ _ h => hh _ (lookHT_mem h), (fun _ _ h => by cases h), (fun _ _ h => by cases h)⟩
def envH (eqs : List (TypeId × List Nat)) (ps : PureTab) (hs : HeapTab) : Env := envS eqs ps hs []

theorem envS_ok {P : Program} {eqs : List (TypeId × List Nat)} {ps : PureTab} {hs : HeapTab} {ss : List TypeId} (he : EqsOk P eqs) (hp : TabPOk P ps) (hh : TabHOk P hs) : EnvOk P (envS eqs ps hs ss) :=
  ⟨fun _ _ h => he _ (lookE_mem h), fun _ _ h => hp _ (lookP_mem h), fun _ _ h => hh _ (lookHT_mem h), (fun _ _ h => by cases h), (fun _ _ h => by cases h)⟩

theorem envH_ok {P : Program} {eqs : List (TypeId × List Nat)} {ps : PureTab} {hs : HeapTab} (he : EqsOk P eqs) (hp : TabPOk P ps) (hh : TabHOk P hs) : EnvOk P (envH eqs ps hs) :=
  ⟨fun _ _ h => he _ (lookE_mem h), fun _ _ h => hp _ (lookP_mem h), fun _ _ h => hh _ (lookHT_mem h), (fun _ _ h => by cases h), (fun _ _ h => by cases h)⟩

end Go.Rq

/- Contracts at listed values; contracts of functions that read slices. -/
namespace Go.Rq
open Go

theorem CallOk.weaken {P : Program} {f : FuncId} {g g' : List AV → Option (Bool × AV)} (h : ∀ as r, g' as = some (true, r) → g as = some (true, r)) (k : CallOk P f g) : CallOk P f g' := by
  rcases k with ⟨h1, h2⟩ | h2
  · exact .inl ⟨h1, fun ρ as xs r hg hx w => h2 ρ as xs r (h _ _ hg) hx w⟩
  · exact .inr fun ρ as xs r hg hx w => h2 ρ as xs r (h _ _ hg) hx w

/-- What is listed of an argument. -/
def lookT {α β : Type} (e : α → α → Bool) : List (α × β) → α → Option β
  | [], _ => none
  | p :: t, x => match e p.1 x with
    | true => some p.2
    | false => lookT e t x

theorem lookT_mem {α β : Type} {e : α → α → Bool} (he : ∀ x y, e x y = true → x = y) : ∀ {tab : List (α × β)} {x : α} {y : β}, lookT e tab x = some y → (x, y) ∈ tab
  | [], x, y, h => by simp [lookT] at h
  | p :: t, x, y, h => by
    simp only [lookT] at h
    split at h
    · rename_i hp; simp at h; subst h; rw [← he _ _ hp]; simp
    · exact List.mem_cons_of_mem _ (lookT_mem he h)

def fnT1 {α β : Type} (A : Cod α) (B : Cod β) (e : α → α → Bool) (tab : List (α × β)) : List AV → Option (Bool × AV)
  | [a] => match A.dec a with
    | none => none
    | some x => match lookT e tab x with
      | none => none
      | some y => some (true, B.enc y)
  | _ => none

def pairB {α γ : Type} (e : α → α → Bool) (e' : γ → γ → Bool) (p q : α × γ) : Bool := bif e p.1 q.1 then e' p.2 q.2 else false

theorem pairB_eq {α γ : Type} {e : α → α → Bool} (he : ∀ x y, e x y = true → x = y) {e' : γ → γ → Bool} (he' : ∀ x y, e' x y = true → x = y) (p q : α × γ) (h : pairB e e' p q = true) : p = q := by
  unfold pairB at h
  cases h1 : e p.1 q.1 with
  | false => rw [h1] at h; cases h
  | true => rw [h1] at h; exact Prod.ext (he _ _ h1) (he' _ _ h)

def fnT2 {α β γ : Type} (A : Cod α) (C : Cod γ) (B : Cod β) (e : α → α → Bool) (e' : γ → γ → Bool) (tab : List ((α × γ) × β)) : List AV → Option (Bool × AV)
  | [a, c] => match A.dec a, C.dec c with
    | some x, some z => match lookT (pairB e e') tab (x, z) with
      | none => none
      | some y => some (true, B.enc y)
    | _, _ => none
  | _ => none

theorem callT1 {P : Program} {f : FuncId} {α β : Type} {A : Cod α} {B : Cod β} {F : α → β} {e : α → α → Bool} (he : ∀ x y, e x y = true → x = y) {tab : List (α × β)} (ht : ∀ p ∈ tab, F p.1 = p.2)
    (h : CallOk P f (fn1 A B F)) : CallOk P f (fnT1 A B e tab) := by
  refine h.weaken fun as r hg => ?_
  unfold fnT1 at hg
  split at hg
  · split at hg
    · cases hg
    · rename_i x hx
      split at hg
      · cases hg
      · rename_i y hy
        simp at hg; subst hg
        simp [fn1, hx, ht _ (lookT_mem he hy)]
  · cases hg

theorem callT2 {P : Program} {f : FuncId} {α β γ : Type} {A : Cod α} {B : Cod β} {C : Cod γ} {F : α → γ → β} {e : α → α → Bool} (he : ∀ x y, e x y = true → x = y) {e' : γ → γ → Bool} (he' : ∀ x y, e' x y = true → x = y)
    {tab : List ((α × γ) × β)} (ht : ∀ p ∈ tab, F p.1.1 p.1.2 = p.2) (h : CallOk P f (fn2 A C B F)) : CallOk P f (fnT2 A C B e e' tab) := by
  refine h.weaken fun as r hg => ?_
  unfold fnT2 at hg
  split at hg
  · split at hg
    · rename_i x z hx hz
      split at hg
      · cases hg
      · rename_i y hy
        simp at hg; subst hg
        have hm := lookT_mem (pairB_eq he he') hy
        simp [fn2, hx, hz, ht _ hm]
    · cases hg
  · cases hg

/-- A function of one argument, gone through at the listed values. -/
theorem tabT1 {P : Program} {E : Env} {sym : List Tmp} {tab : BTab} {lf f : Nat} (X : Ctx P E sym tab lf f) {α β : Type} {A : Cod α} {B : Cod β} {e : α → α → Bool} (he : ∀ x y, e x y = true → x = y) {l : List (α × β)}
    (h : ∀ p ∈ l, Gives (afunR P E sym tab lf f [A.enc p.1]) (B.val p.2)) : PureOk P f (fnT1 A B e l) := by
  refine pure_core X fun as r hg => ?_
  unfold fnT1 at hg
  split at hg
  · rename_i a
    split at hg
    · cases hg
    · rename_i x hx
      split at hg
      · cases hg
      · rename_i y hy
        simp at hg; subst hg
        refine ⟨[A.enc x], [A.val x], fun ρ xs hxs => ?_, by simp [flatL, A.h1], _, B.h1 _, (h _ (lookT_mem he hy)).out⟩
        obtain ⟨v, ys, rfl, h1, h2⟩ := hxs.uncons
        rw [h2.unnil, A.h2 ρ _ _ _ hx h1]
  · cases hg

/-! Functions that read slices of known length. -/

/-- A slice as it is handed: all of a block, or a row that is owned. -/
inductive SlA where
  | slc (n : Nat)
  | own (es n : Nat)

def SlA.at (s : SlA) (id : Nat) : AV := match s with
  | .slc n => .slc id 0 n n
  | .own es n => .own id es 0 n

def SlA.name (s : SlA) : AV → Option Nat
  | .slc i 0 n m => match s with
    | .slc k => bif Nat.beq n k && Nat.beq m k then some i else none
    | _ => none
  | .own i es 0 n => match s with
    | .own es' k => bif Nat.beq es es' && Nat.beq n k then some i else none
    | _ => none
  | _ => none

theorem bcond {α : Type} {b : Bool} {x : Option α} {y : α} (h : (bif b then x else none) = some y) : b = true ∧ x = some y := by
  cases b with
  | true => exact ⟨rfl, h⟩
  | false => cases h

theorem SlA.name_eq {s : SlA} {a : AV} {i : Nat} (h : s.name a = some i) : a = s.at i := by
  unfold SlA.name at h
  split at h
  · split at h
    · obtain ⟨h1, h2⟩ := bcond h
      simp only [Bool.and_eq_true, Option.some.injEq] at h1 h2
      obtain ⟨e1, e2⟩ := h1
      have e1 := Nat.eq_of_beq_eq_true e1
      have e2 := Nat.eq_of_beq_eq_true e2
      subst e1; subst e2; subst h2; rfl
    · cases h
  · split at h
    · obtain ⟨h1, h2⟩ := bcond h
      simp only [Bool.and_eq_true, Option.some.injEq] at h1 h2
      obtain ⟨e1, e2⟩ := h1
      have e1 := Nat.eq_of_beq_eq_true e1
      have e2 := Nat.eq_of_beq_eq_true e2
      subst e1; subst e2; subst h2; rfl
    · cases h
  · cases h

/-- The same slice under another name of the same block. -/
theorem SlA.moved {ρ σ : Ren} {s : SlA} {i j : Nat} {x : Value} (h : Rv ρ (s.at i) x) : ∃ b, ρ i = some b ∧ (σ j = some b → σ.cells j = ρ.cells i → σ.base j = ρ.base i → Rv σ (s.at j) x) := by
  cases s with
  | slc n =>
    simp only [SlA.at] at h
    cases h with
    | slc hb => exact ⟨_, hb, fun h _ k0 => by rw [← k0]; exact .slc h⟩
  | own es n =>
    simp only [SlA.at] at h
    cases h with
    | own hb h0 hc hl hm => exact ⟨_, hb, fun h k k0 => .own h (k0.trans h0) (by rw [k]; exact hc) hl hm⟩

/-- The datum in a block. -/
def blkDec {α : Type} (C : CC α) (t : TypeId) (h : AH) (i : Nat) : Option α :=
  match h.get i with
  | none => none
  | some B => match Nat.beq B.ty t with
    | false => none
    | true => C.dec B.cs

def twoAH {α γ : Type} (A : CC α) (C : CC γ) (t1 t2 : TypeId) (x : α) (y : γ) : AH := [(0, some ⟨false, t1, A.enc x⟩), (1, some ⟨false, t2, C.enc y⟩)]

theorem rvs_prefix {ρ : Ren} : ∀ {cs : List AV} {xs : List Value}, cs.length ≤ xs.length → (∀ (i : Nat) (a : AV) (x : Value), cs[i]? = some a → xs[i]? = some x → Rv ρ a x) → Rvs ρ cs (xs.take cs.length) :=
  fun hl h => ⟨by simp [hl], fun i a x ha hx => by
    rw [List.getElem?_take] at hx
    split at hx
    · exact h i a x ha hx
    · cases hx⟩

/-- What is known of a block, said anew: by the datum that it tells. -/
theorem blk_again {α : Type} {F : Fr} {ρ : Ren} {h : AH} {w : World} (hw : RW F ρ h w) {C : CC α} {t : TypeId} {i : Nat} {x : α} (hd : blkDec C t h i = some x) :
    ∃ b xs fr, ρ i = some b ∧ w.heap[b]? = some (.cells xs t fr) ∧ xs.size = ρ.cells i ∧ ρ.base i + (C.enc x).length ≤ xs.size ∧ ∀ (σ : Ren) (j : Nat) (a : AV) (v : Value), (C.enc x)[j]? = some a → xs[ρ.base i + j]? = some v → Rv σ a v := by
  unfold blkDec at hd
  split at hd
  · cases hd
  · rename_i B hB
    split at hd
    · cases hd
    · rename_i ht
      have ht := Nat.eq_of_beq_eq_true ht
      obtain ⟨b, o, h1, h2, ⟨xs, fr, rfl, h3, h4, h5⟩, h6, h7⟩ := hw.blk i B hB
      have hr := rvs_prefix (ρ := ρ) (cs := B.cs) (xs := xs.toList.drop (ρ.base i)) (by simp; omega) (fun i a x ha hx => h5 i a x ha (by simpa using hx))
      have hv := C.h2 ρ _ _ _ hd hr
      have hlen : (C.enc x).length = B.cs.length := by
        have := (Rvs.of_flats (ρ := ρ) (C.h1 x)).1
        rw [this, ← hv]; exact hr.1.symm
      refine ⟨b, xs, fr, h1, by rw [← ht]; exact h2, by simpa [count] using h7, by omega, fun σ j a v ha hv' => ?_⟩
      have h8 := Rvs.of_flats (ρ := σ) (C.h1 x)
      refine h8.2 j a v ha ?_
      rw [← hv, List.getElem?_take, if_pos (by rw [← hlen]; exact (List.getElem?_eq_some_iff.1 ha).1)]
      simpa using hv'

/-- What a function that reads two slices comes to. -/
structure GivesH (t : Tree (AV × AH)) (v : Value) : Prop where
  out : t.holds (fun q => flat q.1 = some v)

/-- A walk from a heap, of which the answer alone is kept. -/
def afunH (P : Program) (E : Env) (sym : List Tmp) (lf f : Nat) (as : List AV) (h : AH) (n : Nat) : Tree AV := (afun P E sym (fun _ => none) lf f as h n).bind fun q => .leaf q.1

theorem givesH {P : Program} {E : Env} {sym : List Tmp} {lf f : Nat} {as : List AV} {h : AH} {n : Nat} {u : Tree AV} {v : Value} (e : (afunH P E sym lf f as h n).strict = u) (hu : u.holds (fun q => flat q = some v)) :
    GivesH (afun P E sym (fun _ => none) lf f as h n) v := ⟨Tree.holds_bind (Tree.holds_strict (by rw [show ((afun P E sym (fun _ => none) lf f as h n).bind fun q => Tree.leaf q.1).strict = u from e]; exact hu))⟩

def sl2 {α β γ : Type} (s1 s2 : SlA) (t1 t2 : TypeId) (A : CC α) (C : CC γ) (B : Cod β) (F : α → γ → β) : List AV → AH → Option (Bool × AV × AH)
  | [a, c], h => match s1.name a, s2.name c with
    | some i, some j => match blkDec A t1 h i, blkDec C t2 h j with
      | some x, some y => some (true, B.enc (F x y), [])
      | _, _ => none
    | _, _ => none
  | _, _ => none

/-- Likewise with an exact argument ahead. -/
def sl3 {α β γ δ : Type} (s1 s2 : SlA) (t1 t2 : TypeId) (D : Cod δ) (A : CC α) (C : CC γ) (B : Cod β) (F : δ → α → γ → β) : List AV → AH → Option (Bool × AV × AH)
  | [d, a, c], h => match D.dec d, s1.name a, s2.name c with
    | some z, some i, some j => match blkDec A t1 h i, blkDec C t2 h j with
      | some x, some y => some (true, B.enc (F z x y), [])
      | _, _ => none
    | _, _, _ => none
  | _, _ => none

theorem two_world {α γ : Type} {F : Fr} {ρ : Ren} {h : AH} {w : World} (hw : RW F ρ h w) {A : CC α} {C : CC γ} {t1 t2 : TypeId} {i j : Nat} {x : α} {y : γ} (h1 : blkDec A t1 h i = some x) (h2 : blkDec C t2 h j = some y)
    {s1 s2 : SlA} {u v : Value} (hu : Rv ρ (s1.at i) u) (hv : Rv ρ (s2.at j) v) :
    ∃ σ : Ren, RW (frameOf w) σ (twoAH A C t1 t2 x y) w ∧ Rv σ (s1.at 0) u ∧ Rv σ (s2.at 1) v ∧ ∀ id, 2 ≤ id → σ id = none := by
  obtain ⟨b, xs, fr, p1, p2, p3, p4, p5⟩ := blk_again hw h1
  obtain ⟨c, ys, gr, q1, q2, q3, q4, q5⟩ := blk_again hw h2
  let σ : Ren := ⟨fun id => if id = 0 then some b else if id = 1 then some c else none, fun id => if id = 0 then xs.size else ys.size, fun id => if id = 0 then ρ.base i else ρ.base j⟩
  have s0 : σ 0 = some b := rfl
  have s1' : σ 1 = some c := rfl
  obtain ⟨b', e1, k1⟩ := SlA.moved (σ := σ) (j := 0) hu
  obtain ⟨c', e2, k2⟩ := SlA.moved (σ := σ) (j := 1) hv
  rw [p1] at e1; simp at e1; subst e1
  rw [q1] at e2; simp at e2; subst e2
  refine ⟨σ, ⟨fun id B hB => ?_, fun id id' B B' d hB hB' hwr => ?_, fun _ _ h => h, rfl, rfl, rfl⟩, k1 s0 p3 rfl, k2 s1' q3 rfl, fun id hid => by show (if id = 0 then some b else if id = 1 then some c else none) = none; rw [if_neg (by omega), if_neg (by omega)]⟩
  · unfold twoAH at hB
    rw [AH.get_cons] at hB
    split at hB
    · rename_i e; subst e; simp at hB; subst hB
      exact ⟨b, _, s0, p2, ⟨xs, fr, rfl, (fun h => by cases h), p4, fun k a v ha hv => p5 σ k a v ha hv⟩, (fun h => by cases h), rfl⟩
    · rw [AH.get_cons] at hB
      split at hB
      · rename_i e; subst e; simp at hB; subst hB
        exact ⟨c, _, s1', q2, ⟨ys, gr, rfl, (fun h => by cases h), q4, fun k a v ha hv => q5 σ k a v ha hv⟩, (fun h => by cases h), rfl⟩
      · simp [AH.get] at hB
  · unfold twoAH at hB
    rw [AH.get_cons] at hB
    split at hB
    · simp at hB; subst hB; cases hwr
    · rw [AH.get_cons] at hB
      split at hB
      · simp at hB; subst hB; cases hwr
      · simp [AH.get] at hB

theorem blkDec_congr {α : Type} {C : CC α} {t : TypeId} {h h' : AH} {i : Nat} {x : α} (hh : ∀ B, h.get i = some B → h'.get i = some B) (hd : blkDec C t h i = some x) : blkDec C t h' i = some x := by
  unfold blkDec at hd ⊢
  split at hd
  · cases hd
  · rename_i B hB
    simp only [hh B hB]; exact hd

theorem SlA.known {ρ : Ren} {s : SlA} {i : Nat} {x : Value} (h : Rv ρ (s.at i) x) : ∃ b, ρ i = some b := by
  obtain ⟨b, h, _⟩ := SlA.moved (σ := ρ) (j := i) h
  exact ⟨b, h⟩

theorem sl2_ok {P : Program} {E : Env} {sym : List Tmp} {lf f : Nat} {tab : BTab} {c : Code} {fn : Func} (hE : EnvOk P E) (hm : P.follows .mixedOrders = true) (hf : P.funcs.toList[f]? = some fn) (hb : fn.body = some c)
    (hok : codeOk E c = true) (htab : TabOk P 2 tab c) {α β γ : Type} {A : CC α} {C : CC γ} {B : Cod β} {F : α → γ → β} {s1 s2 : SlA} {t1 t2 : TypeId}
    (hr : ∀ x y, GivesH (afun P E sym tab lf f [s1.at 0, s2.at 1] (twoAH A C t1 t2 x y) 2) (B.val (F x y))) : HeapOk P f (sl2 s1 s2 t1 t2 A C B F) := by
  have key : ∀ {as : List AV} {h : AH} {o : Bool × AV × AH}, sl2 s1 s2 t1 t2 A C B F as h = some o → ∃ i j x y, as = [s1.at i, s2.at j] ∧ blkDec A t1 h i = some x ∧ blkDec C t2 h j = some y ∧ o = (true, B.enc (F x y), []) := by
    intro as h o hg
    unfold sl2 at hg
    split at hg
    · rename_i a c' 
      split at hg
      · rename_i i j hi hj
        split at hg
        · rename_i x y hx hy
          simp at hg
          exact ⟨i, j, x, y, by rw [SlA.name_eq hi, SlA.name_eq hj], hx, hy, hg.symm⟩
        · cases hg
      · cases hg
    · cases hg
  have again : ∀ {as : List AV} {h h' : AH} {o : Bool × AV × AH}, sl2 s1 s2 t1 t2 A C B F as h = some o → (∀ i, i ∈ idsOf as → ∀ B, h.get i = some B → h'.get i = some B) → sl2 s1 s2 t1 t2 A C B F as h' = some o := by
    intro as h h' o hg hh
    unfold sl2 at hg ⊢
    split at hg
    · rename_i a c'
      split at hg
      · rename_i i j hi hj
        have ea := SlA.name_eq hi
        have ec := SlA.name_eq hj
        have hi' : i ∈ idsOf [a, c'] := by subst ea; cases s1 <;> simp [SlA.at, idsOf]
        have hj' : j ∈ idsOf [a, c'] := by
          subst ea; subst ec
          cases s1 <;> cases s2 <;> simp [SlA.at, idsOf]
        split at hg
        · rename_i x y hx hy
          simp only [blkDec_congr (hh i hi') hx, blkDec_congr (hh j hj') hy]; exact hg
        · cases hg
      · cases hg
    · cases hg
  refine ⟨?_, fun as h h' x hle hg => again hg (fun i _ B hB => hle i B hB), fun ρ as xs z b h x hx hz hg => again hg (fun i hi B hB => by
      rw [AH.get_cons, if_neg (fun e => hx.ids_ne hz i hi e.symm)] at hB; exact hB), fun as h c' r ups hg => ?_⟩
  · intro F' ρ as xs h r ups w hg hx hw
    obtain ⟨i, j, x, y, rfl, h1, h2, ho⟩ := key hg
    simp at ho
    obtain ⟨rfl, rfl⟩ := ho
    obtain ⟨u, xs', rfl, hu, hx'⟩ := hx.uncons
    obtain ⟨v, xs'', rfl, hv, hx''⟩ := hx'.uncons
    rw [hx''.unnil]
    obtain ⟨σ, g1, g2, g3, g4⟩ := two_world hw h1 h2 hu hv
    have := afun_calls hE hm hf hb hok htab (K := fun q _ => flat q = some (B.val (F x y))) (hr x y).out (F := frameOf w) (.cons g2 (.cons g3 .nil)) g1 g4
    refine Calls.mono this ?_
    rintro e w' ⟨v', q', h', ρ', rfl, hk, hrv, hrw, _⟩
    have := hrv.flat_eq hk
    subst this
    exact ⟨_, rfl, .of_flat (B.h1 _), hw.below hrw.to_below⟩
  · obtain ⟨i, j, x, y, _, _, _, ho⟩ := key hg
    simp at ho
    obtain ⟨_, _, rfl⟩ := ho
    simp

theorem sl3_ok {P : Program} {E : Env} {sym : List Tmp} {lf f : Nat} {tab : BTab} {c : Code} {fn : Func} (hE : EnvOk P E) (hm : P.follows .mixedOrders = true) (hf : P.funcs.toList[f]? = some fn) (hb : fn.body = some c)
    (hok : codeOk E c = true) (htab : TabOk P 2 tab c) {α β γ δ : Type} {D : Cod δ} {A : CC α} {C : CC γ} {B : Cod β} {F : δ → α → γ → β} {s1 s2 : SlA} {t1 t2 : TypeId}
    (hr : ∀ z x y, GivesH (afun P E sym tab lf f [D.enc z, s1.at 0, s2.at 1] (twoAH A C t1 t2 x y) 2) (B.val (F z x y))) : HeapOk P f (sl3 s1 s2 t1 t2 D A C B F) := by
  have key : ∀ {as : List AV} {h : AH} {o : Bool × AV × AH}, sl3 s1 s2 t1 t2 D A C B F as h = some o → ∃ d z i j x y, as = [d, s1.at i, s2.at j] ∧ D.dec d = some z ∧ blkDec A t1 h i = some x ∧ blkDec C t2 h j = some y ∧ o = (true, B.enc (F z x y), []) := by
    intro as h o hg
    unfold sl3 at hg
    split at hg
    · rename_i d a c'
      split at hg
      · rename_i z i j hz hi hj
        split at hg
        · rename_i x y hx hy
          simp at hg
          exact ⟨d, z, i, j, x, y, by rw [SlA.name_eq hi, SlA.name_eq hj], hz, hx, hy, hg.symm⟩
        · cases hg
      · cases hg
    · cases hg
  have more : ∀ (d : AV) (l : List AV) (i : Nat), i ∈ idsOf l → i ∈ idsOf (d :: l) := by
    intro d l i hi
    simp only [idsOf]
    split <;> simp [hi]
  have again : ∀ {as : List AV} {h h' : AH} {o : Bool × AV × AH}, sl3 s1 s2 t1 t2 D A C B F as h = some o → (∀ i, i ∈ idsOf as → ∀ B, h.get i = some B → h'.get i = some B) → sl3 s1 s2 t1 t2 D A C B F as h' = some o := by
    intro as h h' o hg hh
    unfold sl3 at hg ⊢
    split at hg
    · rename_i d a c'
      split at hg
      · rename_i z i j hz hi hj
        have ea := SlA.name_eq hi
        have ec := SlA.name_eq hj
        have hi' : i ∈ idsOf [d, a, c'] := more d _ i (by subst ea; cases s1 <;> simp [SlA.at, idsOf])
        have hj' : j ∈ idsOf [d, a, c'] := more d _ j (by
          subst ea; subst ec
          cases s1 <;> cases s2 <;> simp [SlA.at, idsOf])
        split at hg
        · rename_i x y hx hy
          simp only [blkDec_congr (hh i hi') hx, blkDec_congr (hh j hj') hy]; exact hg
        · cases hg
      · cases hg
    · cases hg
  refine ⟨?_, fun as h h' x hle hg => again hg (fun i _ B hB => hle i B hB), fun ρ as xs z b h x hx hz hg => again hg (fun i hi B hB => by
      rw [AH.get_cons, if_neg (fun e => hx.ids_ne hz i hi e.symm)] at hB; exact hB), fun as h c' r ups hg => ?_⟩
  · intro F' ρ as xs h r ups w hg hx hw
    obtain ⟨d, z, i, j, x, y, rfl, hz, h1, h2, ho⟩ := key hg
    simp at ho
    obtain ⟨rfl, rfl⟩ := ho
    obtain ⟨p, xs0, rfl, hp, hx0⟩ := hx.uncons
    obtain ⟨u, xs', rfl, hu, hx'⟩ := hx0.uncons
    obtain ⟨v, xs'', rfl, hv, hx''⟩ := hx'.uncons
    rw [hx''.unnil]
    obtain ⟨σ, g1, g2, g3, g4⟩ := two_world hw h1 h2 hu hv
    have hpv := D.h2 ρ _ _ _ hz hp
    subst hpv
    have := afun_calls hE hm hf hb hok htab (K := fun q _ => flat q = some (B.val (F z x y))) (hr z x y).out (F := frameOf w) (.cons (.of_flat (D.h1 z)) (.cons g2 (.cons g3 .nil))) g1 g4
    refine Calls.mono this ?_
    rintro e w' ⟨v', q', h', ρ', rfl, hk, hrv, hrw, _⟩
    have := hrv.flat_eq hk
    subst this
    exact ⟨_, rfl, .of_flat (B.h1 _), hw.below hrw.to_below⟩
  · obtain ⟨d, z, i, j, x, y, _, _, _, _, ho⟩ := key hg
    simp at ho
    obtain ⟨_, _, rfl⟩ := ho
    simp


/-! Functions that write one block that they are handed. -/

/-- A store into a block, other blocks may have come. -/
theorem RW.wrote {F : Fr} {ρ : Ren} {h : AH} {w w' : World} (r : RW F ρ h w) {id b : Nat} {B : Blk} (hb : h.get id = some B) (hρ : ρ id = some b) (hwr : B.wr = true)
    {xs : Array Value} (hx : w.heap[b]? = some (.cells xs B.ty (0, 0))) (cs' : List AV) (ys : Array Value)
    (hbz : ρ.base id = 0) (hsz : ys.size = xs.size) (hys : cs'.length ≤ ys.size) (hrel : ∀ (i : Nat) (a : AV) (x : Value), cs'[i]? = some a → ys[i]? = some x → Rv ρ a x)
    (h1 : w'.heap[b]? = some (.cells ys B.ty (0, 0))) (h2 : ∀ k o, k ≠ b → w.heap[k]? = some o → w'.heap[k]? = some o) (h3 : w'.os = w.os) (h4 : w'.tape = w.tape) (h5 : w'.output = w.output) :
    RW F ρ ((id, some ⟨B.wr, B.ty, cs'⟩) :: h) w' := by
  obtain ⟨b0, o0, hb0, ho0, hB0, hF0, hcn⟩ := r.blk id B hb
  rw [hρ] at hb0; simp at hb0; subst hb0
  rw [hx] at ho0; simp at ho0; subst ho0
  refine ⟨fun j C hj => ?_, fun j j' C C' c hj hj' hw hc hc' => ?_, fun k o hk => ?_, h3.trans r.os, h4.trans r.tape, h5.trans r.out⟩
  · rw [AH.get_cons] at hj
    split at hj
    · rename_i e; subst e; simp at hj; subst hj
      exact ⟨b, _, hρ, h1, ⟨ys, (0, 0), rfl, fun _ => ⟨rfl, hbz⟩, by rw [hbz]; simpa using hys, by rw [hbz]; simpa using hrel⟩, fun _ => hF0 hwr, by simp only [count] at hcn ⊢; rw [hsz]; exact hcn⟩
    · rename_i e
      obtain ⟨c, o, hc, ho, hC, hk⟩ := r.blk j C hj
      have hne : c ≠ b := fun ec => by subst ec; exact e (r.inj id j B C c hb hj hwr hρ hc)
      exact ⟨c, o, hc, h2 c o hne ho, hC, hk⟩
  · have get' : ∀ k C, AH.get ((id, some ⟨B.wr, B.ty, cs'⟩) :: h) k = some C → ∃ C0, h.get k = some C0 ∧ C0.wr = C.wr := by
      intro k C hk
      rw [AH.get_cons] at hk
      split at hk
      · rename_i e; subst e; simp at hk; subst hk; exact ⟨B, hb, rfl⟩
      · exact ⟨C, hk, rfl⟩
    obtain ⟨C0, hC0, hw0⟩ := get' j C hj
    obtain ⟨C1, hC1, hw1⟩ := get' j' C' hj'
    exact r.inj j j' C0 C1 c hC0 hC1 (by rw [hw0]; exact hw) hc hc'
  · have hne : k ≠ b := fun e => by subst e; rw [hF0 hwr] at hk; cases hk
    exact h2 k o hne (r.fr k o hk)

/-- The datum in a block that may be written. -/
def blkDecW {α : Type} (C : CC α) (t : TypeId) (h : AH) (i : Nat) : Option α :=
  match h.get i with
  | none => none
  | some B => match B.wr && Nat.beq B.ty t with
    | false => none
    | true => C.dec B.cs

theorem blkDecW_congr {α : Type} {C : CC α} {t : TypeId} {h h' : AH} {i : Nat} {x : α} (hh : ∀ B, h.get i = some B → h'.get i = some B) (hd : blkDecW C t h i = some x) : blkDecW C t h' i = some x := by
  unfold blkDecW at hd ⊢
  split at hd
  · cases hd
  · rename_i B hB
    simp only [hh B hB]; exact hd

/-- The second argument's block is written, by the other arguments; nothing is handed back. -/
def wr4 {α β γ δ : Type} (t : TypeId) (D : Cod δ) (C : CC γ) (A : Cod α) (B : Cod β) (F : δ → γ → α → β → γ) : List AV → AH → Option (Bool × AV × AH)
  | [d, .ptr i 0, a, b], h => match D.dec d, blkDecW C t h i, A.dec a, B.dec b with
    | some z, some w, some x, some y => some (true, .tup [], [(i, some ⟨true, t, C.enc (F z w x y)⟩)])
    | _, _, _, _ => none
  | _, _ => none

/-- What is left in the first block. -/
def outW (t : TypeId) (q : AV × AH) : AV := match q.2.get 0 with
  | none => .any
  | some B => match B.wr && Nat.beq B.ty t with
    | true => .tup [q.1, .agg B.cs]
    | false => .any

theorem outW_eq {t : TypeId} {q : AV × AH} {a : AV} {cs : List AV} (h : outW t q = .tup [a, .agg cs]) : q.1 = a ∧ q.2.get 0 = some ⟨true, t, cs⟩ := by
  unfold outW at h
  split at h
  · cases h
  · rename_i B hB
    split at h
    · rename_i hc
      simp only [Bool.and_eq_true] at hc
      simp at h
      obtain ⟨h1, h2⟩ := h
      refine ⟨h1, ?_⟩
      rw [hB]
      obtain ⟨wr, ty, cs'⟩ := B
      simp at hc h2
      obtain ⟨e1, e2⟩ := hc
      subst e1; subst e2; subst h2
      rfl
    · cases h

/-- A walk that starts with a block to be written. -/
def afunW (P : Program) (E : Env) (sym : List Tmp) (lf f : Nat) (t : TypeId) (as : List AV) (cs : List AV) : Tree AV := (afun P E sym (fun _ => none) lf f as [(0, some ⟨true, t, cs⟩)] 1).bind fun q => .leaf (outW t q)

theorem wr4_ok {P : Program} {E : Env} {sym : List Tmp} {lf f : Nat} {c : Code} {fn : Func} (hE : EnvOk P E) (hm : P.follows .mixedOrders = true) (hf : P.funcs.toList[f]? = some fn) (hb : fn.body = some c)
    (hok : codeOk E c = true) {α β γ δ : Type} {t : TypeId} {D : Cod δ} {C : CC γ} {A : Cod α} {B : Cod β} {F : δ → γ → α → β → γ}
    (hr : ∀ z w x y, (afunW P E sym lf f t [D.enc z, .ptr 0 0, A.enc x, B.enc y] (C.enc w)).strict = .leaf (.tup [.tup [], .agg (C.enc (F z w x y))])) : HeapOk P f (wr4 t D C A B F) := by
  have key : ∀ {as : List AV} {h : AH} {o : Bool × AV × AH}, wr4 t D C A B F as h = some o → ∃ d i a b z w x y, as = [d, .ptr i 0, a, b] ∧ D.dec d = some z ∧ blkDecW C t h i = some w ∧ A.dec a = some x ∧ B.dec b = some y ∧ o = (true, .tup [], [(i, some ⟨true, t, C.enc (F z w x y)⟩)]) := by
    intro as h o hg
    unfold wr4 at hg
    split at hg
    · rename_i d i a b
      split at hg
      · rename_i z w x y h0 h1 h2 h3
        simp at hg
        exact ⟨d, i, a, b, z, w, x, y, rfl, h0, h1, h2, h3, hg.symm⟩
      · cases hg
    · cases hg
  have again : ∀ {as : List AV} {h h' : AH} {o : Bool × AV × AH}, wr4 t D C A B F as h = some o → (∀ i, i ∈ idsOf as → ∀ B, h.get i = some B → h'.get i = some B) → wr4 t D C A B F as h' = some o := by
    intro as h h' o hg hh
    obtain ⟨d, i, a, b, z, w, x, y, rfl, h0, h1, h2, h3, rfl⟩ := key hg
    have hi : i ∈ idsOf [d, .ptr i 0, a, b] := by
      simp only [idsOf]
      split <;> simp
    unfold wr4
    simp only [h0, blkDecW_congr (hh i hi) h1, h2, h3]
  refine ⟨?_, fun as h h' x hle hg => again hg (fun i _ B hB => hle i B hB), fun ρ as xs z b h x hx hz hg => again hg (fun i hi B hB => by
      rw [AH.get_cons, if_neg (fun e => hx.ids_ne hz i hi e.symm)] at hB; exact hB), fun as h c' r ups hg => ?_⟩
  · intro F' ρ as xs h r ups w hg hx hw
    obtain ⟨d, i, a, bb, z, w0, x, y, rfl, h0, h1, h2, h3, ho⟩ := key hg
    simp at ho
    obtain ⟨rfl, rfl⟩ := ho
    obtain ⟨v0, xs0, rfl, hv0, hx0⟩ := hx.uncons
    obtain ⟨v1, xs1, rfl, hv1, hx1⟩ := hx0.uncons
    obtain ⟨v2, xs2, rfl, hv2, hx2⟩ := hx1.uncons
    obtain ⟨v3, xs3, rfl, hv3, hx3⟩ := hx2.uncons
    rw [hx3.unnil]
    have e0 := D.h2 ρ _ _ _ h0 hv0
    have e2 := A.h2 ρ _ _ _ h2 hv2
    have e3 := B.h2 ρ _ _ _ h3 hv3
    subst e0; subst e2; subst e3
    unfold blkDecW at h1
    split at h1
    · cases h1
    rename_i Bk hBk
    split at h1
    · cases h1
    rename_i hc
    simp only [Bool.and_eq_true] at hc
    obtain ⟨c1, c2⟩ := hc
    have c2 := Nat.eq_of_beq_eq_true c2
    obtain ⟨b, o, p1, p2, ⟨cx, fr, rfl, p3, p4, p5⟩, p6, p7⟩ := hw.blk i Bk hBk
    have pz := (p3 c1).2
    rw [(p3 c1).1, c2] at p2
    rw [pz] at p4 p5
    simp only [Nat.zero_add] at p4 p5
    have hpre := rvs_prefix (ρ := ρ) (cs := Bk.cs) (xs := cx.toList) (by simpa using p4) (fun i a x ha hx => p5 i a x ha (by simpa using hx))
    have hval := C.h2 ρ _ _ _ h1 hpre
    have hlen : (C.enc w0).length = Bk.cs.length := by
      have := (Rvs.of_flats (ρ := ρ) (C.h1 w0)).1
      rw [this, ← hval]; exact hpre.1.symm
    let F1 : Fr := ⟨fun k => if k = b then none else w.heap[k]?, w.os, w.tape, w.output⟩
    let σ : Ren := ⟨fun id => if id = 0 then some b else none, fun _ => cx.size, fun _ => 0⟩
    have hσ : σ 0 = some b := rfl
    have hRW : RW F1 σ [(0, some ⟨true, t, C.enc w0⟩)] w := by
      refine ⟨fun id B hB => ?_, fun id id' B B' d hB hB' _ => ?_, fun k o hk => ?_, rfl, rfl, rfl⟩
      · rw [AH.get_cons] at hB
        split at hB
        · rename_i e; subst e; simp at hB; subst hB
          refine ⟨b, _, hσ, p2, ⟨cx, (0, 0), rfl, fun _ => ⟨rfl, rfl⟩, by show 0 + (C.enc w0).length ≤ cx.size; rw [hlen, Nat.zero_add]; exact p4, fun j a v ha hv => ?_⟩, fun _ => if_pos rfl, rfl⟩
          rw [show σ.base 0 = 0 from rfl, Nat.zero_add] at hv
          have h8 := Rvs.of_flats (ρ := σ) (C.h1 w0)
          refine h8.2 j a v ha ?_
          rw [← hval, List.getElem?_take, if_pos (by rw [← hlen]; exact (List.getElem?_eq_some_iff.1 ha).1)]
          simpa using hv
        · simp [AH.get] at hB
      · have e : ∀ {k : Nat} {D : Blk}, AH.get [(0, some ⟨true, t, C.enc w0⟩)] k = some D → k = 0 := by
          intro k D hk
          rw [AH.get_cons] at hk
          split at hk
          · rename_i e; exact e.symm
          · simp [AH.get] at hk
        intro _ _
        rw [e hB, e hB']
      · have hk' : (if k = b then none else w.heap[k]?) = some o := hk
        split at hk'
        · cases hk'
        · exact hk'
    cases hv1 with
    | ptr hpb =>
    rw [p1] at hpb; simp at hpb; subst hpb
    rw [pz, Nat.zero_add]
    have hq0 : (afunW P E sym lf f t [D.enc z, .ptr 0 0, A.enc x, B.enc y] (C.enc w0)).holds (fun a => a = .tup [.tup [], .agg (C.enc (F z w0 x y))]) := Tree.holds_strict (by rw [hr]; exact (rfl : AV.tup [.tup [], .agg (C.enc (F z w0 x y))] = _))
    have hq1 : (afun P E sym (fun _ => none) lf f [D.enc z, .ptr 0 0, A.enc x, B.enc y] [(0, some ⟨true, t, C.enc w0⟩)] 1).holds (fun q : AV × AH => outW t q = .tup [.tup [], .agg (C.enc (F z w0 x y))]) := Tree.holds_bind (g := fun q => .leaf (outW t q)) hq0
    have hcalls := afun_calls hE hm hf hb hok (tabOk_none c) (K := fun q h' => q = .tup [] ∧ h'.get 0 = some ⟨true, t, C.enc (F z w0 x y)⟩)
      (Tree.holds_mono (fun q hq => outW_eq hq) hq1)
      (F := F1) (xs := [D.val z, .pointer (some ⟨b, 0, none⟩), A.val x, B.val y]) (.cons (.of_flat (D.h1 z)) (.cons (.ptr hσ) (.cons (.of_flat (A.h1 x)) (.cons (.of_flat (B.h1 y)) .nil)))) hRW (fun id hid => by show (if id = 0 then some b else none) = none; rw [if_neg (by omega)])
    refine Calls.mono hcalls ?_
    rintro e w' ⟨v, q, h', ρ', rfl, ⟨rfl, hget⟩, hrv, hrw, hsame⟩
    refine ⟨v, rfl, ?_, ?_⟩
    · obtain ⟨us, rfl, hus⟩ := hrv.tup_iff
      have := hus.unnil
      have e : us = #[] := by apply Array.ext'; simpa using this
      subst e
      exact .tup_mk .nil
    · obtain ⟨b', o', q1, q2, ⟨ys, fr', rfl, q3, q4, q5⟩, q6, q7⟩ := hrw.blk 0 _ hget
      obtain ⟨s1, s2⟩ := hsame 0 (by omega)
      rw [s1, hσ] at q1; simp at q1; subst q1
      rw [(q3 rfl).2, Nat.zero_add] at q4
      simp only [(q3 rfl).2, Nat.zero_add] at q5
      rw [(q3 rfl).1] at q2
      have q7 : ys.size = ρ'.cells 0 := q7
      rw [(s2 b hσ).1] at q7
      have hst := hw.wrote (w' := w') hBk p1 c1 (xs := cx) (by rw [c2]; exact p2) (C.enc (F z w0 x y)) ys pz q7 q4 (fun j a v ha hv => by
        have h8 := (Rvs.of_flats (ρ := ρ') (C.h1 (F z w0 x y)))
        have h9 := Rvs.of_flats (ρ := ρ) (C.h1 (F z w0 x y))
        have hlt : j < (C.enc (F z w0 x y)).length := (List.getElem?_eq_some_iff.1 ha).1
        obtain ⟨u, hu, hau⟩ := h9.getD ha
        have hr' : Rvs ρ' (C.enc (F z w0 x y)) (ys.toList.take (C.enc (F z w0 x y)).length) := rvs_prefix (by simpa using q4) (fun i a x ha hx => q5 i a x ha (by simpa using hx))
        have hfl := hr'.flats_eq (C.h1 (F z w0 x y))
        have : (ys.toList.take (C.enc (F z w0 x y)).length)[j]? = some v := by rw [List.getElem?_take, if_pos hlt]; simpa using hv
        rw [hfl, hu] at this
        simp at this; subst this
        exact hau) (by rw [c2]; exact q2) (fun k o hk hko => hrw.fr k o (by show (if k = b then none else w.heap[k]?) = some o; rw [if_neg hk]; exact hko)) hrw.os hrw.tape hrw.out
      rw [c1, c2] at hst
      exact hst
  · obtain ⟨d, i, a, b, z, w, x, y, rfl, h0, h1, h2, h3, ho⟩ := key hg
    simp at ho
    obtain ⟨_, _, rfl⟩ := ho
    intro p hp
    simp at hp; subst hp
    unfold blkDecW at h1
    split at h1
    · cases h1
    · rename_i Bk hBk; exact ⟨Bk, hBk⟩

/-- One way or another, by the form of the arguments. -/
def gIf (p : List AV → Bool) (g g' : List AV → AH → Option (Bool × AV × AH)) (as : List AV) (h : AH) : Option (Bool × AV × AH) := bif p as then g as h else g' as h

theorem gIf_ok {P : Program} {f : FuncId} {p : List AV → Bool} {g g' : List AV → AH → Option (Bool × AV × AH)} (h : HeapOk P f g) (k : HeapOk P f g') : HeapOk P f (gIf p g g') := by
  refine ⟨fun F ρ as xs hh r ups w hg hx hw => ?_, fun as hh h' x hle hg => ?_, fun ρ as xs z b hh x hx hz hg => ?_, fun as hh c r ups hg => ?_⟩ <;> unfold gIf at hg <;> (try unfold gIf) <;> cases hp : p as <;> rw [hp] at hg <;> simp only [cond_true, cond_false] at hg ⊢
  · exact k.run F ρ as xs hh r ups w hg hx hw
  · exact h.run F ρ as xs hh r ups w hg hx hw
  · exact k.mono as hh h' x hle hg
  · exact h.mono as hh h' x hle hg
  · exact k.local_ ρ as xs z b hh x hx hz hg
  · exact h.local_ ρ as xs z b hh x hx hz hg
  · exact k.dom as hh c r ups hg
  · exact h.dom as hh c r ups hg

end Go.Rq
