/- Codecs for records: functions' values, points. -/
import Derived.Test.YtdbcjiggimppdaaRqU
namespace Go.Rq
open Go

/-- The same cells, another name for the datum. -/
def CC.iso {α β : Type} (c : CC α) (f : α → β) (g : β → α) (h : ∀ a, g (f a) = a) : CC β where
  n := c.n
  enc b := c.enc (g b)
  dec l := match c.dec l with
    | some a => some (f a)
    | none => none
  val b := c.val (g b)
  len b := c.len _
  h1 b := c.h1 _
  h2 ρ as vs x e r := by
    split at e
    · rename_i a ha
      simp at e; subst e
      rw [h]
      exact c.h2 ρ as vs a ha r
    · cases e

def fnIs (f : FuncId) : AV → Bool
  | .fn (.func g) [] [] => Nat.beq g f
  | _ => false

/-- One cell: a function of the program. -/
def cFn (f : FuncId) : CC Unit where
  n := 1
  enc _ := [.fn (.func f) [] []]
  dec l := match l with
    | [a] => bif fnIs f a then some () else none
    | _ => none
  val _ := [.func (.func f) #[] #[]]
  len _ := rfl
  h1 _ := rfl
  h2 ρ as vs x e r := by
    split at e
    · rename_i a
      unfold fnIs at e
      split at e
      · rename_i g
        cases hb : Nat.beq g f with
        | false => rw [hb] at e; simp at e
        | true =>
          obtain rfl := Nat.eq_of_beq_eq_true hb
          obtain ⟨v, ys, rfl, h1, h2⟩ := r.uncons
          rw [h2.unnil, h1.scal_eq (y := .func (.func g) #[] #[]) rfl]
      · simp at e
    · cases e

/-- A curve's field, as its functions take it: what it adds, takes away, multiplies and inverts with; and 1, and b. -/
structure Fl (K : Type) where
  one : K
  b : K

structure Jp (K : Type) where
  x : K
  y : K
  z : K

structure Ap (K : Type) where
  x : K
  y : K
  zero : Bool

def cFl {K : Type} (f1 f2 f3 f4 : FuncId) (c : CC K) : CC (Fl K) :=
  (CC.prod (cFn f1) (CC.prod (cFn f2) (CC.prod (cFn f3) (CC.prod (cFn f4) (CC.prod c c))))).iso (fun x => ⟨x.2.2.2.2.1, x.2.2.2.2.2⟩) (fun y => ((), (), (), (), y.one, y.b)) (fun _ => rfl)

def cJp {K : Type} (c : CC K) : CC (Jp K) := (CC.prod c (CC.prod c c)).iso (fun x => ⟨x.1, x.2.1, x.2.2⟩) (fun y => (y.x, y.y, y.z)) (fun _ => rfl)

def cAp {K : Type} (c : CC K) : CC (Ap K) := (CC.prod c (CC.prod c cBool)).iso (fun x => ⟨x.1, x.2.1, x.2.2⟩) (fun y => (y.x, y.y, y.zero)) (fun _ => rfl)

/-! What the curve's functions reckon, the field left open. -/
section
variable {K : Type} (o : FO K)

def raiseJ (f : Fl K) (p : Ap K) : Jp K := bif p.zero then ⟨f.one, f.one, o.zero⟩ else ⟨p.x, p.y, f.one⟩

def twiceJ (p : Jp K) : Jp K :=
  let yy := o.mul p.y p.y
  let s1 := o.mul p.x yy
  let s2 := o.add s1 s1
  let s := o.add s2 s2
  let m1 := o.mul p.x p.x
  let m := o.add (o.add m1 m1) m1
  let x := o.sub (o.mul m m) (o.add s s)
  let e0 := o.mul yy yy
  let e1 := o.add e0 e0
  let e2 := o.add e1 e1
  let e := o.add e2 e2
  let z := o.mul p.y p.z
  ⟨x, o.sub (o.mul m (o.sub s x)) e, o.add z z⟩

def lowerJ (p : Jp K) : Ap K :=
  let i := o.inv p.z
  let s := o.mul i i
  ⟨o.mul p.x s, o.mul p.y (o.mul s i), false⟩

def sumJ (p q : Jp K) : Jp K :=
  let pp := o.mul p.z p.z
  let qq := o.mul q.z q.z
  let u := o.mul p.x qq
  let v := o.mul q.x pp
  let s := o.mul p.y (o.mul qq q.z)
  let t := o.mul q.y (o.mul pp p.z)
  let h := o.sub v u
  let r := o.sub t s
  let hh := o.mul h h
  let hhh := o.mul hh h
  let w := o.mul u hh
  let x := o.sub (o.sub (o.mul r r) hhh) (o.add w w)
  ⟨x, o.sub (o.mul r (o.sub w x)) (o.mul s hhh), o.mul h (o.mul p.z q.z)⟩

def hJ (p q : Jp K) : K := o.sub (o.mul q.x (o.mul p.z p.z)) (o.mul p.x (o.mul q.z q.z))
def rJ (p q : Jp K) : K := o.sub (o.mul q.y (o.mul (o.mul p.z p.z) p.z)) (o.mul p.y (o.mul (o.mul q.z q.z) q.z))
end

def eqW (a b : W6) : Bool := (a.w0 == b.w0) && ((a.w1 == b.w1) && ((a.w2 == b.w2) && ((a.w3 == b.w3) && ((a.w4 == b.w4) && ((a.w5 == b.w5) && true)))))
def eqD (a b : D6) : Bool := (a.a.w0 == b.a.w0) && ((a.a.w1 == b.a.w1) && ((a.a.w2 == b.a.w2) && ((a.a.w3 == b.a.w3) && ((a.a.w4 == b.a.w4) && ((a.a.w5 == b.a.w5) &&
  ((a.b.w0 == b.b.w0) && ((a.b.w1 == b.b.w1) && ((a.b.w2 == b.b.w2) && ((a.b.w3 == b.b.w3) && ((a.b.w4 == b.b.w4) && ((a.b.w5 == b.b.w5) && true)))))))))))


theorem givesOf {t u : Tree AV} {v : Value} (h : t.strict = u) (hu : u.holds (fun q => flat q = some v)) : Gives t v := ⟨Tree.holds_strict (by rw [h]; exact hu)⟩

theorem holds_leaf {a : AV} {v : Value} (h : flat a = some v) : (Tree.leaf a).holds (fun q => flat q = some v) := h

theorem holds_br {β : Type} {B : Cod β} {x y : β} {c : Bool} {t f : Tree AV} (h1 : t.holds (fun q => flat q = some (B.val x))) (h2 : f.holds (fun q => flat q = some (B.val y))) :
    (Tree.br c t f).holds (fun q => flat q = some (B.val (bif c then x else y))) :=
  ⟨fun h => by rw [h]; exact h1, fun h => by rw [h]; exact h2⟩

section
variable {K : Type} (o : FO K) (eq : K → K → Bool)

def lowerE (p : Jp K) : Ap K := bif eq p.z o.zero then ⟨o.zero, o.zero, true⟩ else lowerJ o p
def onE (f : Fl K) (p : Ap K) : Bool := bif p.zero then (bif eq p.x o.zero then eq p.y o.zero else false) else eq (o.mul p.y p.y) (o.add (o.mul (o.mul p.x p.x) p.x) f.b)
def negE (p : Ap K) : Ap K := ⟨p.x, o.sub o.zero p.y, p.zero⟩
def sumE (f : Fl K) (p q : Jp K) : Jp K := bif eq p.z o.zero then q else bif eq q.z o.zero then p else
  bif eq (hJ o p q) o.zero then (bif eq (rJ o p q) o.zero then twiceJ o p else ⟨f.one, f.one, o.zero⟩) else sumJ o p q

theorem lowerJ_eta (p : Jp K) : lowerJ o p = ⟨(lowerJ o p).x, (lowerJ o p).y, false⟩ := rfl
end

theorem apFlatW (x y : W6) (b : Bool) : flat (.agg (c6.enc x ++ (c6.enc y ++ [.lit b]))) = some ((cAp c6).agg.val ⟨x, y, b⟩) := by kernel_rfl
theorem apFlatD (x y : D6) (b : Bool) : flat (.agg (c12.enc x ++ (c12.enc y ++ [.lit b]))) = some ((cAp c12).agg.val ⟨x, y, b⟩) := by kernel_rfl


theorem pure3X {P : Program} {f : Nat} {α β γ δ : Type} {A : Cod α} {B : Cod β} {C : Cod γ} {D : Cod δ} {F : α → γ → δ → β} (h : ∀ x y z, GivesX P f [A.enc x, C.enc y, D.enc z] (B.val (F x y z))) : PureOk P f (fn3 A C D B F) := by
  refine pure_coreX fun as r hg => ?_
  unfold fn3 at hg
  split at hg
  · rename_i a c d
    split at hg
    · rename_i x y z hx hy hz
      simp at hg; subst hg
      refine ⟨[A.enc x, C.enc y, D.enc z], [A.val x, C.val y, D.val z], fun ρ xs hxs => ?_, by simp [flatL, A.h1, C.h1, D.h1], _, B.h1 _, h x y z⟩
      obtain ⟨v, ys, rfl, h1, h2⟩ := hxs.uncons
      obtain ⟨u, zs, rfl, h3, h4⟩ := h2.uncons
      obtain ⟨w, us, rfl, h5, h6⟩ := h4.uncons
      rw [h6.unnil, A.h2 ρ _ _ _ hx h1, C.h2 ρ _ _ _ hy h3, D.h2 ρ _ _ _ hz h5]
    · cases hg
  · cases hg

end Go.Rq
