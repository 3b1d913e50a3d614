/- Loops whose heads depend on the arguments; tables of blocks. -/
import Derived.Test.YtdbcjiggimppdaaRqS
import Derived.Test.YtdbcjiggimppdaaRqP
namespace Go.Rq
open Go

/-- All pieces of code that blocks of one name hold. -/
def blkAll (id : Nat) : Code → List Code
  | .seq a b => blkAll id a ++ blkAll id b
  | .cond _ a b => blkAll id a ++ blkAll id b
  | .block i c => bif Nat.beq i id then c :: blkAll id c else blkAll id c
  | .loop c => blkAll id c
  | _ => []

theorem tabOk_of {P : Program} {m : Nat} {tab : BTab} : ∀ {c : Code}, (∀ id b, tab id = some b → m ≤ b.n ∧ ∀ q ∈ blkAll id c, ∀ F ds K, b.post.holds (fun r => K r.1 r.2) → Tri P F ds m (.block id q) b.pre K) → TabOk P m tab c := by
  intro c
  induction c with
  | seq a b ha hb =>
    intro h
    exact ⟨ha fun id e he => ⟨(h id e he).1, fun q hq => (h id e he).2 q (List.mem_append_left _ hq)⟩, hb fun id e he => ⟨(h id e he).1, fun q hq => (h id e he).2 q (List.mem_append_right _ hq)⟩⟩
  | cond c a b ha hb =>
    intro h
    exact ⟨ha fun id e he => ⟨(h id e he).1, fun q hq => (h id e he).2 q (List.mem_append_left _ hq)⟩, hb fun id e he => ⟨(h id e he).1, fun q hq => (h id e he).2 q (List.mem_append_right _ hq)⟩⟩
  | block i c ih =>
    intro h
    simp only [TabOk]
    split
    · rename_i b hb
      refine ⟨(h i b hb).1, fun F ds K hk => (h i b hb).2 c ?_ F ds K hk⟩
      simp [blkAll, Nat.beq_refl]
    · refine ih fun id e he => ⟨(h id e he).1, fun q hq => (h id e he).2 q ?_⟩
      simp only [blkAll]
      cases Nat.beq i id with
      | true => exact List.mem_cons_of_mem _ hq
      | false => exact hq
  | loop c ih => intro h; exact ih h
  | _ => intro _; trivial

/-- A table of one block. -/
theorem tabOk_one {P : Program} {m id : Nat} {b : BEnt} {c q : Code} (hn : m ≤ b.n) (hc : blkAll id c = [q]) (h : ∀ F ds K, b.post.holds (fun r => K r.1 r.2) → Tri P F ds m (.block id q) b.pre K) : TabOk P m (tabOf [(id, b)]) c := by
  refine tabOk_of fun i e he => ?_
  simp only [tabOf] at he
  cases hb : Nat.beq id i with
  | true =>
    rw [hb] at he
    simp at he; subst he
    obtain rfl := Nat.eq_of_beq_eq_true hb
    refine ⟨hn, fun q' hq => ?_⟩
    rw [hc] at hq
    simp at hq; subst hq
    exact h
  | false => rw [hb] at he; simp at he

/-- A context made for one list of arguments. -/
structure GivesX (P : Program) (f : Nat) (as : List AV) (v : Value) : Prop where
  out : ∃ E sym tab lf, Ctx P E sym tab lf f ∧ (afunR P E sym tab lf f as).holds (fun q => flat q = some v)

theorem GivesX.of {P : Program} {E : Env} {sym : List Tmp} {tab : BTab} {lf f : Nat} {as : List AV} {v : Value} (X : Ctx P E sym tab lf f) (h : Gives (afunR P E sym tab lf f as) v) : GivesX P f as v := ⟨E, sym, tab, lf, X, h.out⟩

theorem pure_coreX {P : Program} {f : Nat} {g : List AV → Option (Bool × AV)}
    (h : ∀ as r, g as = some (true, r) → ∃ as' l, (∀ (ρ : Ren) (xs : List Value), Rvs ρ as xs → xs = l) ∧ flatL as' = some l ∧ ∃ y, flat r = some y ∧ GivesX P f as' y) : PureOk P f g := by
  intro ρ as xs r hg hx w
  obtain ⟨as', l, h1, h2, y, h3, E, sym, tab, lf, X, h4⟩ := h as r hg
  obtain ⟨fn, c, hf, hb, hok, htab⟩ := X.body
  have hxl := h1 ρ xs hx
  subst hxl
  have := afun_calls X.env X.mixed hf hb hok htab (K := fun q _ => flat q = some y) (Tree.holds_bind h4) (F := frameOf w) (ρ := Ren.empty) (xs := xs) (w := w) (Rvs.of_flatL h2) (RW.init w _) (fun _ _ => rfl)
  refine Calls.mono this ?_
  rintro e w' ⟨v, q, h', ρ', rfl, hk, hrv, hrw, _⟩
  have := hrv.flat_eq hk
  subst this
  exact ⟨v, rfl, .of_flat h3, hrw.to_below⟩

theorem sameVal {β : Type} {B : Cod β} {y : β} {x : XS} {t : Tree AV} (h : t.strict = .same x x (.leaf (B.enc y))) : Gives t (B.val y) :=
  ⟨Tree.holds_strict (by rw [h]; exact ⟨rfl, B.h1 y⟩)⟩

section
variable {P : Program} {f : Nat} {α β γ δ : Type} {A : Cod α} {B : Cod β} {C : Cod γ} {D : Cod δ}

theorem pure1X {F : α → β} (h : ∀ x, GivesX P f [A.enc x] (B.val (F x))) : PureOk P f (fn1 A B F) := by
  refine pure_coreX fun as r hg => ?_
  unfold fn1 at hg
  split at hg
  · rename_i a
    split at hg
    · rename_i x hx
      simp at hg; subst hg
      refine ⟨[A.enc x], [A.val x], fun ρ xs hxs => ?_, by simp [flatL, A.h1], _, B.h1 _, h x⟩
      obtain ⟨v, ys, rfl, h1, h2⟩ := hxs.uncons
      rw [h2.unnil, A.h2 ρ _ _ _ hx h1]
    · cases hg
  · cases hg

theorem pure2X {F : α → γ → β} (h : ∀ x y, GivesX P f [A.enc x, C.enc y] (B.val (F x y))) : PureOk P f (fn2 A C B F) := by
  refine pure_coreX fun as r hg => ?_
  unfold fn2 at hg
  split at hg
  · rename_i a c
    split at hg
    · rename_i x y hx hy
      simp at hg; subst hg
      refine ⟨[A.enc x, C.enc y], [A.val x, C.val y], fun ρ xs hxs => ?_, by simp [flatL, A.h1, C.h1], _, B.h1 _, h x y⟩
      obtain ⟨v, ys, rfl, h1, h2⟩ := hxs.uncons
      obtain ⟨u, zs, rfl, h3, h4⟩ := h2.uncons
      rw [h4.unnil, A.h2 ρ _ _ _ hx h1, C.h2 ρ _ _ _ hy h3]
    · cases hg
  · cases hg

end
end Go.Rq
