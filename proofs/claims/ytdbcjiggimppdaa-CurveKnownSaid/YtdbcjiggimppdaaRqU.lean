/- Rows of the library with two arguments; strings and bytes. -/
import Derived.Test.YtdbcjiggimppdaaRqT
namespace Go.Rq
open Go

theorem ext2 {P : Program} {f : FuncId} {fn : Func} (hf : P.funcs.toList[f]? = some fn) (h1 : (fn.name == "runtime.NumGoroutine") = false) (h2 : fn.body.isNone = true) (h3 : (Extern.findNext fn).isNone = true)
    {r : Array Value → Sem Value} (h4 : Extern.find fn = some r) {α β γ : Type} {A : Cod α} {B : Cod β} {C : Cod γ} {F : α → γ → β}
    (h : ∀ x y w, (r #[A.val x, C.val y]).run P w = .ok (B.val (F x y)) w) : ExtOk P f (fn2 A C B F) := by
  intro ρ as xs q hg hx w
  unfold fn2 at hg
  split at hg
  · rename_i a c
    split at hg
    · rename_i x y hx' hy
      simp at hg; subst hg
      obtain ⟨v, ys, rfl, h1', h2'⟩ := hx.uncons
      obtain ⟨u, zs, rfl, h3', h4'⟩ := h2'.uncons
      rw [h4'.unnil, A.h2 ρ _ _ _ hx' h1', C.h2 ρ _ _ _ hy h3']
      refine ⟨B.val (F x y), ?_, .of_flat (B.h1 _)⟩
      have hf' : P.funcs[f]? = some fn := by simpa using hf
      have hnext : Extern.findNext fn = none := by simpa using h3
      have hr := h x y w
      simp only [callFunc, Sem.run_bind, run_program, Result.andThen_ok, hf', h1, h2, hnext, h4, Sem.run_ite]
      simp only [hr, Bool.false_eq_true, if_false, if_true, run_mark, Result.andThen_ok, Sem.run_pure]
    · cases hg
  · cases hg

def strOf : AV → Option ByteArray
  | .v (.string s) => some s
  | _ => none

def kStr : Cod ByteArray where
  enc s := .v (.string s)
  dec a := strOf a
  val s := .string s
  h1 _ := rfl
  h2 ρ a v x h r := by
    unfold strOf at h
    split at h
    · simp at h; subst h; cases r; rfl
    · cases h

/-- Where a byte stands first. -/
def idxByte (s : ByteArray) (b : Int) : Int := match (List.range s.size).find? (fun i => s[i]! == b.toNat.toUInt8) with
  | some i => (i : Int)
  | none => -1

theorem idxByte_run {P : Program} (s : ByteArray) (b : Int) (w : World) : (Extern.BytealgIndexByte.indexByte #[kStr.val s, (kInt .u8).val b]).run P w = .ok ((kInt .i64).val (idxByte s b)) w := by
  have e : Extern.BytealgIndexByte.indexByte #[kStr.val s, (kInt .u8).val b] = (do
    let x ← Extern.Bytes.bytesOf (.string s)
    let c ← Extern.Bytes.asByte (.int .u8 b)
    match (List.range x.size).find? fun i => x[i]! == c with
    | some i => pure (goInt i)
    | none => pure (goInt (-1)) : Sem Value) := rfl
  rw [e]
  simp only [kInt, Extern.Bytes.bytesOf, Extern.Bytes.asByte, Sem.run_bind, Sem.run_pure, Result.andThen_ok, idxByte]
  cases (List.range s.size).find? (fun i => s[i]! == b.toNat.toUInt8) with
  | none => simp [Sem.run_pure, goInt]
  | some i => simp [Sem.run_pure, goInt]

/-- A tree of answers, all of them exact. -/
theorem treeVal {β : Type} {B : Cod β} {y : β} {t u : Tree AV} (h : t.strict = u) (hu : u.holds (fun q => q = B.enc y)) : Gives t (B.val y) :=
  ⟨Tree.holds_strict (by rw [h]; exact Tree.holds_mono (fun a ha => by rw [ha]; exact B.h1 y) hu)⟩

/-- Which of two numbers is the less, from the top. -/
def cmpW (a b : W6) : Int :=
  bif BitVec.ult a.w5 b.w5 then -1 else bif BitVec.ult b.w5 a.w5 then 1 else
  bif BitVec.ult a.w4 b.w4 then -1 else bif BitVec.ult b.w4 a.w4 then 1 else
  bif BitVec.ult a.w3 b.w3 then -1 else bif BitVec.ult b.w3 a.w3 then 1 else
  bif BitVec.ult a.w2 b.w2 then -1 else bif BitVec.ult b.w2 a.w2 then 1 else
  bif BitVec.ult a.w1 b.w1 then -1 else bif BitVec.ult b.w1 a.w1 then 1 else
  bif BitVec.ult a.w0 b.w0 then -1 else bif BitVec.ult b.w0 a.w0 then 1 else 0

/-- A chain of questions, each with its answer. -/
def chain {β : Type} (B : Cod β) : List (Bool × β) → β → Tree AV
  | [], y => .leaf (B.enc y)
  | (c, x) :: t, y => .br c (.leaf (B.enc x)) (chain B t y)

def chainV {β : Type} : List (Bool × β) → β → β
  | [], y => y
  | (c, x) :: t, y => bif c then x else chainV t y

theorem chain_holds {β : Type} (B : Cod β) : ∀ (l : List (Bool × β)) (y : β), (chain B l y).holds (fun q => q = B.enc (chainV l y))
  | [], _ => rfl
  | (c, x) :: t, y => ⟨fun h => by simp only [chainV, h, cond_true]; rfl, fun h => by simp only [chainV, h, cond_false]; exact chain_holds B t y⟩

theorem chainVal {β : Type} {B : Cod β} {l : List (Bool × β)} {y : β} {t : Tree AV} (h : t.strict = chain B l y) : Gives t (B.val (chainV l y)) := treeVal h (chain_holds B l y)

end Go.Rq
