/- Closed runs: functions gone through at exact values, each value reckoned out at once. -/
import Derived.Test.YtcboekjnibppdaaGreatDoorRq07
import Derived.Test.YtcboekjnibppdaaGreatDoorRq06
namespace Go.Rq
open Go

/-! Values reckoned out before one goes on. -/
noncomputable def frcN {β : Type} (x : Nat) (f : Nat → β) : β := Nat.rec (f 0) (fun n _ => f (Nat.succ n)) x
theorem frcN_eq {β : Type} (x : Nat) (f : Nat → β) : frcN x f = f x := by cases x <;> rfl
noncomputable def frcB {β : Type} (x : Bool) (f : Bool → β) : β := Bool.rec (f false) (f true) x
theorem frcB_eq {β : Type} (x : Bool) (f : Bool → β) : frcB x f = f x := by cases x <;> rfl
noncomputable def frcZ {β : Type} (x : Int) (f : Int → β) : β := Int.rec (fun n => frcN n fun m => f (.ofNat m)) (fun n => frcN n fun m => f (.negSucc m)) x
theorem frcZ_eq {β : Type} (x : Int) (f : Int → β) : frcZ x f = f x := by
  cases x with
  | ofNat n => exact frcN_eq n fun m => f (.ofNat m)
  | negSucc n => exact frcN_eq n fun m => f (.negSucc m)
noncomputable def frcK {β : Type} (x : IntKind) (f : IntKind → β) : β := IntKind.rec (f .i8) (f .i16) (f .i32) (f .i64) (f .u8) (f .u16) (f .u32) (f .u64) x
theorem frcK_eq {β : Type} (x : IntKind) (f : IntKind → β) : frcK x f = f x := by cases x <;> rfl
noncomputable def frcV {β : Type} (x : Value) (f : Value → β) : β := match x with
  | .int k z => frcK k fun k => frcZ z fun z => f (.int k z)
  | .bool b => frcB b fun b => f (.bool b)
  | x => f x
theorem frcV_eq {β : Type} (x : Value) (f : Value → β) : frcV x f = f x := by
  unfold frcV
  split
  · rw [frcK_eq, frcZ_eq]
  · rw [frcB_eq]
  · rfl
noncomputable def frc0 {β : Type} (a : AV) (f : AV → β) : β := match a with
  | .u x => frcN x.toNat fun n => f (.u (BitVec.ofNat 64 n))
  | .v x => frcV x fun x => f (.v x)
  | .bit b => frcB b fun b => f (.bit b)
  | .lit b => frcB b fun b => f (.lit b)
  | .ptr i o => frcN i fun i => frcN o fun o => f (.ptr i o)
  | .slc i o l c => frcN i fun i => frcN o fun o => frcN l fun l => frcN c fun c => f (.slc i o l c)
  | .own i e k l => frcN i fun i => frcN e fun e => frcN k fun k => frcN l fun l => f (.own i e k l)
  | .mp i => frcN i fun i => f (.mp i)
  | a => f a
theorem frc0_eq {β : Type} (a : AV) (f : AV → β) : frc0 a f = f a := by
  unfold frc0
  split
  · rw [frcN_eq]; congr 1; simp
  · rw [frcV_eq]
  · rw [frcB_eq]
  · rw [frcB_eq]
  · rw [frcN_eq, frcN_eq]
  · rw [frcN_eq, frcN_eq, frcN_eq, frcN_eq]
  · rw [frcN_eq, frcN_eq, frcN_eq, frcN_eq]
  · rw [frcN_eq]
  · rfl
noncomputable def frcL {α β : Type} (g : α → (α → β) → β) (l : List α) : (List α → β) → β := List.rec (motive := fun _ => (List α → β) → β) (fun f => f []) (fun a _ ih f => g a fun a => ih fun t => f (a :: t)) l
theorem frcL_eq {α β : Type} {g : α → (α → β) → β} (hg : ∀ a f, g a f = f a) : ∀ (l : List α) (f : List α → β), frcL g l f = f l
  | [], f => rfl
  | a :: t, f => by
    show g a (fun a => frcL g t fun t => f (a :: t)) = _
    rw [hg, frcL_eq hg t]
noncomputable def frcS {β : Type} (g : AV → (AV → β) → β) (a : AV) (f : AV → β) : β := match a with
  | .agg cs => frcL g cs fun cs => f (.agg cs)
  | .tup cs => frcL g cs fun cs => f (.tup cs)
  | .fn h as bs => frcL g as fun as => frcL g bs fun bs => f (.fn h as bs)
  | .ifc t x => g x fun x => f (.ifc t x)
  | a => frc0 a f
theorem frcS_eq {β : Type} {g : AV → (AV → β) → β} (hg : ∀ a f, g a f = f a) (a : AV) (f : AV → β) : frcS g a f = f a := by
  unfold frcS
  split
  · rw [frcL_eq hg]
  · rw [frcL_eq hg]
  · rw [frcL_eq hg, frcL_eq hg]
  · rw [hg]
  · rw [frc0_eq]
noncomputable def frc1 {β : Type} (a : AV) (f : AV → β) : β := frcS frc0 a f
theorem frc1_eq {β : Type} (a : AV) (f : AV → β) : frc1 a f = f a := frcS_eq frc0_eq a f
noncomputable def frc2 {β : Type} (a : AV) (f : AV → β) : β := frcS frc1 a f
theorem frc2_eq {β : Type} (a : AV) (f : AV → β) : frc2 a f = f a := frcS_eq frc1_eq a f

/-! Slots, in a tree. -/
inductive PT where
  | lf (a : AV)
  | nd (l r : PT)

noncomputable def PT.get (t : PT) : Nat → AV := PT.rec (motive := fun _ => Nat → AV) (fun a _ => a) (fun _ _ gl gr k => cond (Nat.beq (Nat.mod k 2) 0) (gl (Nat.div k 2)) (gr (Nat.div k 2))) t
noncomputable def PT.setK {β : Type} (t : PT) : Nat → AV → (PT → β) → β := PT.rec (motive := fun _ => Nat → AV → (PT → β) → β) (fun _ _ a f => f (.lf a))
  (fun l r sl sr k a f => cond (Nat.beq (Nat.mod k 2) 0) (sl (Nat.div k 2) a fun l => f (.nd l r)) (sr (Nat.div k 2) a fun r => f (.nd l r))) t
noncomputable def PT.set (t : PT) (k : Nat) (a : AV) : PT := t.setK k a id
def PT.deep : PT → Nat → Prop
  | .lf _, 0 => True
  | .nd l r, d + 1 => l.deep d ∧ r.deep d
  | _, _ => False
def PT.uni : Nat → PT
  | 0 => .lf (.v undef)
  | d + 1 => .nd (PT.uni d) (PT.uni d)
theorem PT.uni_deep : ∀ d, (PT.uni d).deep d
  | 0 => trivial
  | d + 1 => ⟨PT.uni_deep d, PT.uni_deep d⟩
theorem PT.uni_get : ∀ d k, (PT.uni d).get k = .v undef
  | 0, k => rfl
  | d + 1, k => by
    show cond (Nat.beq (Nat.mod k 2) 0) ((PT.uni d).get (Nat.div k 2)) ((PT.uni d).get (Nat.div k 2)) = _
    rw [PT.uni_get d]
    cases Nat.beq (Nat.mod k 2) 0 <;> rfl

theorem PT.setK_eq {β : Type} : ∀ (t : PT) (k : Nat) (a : AV) (f : PT → β), t.setK k a f = f (t.set k a)
  | .lf _, k, a, f => rfl
  | .nd l r, k, a, f => by
    show cond _ (l.setK (Nat.div k 2) a fun l => f (.nd l r)) (r.setK (Nat.div k 2) a fun r => f (.nd l r)) = f (cond _ (l.setK (Nat.div k 2) a fun l => id (.nd l r)) (r.setK (Nat.div k 2) a fun r => id (.nd l r)))
    rw [PT.setK_eq l, PT.setK_eq r, PT.setK_eq l, PT.setK_eq r]
    cases Nat.beq (Nat.mod k 2) 0 <;> rfl
theorem PT.set_nd (l r : PT) (k : Nat) (a : AV) : (PT.nd l r).set k a = cond (Nat.beq (Nat.mod k 2) 0) (.nd (l.set (Nat.div k 2) a) r) (.nd l (r.set (Nat.div k 2) a)) := by
  show cond _ (l.setK (Nat.div k 2) a fun l => id (PT.nd l r)) (r.setK (Nat.div k 2) a fun r => id (PT.nd l r)) = _
  rw [PT.setK_eq l, PT.setK_eq r]
  rfl
theorem PT.set_deep : ∀ {t : PT} {d k : Nat} {a : AV}, t.deep d → (t.set k a).deep d
  | .lf _, 0, k, a, h => trivial
  | .nd l r, d + 1, k, a, h => by
    rw [PT.set_nd]
    cases Nat.beq (Nat.mod k 2) 0
    · exact ⟨h.1, PT.set_deep h.2⟩
    · exact ⟨PT.set_deep h.1, h.2⟩
  | .lf _, d + 1, k, a, h => h.elim
  | .nd _ _, 0, k, a, h => h.elim
theorem beq_iff (x y : Nat) : Nat.beq x y = true ↔ x = y := ⟨Nat.eq_of_beq_eq_true, fun h => by rw [h]; exact Nat.beq_refl y⟩
theorem beq_off {x y : Nat} : Nat.beq x y = false ↔ x ≠ y := by
  constructor
  · intro h e
    rw [(beq_iff x y).2 e] at h; cases h
  · intro h
    cases hb : Nat.beq x y with
    | false => rfl
    | true => exact absurd ((beq_iff x y).1 hb) h
theorem PT.get_set : ∀ {t : PT} {d k j : Nat} {a : AV}, t.deep d → k < 2 ^ d → j < 2 ^ d → (t.set k a).get j = if k = j then a else t.get j
  | .lf _, 0, k, j, a, _, hk, hj => by
    rw [Nat.pow_zero] at hk hj
    rw [if_pos (by omega)]; rfl
  | .nd l r, d + 1, k, j, a, h, hk, hj => by
    rw [Nat.pow_succ] at hk hj
    have hk2 : Nat.div k 2 < 2 ^ d := by show k / 2 < _; omega
    have hj2 : Nat.div j 2 < 2 ^ d := by show j / 2 < _; omega
    have il := PT.get_set (t := l) (a := a) h.1 hk2 hj2
    have ir := PT.get_set (t := r) (a := a) h.2 hk2 hj2
    have gn : ∀ (x y : PT), (PT.nd x y).get j = cond (Nat.beq (Nat.mod j 2) 0) (x.get (Nat.div j 2)) (y.get (Nat.div j 2)) := fun _ _ => rfl
    have e1 : Nat.mod k 2 = k % 2 := rfl
    have e2 : Nat.mod j 2 = j % 2 := rfl
    have e3 : Nat.div k 2 = k / 2 := rfl
    have e4 : Nat.div j 2 = j / 2 := rfl
    rw [PT.set_nd, gn l r]
    rw [e3, e4] at il ir
    by_cases ck : k % 2 = 0
    · rw [(beq_iff _ _).2 (e1.trans ck), cond_true, gn]
      by_cases cj : j % 2 = 0
      · rw [(beq_iff _ _).2 (e2.trans cj), cond_true, cond_true, e3, e4, il]
        by_cases e : k = j
        · rw [if_pos e, if_pos (by omega)]
        · rw [if_neg e, if_neg (by omega)]
      · rw [beq_off.2 (fun h => cj (e2.symm.trans h)), cond_false, cond_false, if_neg (by omega)]
    · rw [beq_off.2 (fun h => ck (e1.symm.trans h)), cond_false, gn]
      by_cases cj : j % 2 = 0
      · rw [(beq_iff _ _).2 (e2.trans cj), cond_true, cond_true, if_neg (by omega)]
      · rw [beq_off.2 (fun h => cj (e2.symm.trans h)), cond_false, cond_false, e3, e4, ir]
        by_cases e : k = j
        · rw [if_pos e, if_pos (by omega)]
        · rw [if_neg e, if_neg (by omega)]
  | .lf _, d + 1, k, j, a, h, _, _ => h.elim
  | .nd _ _, 0, k, j, a, h, _, _ => h.elim
end Go.Rq

/- Square and multiply: a loop whose bit is told by a condition. -/
namespace Go.Rq
open Go

def sqB {A : Type} (tw su : A → A) (bc : Int → Bool) : Nat → A → A
  | 0, u => u
  | k + 1, u => sqB tw su bc k (bif bc (k : Int) then su (tw u) else tw u)

/-- The round's tree: a number that must not be negative, then the bit. -/
theorem sqB_law {A : Type} {top : Int} (htop : top < 9223372036854775808) (tw su : A → A) (bc : Int → Bool) (nd : Int → Bool) (hnd : ∀ z, 0 ≤ z → nd z = true) (rt : XS → Tree (AExit × XS)) (I : Int × A → XS) {l : List Nat} (hr : ∀ (z : Int) (out : A), Tree.but l 0 (rt (I (z, out))) =
    .br (decide (z ≥ 0))
      (.br (bc z)
        (.need (nd z) (.leaf (.normal, I (IntKind.i64.wrap (z - 1), su (tw out)))))
        (.need (nd z) (.leaf (.normal, I (IntKind.i64.wrap (z - 1), tw out)))))
      (.leaf (.exit 0, I (z, out)))) {R : A} {Q : AExit → XS → Prop} (hK : Q .normal (I (-1, R))) :
    ∀ d : Int × A, (-1 ≤ d.1 ∧ d.1 ≤ top ∧ sqB tw su bc (d.1 + 1).toNat d.2 = R) → (rt (I d)).holds (fun r => match r.1 with
      | .normal => ∃ j : Int × A, (-1 ≤ j.1 ∧ j.1 ≤ top ∧ sqB tw su bc (j.1 + 1).toNat j.2 = R) ∧ (j.1 + 1).toNat < (d.1 + 1).toNat ∧ r.2 = I j
      | .exit q => if q = 0 then Q .normal r.2 else Q (.exit q) r.2
      | .ret => Q .ret r.2) := by
  rintro ⟨z, out⟩ ⟨h0, h1, h2⟩
  apply Tree.holds_but (l := l) (i := 0)
  rw [hr]
  simp only at h0 h1 h2
  refine ⟨fun hz => ?_, fun hz => ?_⟩
  · have hz : 0 ≤ z := by simpa using hz
    have hn := hnd z hz
    have hw : IntKind.i64.wrap (z - 1) = z - 1 := wrapI (by omega) (by omega)
    have hk : (z + 1).toNat = z.toNat + 1 := by omega
    rw [hk] at h2
    simp only [sqB] at h2
    rw [show ((z.toNat : Nat) : Int) = z by omega] at h2
    have hk' : (z - 1 + 1).toNat = z.toNat := by omega
    refine ⟨fun hb => ⟨hn, ⟨z - 1, su (tw out)⟩, ⟨by simp only; omega, by simp only; omega, ?_⟩, ?_, ?_⟩, fun hb => ⟨hn, ⟨z - 1, tw out⟩, ⟨by simp only; omega, by simp only; omega, ?_⟩, ?_, ?_⟩⟩
    · rw [hb] at h2
      simp only [hk']
      exact h2
    · show (z - 1 + 1).toNat < (z + 1).toNat
      omega
    · rw [hw]
    · rw [hb] at h2
      simp only [hk']
      exact h2
    · show (z - 1 + 1).toNat < (z + 1).toNat
      omega
    · rw [hw]
  · have hz : z = -1 := by
      have : ¬ 0 ≤ z := by simpa using hz
      omega
    subst hz
    have h2 : out = R := h2
    show (if (0 : Nat) = 0 then Q .normal (I (-1, out)) else Q (.exit 0) (I (-1, out)))
    rw [if_pos rfl, h2]
    exact hK

/-! Reckoned out at each step. -/
noncomputable def frcU {β : Type} (x : BitVec 64) (f : BitVec 64 → β) : β := frcN x.toNat fun n => f (BitVec.ofNat 64 n)
theorem frcU_eq {β : Type} (x : BitVec 64) (f : BitVec 64 → β) : frcU x f = f x := by
  unfold frcU
  rw [frcN_eq, BitVec.ofNat_toNat, BitVec.setWidth_eq]
noncomputable def sqF {A : Type} (frc : A → (A → A) → A) (tw su : A → A) (bc : Int → Bool) : Nat → A → A
  | 0, u => u
  | k + 1, u => frc (tw u) fun v => bif bc (k : Int) then frc (su v) (sqF frc tw su bc k) else sqF frc tw su bc k v
theorem sqF_eq {A : Type} {frc : A → (A → A) → A} (hf : ∀ x f, frc x f = f x) (tw su : A → A) (bc : Int → Bool) : ∀ (k : Nat) (u : A), sqF frc tw su bc k u = sqB tw su bc k u
  | 0, u => rfl
  | k + 1, u => by
    simp only [sqF, sqB, hf]
    cases bc (k : Int)
    · simp only [cond_false]; exact sqF_eq hf tw su bc k _
    · simp only [cond_true]; exact sqF_eq hf tw su bc k _
/-- A bit of a word, as the programs ask for it. -/
def bitU (n : BitVec 64) (z : Int) : Bool := ((n >>> (Nat.min z.toNat 64)) &&& bitW true) == bitW true
def notNeg (z : Int) : Bool := decide (0 ≤ z) && true
theorem notNeg_ok (z : Int) (h : 0 ≤ z) : notNeg z = true := by simp [notNeg, h]
end Go.Rq
namespace Go.Rq
open Go
/-- A bit is a word. -/
theorem Tri.asU {P : Program} {F : Fr} {ds : List Deferred} {m : Nat} {c : Code} {x : XS} {K : AExit → XS → Prop} {i : Nat} {b : Bool} (hi : x.s.tm[i]? = some (.bit b)) (h : Tri P F ds m c (x.setT i (.u (bitW b))) K) : Tri P F ds m c x K := by
  intro ρ a w hs hm hf
  refine h ρ a w ⟨?_, hs.h, hs.ds⟩ hm hf
  obtain ⟨v, hv, hr⟩ := hs.tm.getD hi
  have h1 : Rv ρ (.u (bitW b)) v := by cases hr; exact .u _
  have h2 := hs.tm.set h1 i
  have h3 : a.tmps.toList.set i v = a.tmps.toList := by
    apply List.ext_getElem?
    intro j
    rw [List.getElem?_set]
    by_cases e : i = j
    · subst e
      rw [if_pos rfl]
      have := (List.getElem?_eq_some_iff.1 hv).1
      rw [if_pos this, hv]
    · rw [if_neg e]
  rw [h3] at h2
  exact h2
end Go.Rq
namespace Go.Rq
open Go
theorem setH_get (id : Nat) (cs : List AV) : ∀ (h : AH) (j : Nat), (setH h id cs).get j = if id = j then (match h.get j with
    | some B => some ⟨B.wr, B.ty, cs⟩
    | none => none) else h.get j
  | [], j => by simp [setH, AH.get]
  | (i, b) :: t, j => by
    simp only [setH]
    cases hb : Nat.beq i id with
    | true =>
      have e := Nat.eq_of_beq_eq_true hb
      subst e
      rw [cond_true]
      cases b with
      | none =>
        rw [AH.get_cons]
        by_cases h : i = j
        · rw [if_pos h, if_pos h]
        · rw [if_neg h, if_neg h]
      | some B =>
        simp only
        rw [AH.get_cons, AH.get_cons]
        by_cases h : i = j
        · rw [if_pos h, if_pos h, if_pos h]
        · rw [if_neg h, if_neg h, if_neg h]
    | false =>
      have e : i ≠ id := fun e => by subst e; rw [Nat.beq_refl] at hb; cases hb
      rw [cond_false, AH.get_cons, setH_get id cs t j, AH.get_cons]
      by_cases h : i = j
      · subst h
        rw [if_pos rfl, if_neg (fun h => e h.symm), if_pos rfl]
      · rw [if_neg h, if_neg h]

/-- A block's cells, told otherwise. -/
theorem RW.recell {F : Fr} {ρ : Ren} {h : AH} {w : World} (r : RW F ρ h w) {id : Nat} {B : Blk} (hB : h.get id = some B) (hce : B.cell = true) {cs : List AV} (hl : cs.length = B.cs.length) (hc : ∀ (i : Nat) (a c : AV) (x : Value), B.cs[i]? = some a → cs[i]? = some c → Rv ρ a x → Rv ρ c x) : RW F ρ (setH h id cs) w := by
  have back : ∀ j C, (setH h id cs).get j = some C → ∃ C0, h.get j = some C0 ∧ C0.wr = C.wr ∧ C0.ty = C.ty := by
    intro j C hj
    rw [setH_get] at hj
    by_cases e : id = j
    · subst e
      rw [if_pos rfl, hB] at hj
      simp at hj; subst hj
      exact ⟨B, hB, rfl, rfl⟩
    · rw [if_neg e] at hj
      exact ⟨C, hj, rfl, rfl⟩
  refine ⟨fun j C hj => ?_, fun j j' C C' b hj hj' hw hb hb' => ?_, r.fr, r.os, r.tape, r.out, r.gc⟩
  · rw [setH_get] at hj
    by_cases e : id = j
    · subst e
      rw [if_pos rfl, hB] at hj
      simp at hj; subst hj
      obtain ⟨b, o, h1, h2, ⟨xs, fr, h3, h4, h5, h6⟩, h7, h8⟩ := r.blkC (getC_mk hB hce)
      refine ⟨b, o, h1, h2, .inl ⟨xs, fr, h3, h4, by rw [hl]; exact h5, fun i c x hi hx => ?_⟩, h7, h8⟩
      have hlt : i < B.cs.length := by rw [← hl]; exact (List.getElem?_eq_some_iff.1 hi).1
      exact hc i B.cs[i] c x (List.getElem?_eq_getElem hlt) hi (h6 i _ x (List.getElem?_eq_getElem hlt) hx)
    · rw [if_neg e] at hj
      exact r.blk j C hj
  · obtain ⟨C0, h1, h2, _⟩ := back j C hj
    obtain ⟨C1, h3, h4, _⟩ := back j' C' hj'
    exact r.inj j j' C0 C1 b h1 h3 (by rw [h2]; exact hw) hb hb'

theorem Tri.asC {P : Program} {F : Fr} {ds : List Deferred} {m : Nat} {c : Code} {x : XS} {K : AExit → XS → Prop} {id : Nat} {B : Blk} (hB : x.s.h.get id = some B) {cs : List AV} (hl : cs.length = B.cs.length)
    (hc : ∀ (ρ : Ren) (i : Nat) (a c : AV) (x : Value), B.cs[i]? = some a → cs[i]? = some c → Rv ρ a x → Rv ρ c x) (h : Tri P F ds m c (x.setB id cs) K) (hce : B.cell = true := by rfl) : Tri P F ds m c x K := by
  intro ρ a w hs hm hf
  exact h ρ a w ⟨hs.tm, hs.h.recell hB hce hl (hc ρ), hs.ds⟩ hm hf
/-- An exact value told by another form. -/
theorem Rv.other {ρ : Ren} {a c : AV} {x v : Value} (h : Rv ρ a x) (ha : scal a = some v) (hc : scal c = some v) : Rv ρ c x := by
  rw [h.scal_eq ha]
  exact .of_scal hc
end Go.Rq

/- A function whose answer and whose writing are told for what it is handed. -/
namespace Go.Rq
open Go

/-- What comes of a function, and what lies behind it. (A structure: nothing looks behind it by itself.) -/
structure OutH (t : Tree (AV × AH)) (r : AV) (H : AH) : Prop where
  out : t.holds (fun q => q.1 = r ∧ ∀ id B, H.get id = some B → q.2.get id = some B)
/-- What is told of a function is so. -/
def SpecOk (P : Program) (f : Nat) (spec : List AV → AH → Nat → Option (AV × AH)) : Prop := ∀ args h n r h', spec args h n = some (r, h') →
  ∃ E sym tab lf fn c, EnvOk P E ∧ P.follows .mixedOrders = true ∧ P.funcs.toList[f]? = some fn ∧ fn.body = some c ∧ codeOk E c = true ∧ TabOk P n tab c ∧
    OutH (afun P E sym tab lf f args h n) r h'

def deepS (spec : List AV → AH → Nat → Option (AV × AH)) (kk : Nat) (rd : Bool) (args : List AV) (h : AH) (z : Nat) : Option (Bool × AV × AH) :=
  match closeI h 65536 (args.foldr nm3 []) [] with
  | none => none
  | some ids => match spec (args.map (mv3 (inM ids))) (inH h (inM ids) (!rd) ids 0) ids.length with
    | none => none
    | some (r, h') => backL kk rd ids z r h' (closeX h' ids.length 65536 (nm3 r (bif rd then [] else namesH h' ids.length)) [])

theorem deepS_ok {P : Program} {f kk : Nat} {rd : Bool} {spec : List AV → AH → Nat → Option (AV × AH)} (X : SpecOk P f spec) : ActOk P kk f (deepS spec kk rd) := by
  have same : ∀ {args : List AV} {h h' : AH} {z : Nat} {x : Bool × AV × AH}, (∀ ids, closeI h 65536 (args.foldr nm3 []) [] = some ids → closeI h' 65536 (args.foldr nm3 []) [] = some ids ∧ ∀ i ∈ ids, h.get i = h'.get i) →
      deepS spec kk rd args h z = some x → deepS spec kk rd args h' z = some x := by
    intro args h h' z x hh hg
    unfold deepS at hg ⊢
    split at hg
    · cases hg
    · rename_i ids hi
      obtain ⟨h1, h2⟩ := hh ids hi
      have e : ∀ (l : List Nat) (n : Nat), (∀ i ∈ l, h.get i = h'.get i) → inH h (inM ids) (!rd) l n = inH h' (inM ids) (!rd) l n := by
        intro l
        induction l with
        | nil => intro n _; rfl
        | cons i t ih =>
          intro n hl
          simp only [inH]
          rw [hl i (by simp), ih (n + 1) (fun j hj => hl j (by simp [hj]))]
      simp only [h1]
      rw [← e ids 0 h2]
      exact hg
  have hin : ∀ {args : List AV} {h : AH} {ids : List Nat}, closeI h 65536 (args.foldr nm3 []) [] = some ids → ∀ i ∈ ids, ∃ B, h.get i = some B := fun e => closeI_in e (fun i hi => by simp at hi)
  refine ⟨?_, fun args h h' z x hle hg => same (fun ids hi => ⟨closeI_mono hle hi, fun i hm => ?_⟩) hg, fun F ρ args xs z u h w x hx hw hu hg => ?_, fun args h z c' r ups hg => ?_⟩
  · intro F ρ args xs h z r ups w hg hx hw hz
    unfold deepS at hg
    split at hg
    · cases hg
    rename_i ids hi
    split at hg
    · cases hg
    rename_i r0 h0 hq
    unfold backL at hg
    obtain ⟨hc, hg⟩ := cond_some hg
    simp only [Bool.and_eq_true] at hc
    obtain ⟨c1, c2, c3⟩ := hc
    simp at hg
    obtain ⟨rfl, rfl⟩ := hg
    have hnd : ids.Nodup := closeI_nodup hi List.nodup_nil
    obtain ⟨E, sym, tab, lf, fn, c, hE, hm, hf, hb, hok, htab, hrun⟩ := X _ _ _ _ _ hq
    have hcall := afun_calls hE hm hf hb hok htab (K := fun a h' => a = r0 ∧ ∀ id B, h0.get id = some B → h'.get id = some B) hrun.out (F := deepF ρ h (bif rd then [] else ids) w)
      (Rvs.mapS (mv3_ok NmOk.ins) hx) (deep_in hw rd hnd) (fun id hid => by
        have : ids[id]? = none := by rw [List.getElem?_eq_none_iff]; exact hid
        simp [Ren.ins, this])
    refine Calls.mono hcall ?_
    rintro e w' ⟨v, q, h', ρ', rfl, ⟨rfl, hk⟩, hrv, hrw, hsame⟩
    have hrw := hrw.sub hk
    have c1 := Nat.le_of_ble_eq_true c1
    refine ⟨v, ρ.out ρ' _ z, rfl, Ren.le_out hz c1, fun j hj => ?_, mv3_ok (NmOk.out hz c1 hsame) _ _ hrv, ?_⟩
    · exact (Ren.out_old (fun hh => hj ⟨hh.1, by omega⟩)).1
    · exact deep_out hw (hin hi) hz c1 (nodB_spec c2) (newOk_spec c3) hrw hsame
  · obtain ⟨B, hB⟩ := hin hi i hm
    rw [hB, hle i B hB]
  · refine same (fun ids hi => ?_) hg
    have hn : ∀ i ∈ args.foldr nm3 [], ρ i ≠ none := fun i hm => (foldr_named nm3_named hx hm).resolve_left (by simp)
    have h1 := closeI_local hw hu hn hi
    refine ⟨h1, fun i hm => ?_⟩
    obtain ⟨B, hB⟩ := hin h1 i hm
    obtain ⟨b, o, g1, _⟩ := hw.blk i B hB
    rw [AH.get_append, if_neg]
    rintro ⟨p, hp, rfl⟩
    rw [hu p hp] at g1; cases g1
  · unfold deepS at hg
    split at hg
    · cases hg
    rename_i ids hi
    split at hg
    · cases hg
    unfold backL at hg
    obtain ⟨hc, hg⟩ := cond_some hg
    simp only [Bool.and_eq_true] at hc
    have c1 := Nat.le_of_ble_eq_true hc.1
    simp at hg
    obtain ⟨-, -, rfl⟩ := hg
    intro p hp
    rcases List.mem_append.1 hp with hp | hp
    · have := newH_dom p hp
      exact .inl ⟨this.1, by omega⟩
    · refine .inr (hin hi p.1 ?_)
      have := oldH_dom p hp
      cases rd with
      | true => simp at this
      | false => exact this
end Go.Rq

/- Contracts of functions that read one slice. -/
namespace Go.Rq
open Go

def s1V {β : Type} (B : Cod β) (ok : SA × List AV → Bool) (G : SA × List AV → β) (args : List AV) (h : AH) : Option (Bool × AV × AH) := match args with
  | [a] => match readS a h with
    | some x => some (ok x, B.enc (G x), [])
    | none => none
  | _ => none
def ok1 {α : Type} (sh : SA → Bool) (A : CC α) (x : SA × List AV) : Bool := sh x.1 && (decS A x).isSome
def g1 {α β : Type} (A : CC α) (G : List α → β) (x : SA × List AV) : β := G ((decS A x).getD [])

theorem s1V_ok {α β : Type} {P : Program} {E : SA → Env} {sym : List Tmp} {lf f : Nat} {c : Code} {fn : Func} (hE : ∀ s, EnvOk P (E s)) (hm : P.follows .mixedOrders = true) (hf : P.funcs.toList[f]? = some fn) (hb : fn.body = some c)
    (hok : ∀ s, codeOk (E s) c = true) {A : CC α} {B : Cod β} {sh : SA → Bool} {G : List α → β}
    (hr : ∀ s c1 t (l : List α), sh s = true → l.length = s.len → GivesH (afun P (E s) sym (fun _ => none) lf f [s.at 0 c1] (hpS 0 s t (encL A l)) 1) (B.val (G l))) :
    HeapOk P f (s1V B (ok1 sh A) (g1 A G)) := by
  have key : ∀ {args : List AV} {h : AH} {o : Bool × AV × AH}, s1V B (ok1 sh A) (g1 A G) args h = some o → ∃ a x, args = [a] ∧ readS a h = some x ∧ o = (ok1 sh A x, B.enc (g1 A G x), []) := by
    intro args h o hg
    unfold s1V at hg
    split at hg
    · rename_i a
      split at hg
      · rename_i x hx
        simp at hg
        exact ⟨a, x, rfl, hx, hg.symm⟩
      · cases hg
    · cases hg
  have again : ∀ {args : List AV} {h h' : AH} {o : Bool × AV × AH}, s1V B (ok1 sh A) (g1 A G) args h = some o → (∀ i, i ∈ idsOf args → ∀ B, h.get i = some B → h'.get i = some B) → s1V B (ok1 sh A) (g1 A G) args h' = some o := by
    intro args h h' o hg hh
    obtain ⟨a, x, rfl, hx, rfl⟩ := key hg
    have ma : a ∈ [a] := by simp
    unfold s1V
    simp only [readS_congr ma hh hx]
  refine ⟨?_, fun args h h' x hle hg => again hg (fun i _ B hB => hle i B hB), fun ρ args xs z b h x hx hz hg => again hg (fun i hi B hB => by
      rw [AH.get_cons, if_neg (fun e => hx.ids_ne hz i hi e.symm)] at hB; exact hB), fun args h c' r ups hg => ?_, fun args h h' x hh hg => again hg hh⟩
  · intro F' ρ args xs h q ups w hg hx hw
    obtain ⟨a, x, rfl, h1, ho⟩ := key hg
    simp only [Prod.mk.injEq] at ho
    obtain ⟨hsh, rfl, rfl⟩ := ho
    obtain ⟨u, ys, rfl, hu, hys⟩ := hx.uncons
    obtain rfl := hys.unnil
    have hsh := hsh.symm
    unfold ok1 at hsh
    simp only [Bool.and_eq_true] at hsh
    obtain ⟨g1', g2⟩ := hsh
    obtain ⟨l, hl⟩ := Option.isSome_iff_exists.1 g2
    obtain ⟨s1, cs1⟩ := x
    obtain ⟨X, x1, x2, x3⟩ := hand_of hw h1 hl hu
    have hW := hRW hw.gw (w := w) (l := [X]) (fun x hx => by
      simp only [List.mem_cons, List.not_mem_nil, or_false] at hx
      subst hx
      exact ⟨_, x3⟩)
    have r1 : Rv (hRen [X]) (s1.at 0 X.cap) u := by have := hRen_at (l := [X]) (j := 0) rfl x3; rw [x1] at this; exact this
    have hheap : hHeap 0 [X] = hpS 0 s1 X.t (encL A l) := by
      rw [← x1, ← x2]
      show hpS 0 X.s X.t X.cs ++ [] = _
      rw [List.append_nil]
    rw [hheap] at hW
    have hval : Rq.g1 A G (s1, cs1) = G l := by simp [Rq.g1, hl]
    rw [hval]
    have := afun_calls (hE s1) hm hf hb (hok s1) (tabOk_none c) (K := fun q _ => flat q = some (B.val (G l))) (hr s1 X.cap X.t l g1' (decL_len hl)).out (F := frameOf w)
      (Rvs.cons r1 .nil) hW (fun id hid => hRen_none id (by simpa using hid))
    refine Calls.mono this ?_
    rintro e w' ⟨v', q', h', ρ', rfl, hk', hrv, hrw, _⟩
    have := hrv.flat_eq hk'
    subst this
    exact ⟨_, rfl, .of_flat (B.h1 _), hw.below hrw.to_below⟩
  · obtain ⟨a, x, _, _, ho⟩ := key hg
    simp only [Prod.mk.injEq] at ho
    obtain ⟨_, _, rfl⟩ := ho
    simp
/-- A list of which the length is told, by its places. -/
def lstB (b : Nat → Int) : Nat → Nat → List Int
  | _, 0 => []
  | i, n + 1 => b i :: lstB b (i + 1) n
theorem lstB_len (b : Nat → Int) : ∀ n i, (lstB b i n).length = n
  | 0, _ => rfl
  | n + 1, i => by simp [lstB, lstB_len b n]
theorem lstB_is : ∀ (l : List Int) (f : Nat → Int) (j : Nat), (∀ i, i < l.length → f (j + i) = l.getD i 0) → lstB f j l.length = l
  | [], f, j, h => rfl
  | x :: t, f, j, h => by
    simp only [List.length_cons, lstB]
    have h0 := h 0 (by simp)
    rw [Nat.add_zero] at h0
    rw [h0, lstB_is t f (j + 1) (fun i hi => by
      have := h (i + 1) (by simpa using hi)
      rw [show j + 1 + i = j + (i + 1) by omega, this]; simp)]
    simp
theorem lstB_of (l : List Int) : l = lstB (fun i => l.getD i 0) 0 l.length := (lstB_is l _ 0 (fun i _ => by rw [Nat.zero_add])).symm
end Go.Rq

/- Operations, reckoned by small steps: what they come to is what the abstract machine's come to. -/
namespace Go.Rq
open Go

/-! Integers. -/
noncomputable def wrapF (k : IntKind) (z : Int) : Int := match k with
  | .u8 => Int.emod z (.ofNat 256)
  | .u16 => Int.emod z (.ofNat 65536)
  | .u32 => Int.emod z (.ofNat 4294967296)
  | .u64 => Int.emod z (.ofNat 18446744073709551616)
  | .i64 => match z with
    | .ofNat n => cond (Nat.blt n 9223372036854775808) (.ofNat n) (IntKind.i64.wrap (.ofNat n))
    | .negSucc n => cond (Nat.blt n 9223372036854775808) (.negSucc n) (IntKind.i64.wrap (.negSucc n))
  | k => k.wrap z
theorem blt_lt {n m : Nat} (h : Nat.blt n m = true) : n < m := Nat.le_of_ble_eq_true h
theorem wrap_idF {n : Int} (h0 : -9223372036854775808 ≤ n) (h1 : n < 9223372036854775808) : IntKind.i64.wrap n = n := by
  simp [IntKind.wrap, IntKind.bits, IntKind.signed]
  split <;> omega
theorem wrapF_eq (k : IntKind) (z : Int) : wrapF k z = k.wrap z := by
  cases k with
  | u8 => simp [wrapF, IntKind.wrap, IntKind.bits, IntKind.signed]; rfl
  | u16 => simp [wrapF, IntKind.wrap, IntKind.bits, IntKind.signed]; rfl
  | u32 => simp [wrapF, IntKind.wrap, IntKind.bits, IntKind.signed]; rfl
  | u64 => simp [wrapF, IntKind.wrap, IntKind.bits, IntKind.signed]; rfl
  | i64 =>
    simp only [wrapF]
    split
    · rename_i n
      cases hb : Nat.blt n 9223372036854775808 with
      | false => rw [cond_false]
      | true =>
        have := blt_lt hb
        rw [cond_true]
        exact (wrap_idF (n := (n : Int)) (by omega) (by omega)).symm
    · rename_i n
      cases hb : Nat.blt n 9223372036854775808 with
      | false => rw [cond_false]
      | true =>
        have := blt_lt hb
        rw [cond_true]
        exact (wrap_idF (by omega) (by omega)).symm
  | _ => rfl

def iEq : Int → Int → Bool
  | .ofNat a, .ofNat b => Nat.beq a b
  | .negSucc a, .negSucc b => Nat.beq a b
  | _, _ => false
def iLt : Int → Int → Bool
  | .ofNat a, .ofNat b => Nat.blt a b
  | .negSucc _, .ofNat _ => true
  | .ofNat _, .negSucc _ => false
  | .negSucc a, .negSucc b => Nat.blt b a
theorem iEq_eq (m n : Int) : iEq m n = (m == n) := by
  cases hb : iEq m n with
  | true =>
    unfold iEq at hb
    split at hb
    · rw [(beq_iff _ _).1 hb]; simp
    · rw [(beq_iff _ _).1 hb]; simp
    · cases hb
  | false =>
    unfold iEq at hb
    split at hb
    · have := beq_off.1 hb
      symm; simp; omega
    · have := beq_off.1 hb
      symm; simp; omega
    · symm
      cases m with
      | ofNat a => cases n with
        | ofNat b => rename_i h1 h2; exact absurd rfl (h1 a b rfl)
        | negSucc b => rfl
      | negSucc a => cases n with
        | ofNat b => rfl
        | negSucc b => rename_i h1 h2; exact absurd rfl (h2 a b rfl)
theorem blt_dec (a b : Nat) : Nat.blt a b = decide (a < b) := by
  cases hb : Nat.blt a b with
  | true => simp [blt_lt hb]
  | false =>
    symm; simp
    rcases Nat.lt_or_ge a b with h | h
    · rw [show Nat.blt a b = true from Nat.ble_eq_true_of_le h] at hb; cases hb
    · exact h
theorem iLt_eq (m n : Int) : iLt m n = decide (m < n) := by
  cases m with
  | ofNat a => cases n with
    | ofNat b => simp only [iLt, blt_dec]; congr 1; apply propext; exact Int.ofNat_lt.symm
    | negSucc b => simp only [iLt]; symm; simp; omega
  | negSucc a => cases n with
    | ofNat b => simp only [iLt]; symm; simp; omega
    | negSucc b => simp only [iLt, blt_dec]; congr 1; apply propext; constructor <;> intro h <;> omega

/-- Two to the width of a kind without a sign. -/
def uMod : IntKind → Option Nat
  | .u8 => some 256
  | .u16 => some 65536
  | .u32 => some 4294967296
  | .u64 => some 18446744073709551616
  | _ => none
theorem uMod_eq {k : IntKind} {M : Nat} (h : uMod k = some M) : M = 2 ^ k.bits ∧ k.signed = false := by
  cases k <;> simp [uMod] at h <;> subst h <;> exact ⟨rfl, rfl⟩
theorem wrap_nat {k : IntKind} {M : Nat} (h : uMod k = some M) (a : Nat) : k.wrap (a : Int) = ((a % M : Nat) : Int) := by
  obtain ⟨h1, h2⟩ := uMod_eq h
  subst h1
  simp [IntKind.wrap, h2]
def bitF (op : BinOp) (M a b : Nat) : Option Nat := match op with
  | .and => some (Nat.land (Nat.mod a M) (Nat.mod b M))
  | .or => some (Nat.lor (Nat.mod a M) (Nat.mod b M))
  | .xor => some (Nat.xor (Nat.mod a M) (Nat.mod b M))
  | _ => none

def bitsV (op : BinOp) (k : IntKind) (m n : Int) : Option Value := match m, n, uMod k with
  | .ofNat a, .ofNat b, some M => match bitF op M a b with
    | some r => some (.int k (.ofNat r))
    | none => none
  | _, _, _ => none
noncomputable def intF (op : BinOp) (k : IntKind) (m n : Int) : Option Value := match op with
  | .add => some (.int k (wrapF k (Int.add m n)))
  | .sub => some (.int k (wrapF k (Int.sub m n)))
  | .mul => some (.int k (wrapF k (Int.mul m n)))
  | .eql => some (.bool (iEq m n))
  | .neq => some (.bool (not (iEq m n)))
  | .lss => some (.bool (iLt m n))
  | .leq => some (.bool (not (iLt n m)))
  | .gtr => some (.bool (iLt n m))
  | .geq => some (.bool (not (iLt m n)))
  | .quo => match m, n with
    | .ofNat a, .ofNat (b + 1) => some (.int k (wrapF k (.ofNat (Nat.div a (b + 1)))))
    | _, _ => none
  | .rem => match m, n with
    | .ofNat a, .ofNat (b + 1) => some (.int k (.ofNat (Nat.mod a (b + 1))))
    | _, _ => none
  | op => bitsV op k m n

theorem ofInt_nat (w a : Nat) : (BitVec.ofInt w (Int.ofNat a)).toNat = a % 2 ^ w := by
  simp [BitVec.ofInt_natCast]

theorem intF_run {P : Program} {op : BinOp} {t : TypeId} {x y : Operand} {k : IntKind} {m n : Int} {r : Value} (h : intF op k m n = some r) :
    pureRun P (do eqGuard op t x y (.int k m) (.int k n); binOp op t (.int k m) (.int k n)) = some r := by
  have hg : (do eqGuard op t x y (.int k m) (.int k n); binOp op t (.int k m) (.int k n) : Sem Value) = binOp op t (.int k m) (.int k n) := by cases op <;> rfl
  rw [hg]
  have bits : ∀ {a b M q : Nat}, uMod k = some M → bitF op M a b = some q → pureRun P (Op.intBits op k (Int.ofNat a) (Int.ofNat b)) = some (.int k (.ofNat q)) := by
    intro a b M q hM hq
    obtain ⟨h1, h2⟩ := uMod_eq hM
    have hlt : ∀ c, c % M < M := fun c => Nat.mod_lt _ (by rw [h1]; exact Nat.two_pow_pos _)
    cases op <;> simp only [bitF, Option.some.injEq, reduceCtorEq] at hq <;> subst hq <;> simp only [Op.intBits]
    · show some (Value.int k (k.wrap ((BitVec.ofInt k.bits (Int.ofNat a) &&& BitVec.ofInt k.bits (Int.ofNat b)).toNat : Int))) = _
      rw [wrap_nat hM, Nat.mod_eq_of_lt (by rw [h1]; exact BitVec.isLt _), BitVec.toNat_and, ofInt_nat, ofInt_nat, ← h1]
      rfl
    · show some (Value.int k (k.wrap ((BitVec.ofInt k.bits (Int.ofNat a) ||| BitVec.ofInt k.bits (Int.ofNat b)).toNat : Int))) = _
      rw [wrap_nat hM, Nat.mod_eq_of_lt (by rw [h1]; exact BitVec.isLt _), BitVec.toNat_or, ofInt_nat, ofInt_nat, ← h1]
      rfl
    · show some (Value.int k (k.wrap ((BitVec.ofInt k.bits (Int.ofNat a) ^^^ BitVec.ofInt k.bits (Int.ofNat b)).toNat : Int))) = _
      rw [wrap_nat hM, Nat.mod_eq_of_lt (by rw [h1]; exact BitVec.isLt _), BitVec.toNat_xor, ofInt_nat, ofInt_nat, ← h1]
      rfl
  have rest : (∀ a b, binOp op t (.int k a) (.int k b) = Op.intBits op k a b) → bitsV op k m n = some r → pureRun P (binOp op t (.int k m) (.int k n)) = some r := by
    intro hb h2
    clear h hg
    rw [hb]
    cases m with
    | negSucc a => cases h2
    | ofNat a => cases n with
      | negSucc b => cases h2
      | ofNat b =>
        simp only [bitsV] at h2
        cases hM : uMod k with
        | none => rw [hM] at h2; cases h2
        | some M =>
          rw [hM] at h2
          simp only at h2
          split at h2
          · rename_i q hq
            simp only [Option.some.injEq] at h2; subst h2
            exact bits hM hq
          · cases h2
  cases op with
  | add => simp only [intF, Option.some.injEq] at h; subst h; simp only [binOp, ne_eq, not_true, if_false, Op.intArith, wrapF_eq]; rfl
  | sub => simp only [intF, Option.some.injEq] at h; subst h; simp only [binOp, ne_eq, not_true, if_false, Op.intArith, wrapF_eq]; rfl
  | mul => simp only [intF, Option.some.injEq] at h; subst h; simp only [binOp, ne_eq, not_true, if_false, Op.intArith, wrapF_eq]; rfl
  | eql => simp only [intF, Option.some.injEq] at h; subst h; simp only [binOp, ne_eq, not_true, if_false, Op.intCmp, iEq_eq]; rfl
  | neq => simp only [intF, Option.some.injEq] at h; subst h; simp only [binOp, ne_eq, not_true, if_false, Op.intCmp, iEq_eq]; rfl
  | lss => simp only [intF, Option.some.injEq] at h; subst h; simp only [binOp, ne_eq, not_true, if_false, Op.intCmp, iLt_eq]; rfl
  | gtr => simp only [intF, Option.some.injEq] at h; subst h; simp only [binOp, ne_eq, not_true, if_false, Op.intCmp, iLt_eq]; rfl
  | leq =>
    simp only [intF, Option.some.injEq] at h; subst h; simp only [binOp, ne_eq, not_true, if_false, Op.intCmp, iLt_eq]
    refine congrArg (fun b => some (Value.bool b)) ?_
    by_cases hh : n < m
    · simp [hh]
    · simp [hh]; omega
  | geq =>
    simp only [intF, Option.some.injEq] at h; subst h; simp only [binOp, ne_eq, not_true, if_false, Op.intCmp, iLt_eq]
    refine congrArg (fun b => some (Value.bool b)) ?_
    by_cases hh : m < n
    · simp [hh]
    · simp [hh]; omega
  | quo =>
    simp only [intF] at h
    split at h
    · rename_i a b
      simp only [Option.some.injEq] at h; subst h
      simp only [binOp, ne_eq, not_true, if_false, Op.intDiv, wrapF_eq]
      rw [if_neg (by simp; omega)]; rfl
    · cases h
  | rem =>
    simp only [intF] at h
    split at h
    · rename_i a b
      simp only [Option.some.injEq] at h; subst h
      simp only [binOp, ne_eq, not_true, if_false, Op.intDiv]
      rw [if_neg (by simp; omega)]; rfl
    · cases h
  | and => exact rest (fun a b => by simp only [binOp, ne_eq, not_true, if_false]) h
  | or => exact rest (fun a b => by simp only [binOp, ne_eq, not_true, if_false]) h
  | xor => exact rest (fun a b => by simp only [binOp, ne_eq, not_true, if_false]) h
  | andNot => exact rest (fun a b => by simp only [binOp, ne_eq, not_true, if_false]) h
  | shl =>
    simp only [intF, bitsV] at h
    split at h
    · simp [bitF] at h
    · cases h
  | shr =>
    simp only [intF, bitsV] at h
    split at h
    · simp [bitF] at h
    · cases h
end Go.Rq

/- The product of two elements, as a number. -/
namespace Go.Rq
open Go

theorem round_sum {p0 t0 r0 c0 p1 t1 r1 c1 p2 t2 r2 c2 p3 t3 r3 c3 p4 t4 r4 c4 p5 t5 r5 c5 q k0 k6 s6 s1 k1 s2 k2 s3 k3 s4 k4 s5 k5 : Nat} (e0 : r0 + 18446744073709551616 * c0 = p0 + t0) (e1 : r1 + 18446744073709551616 * c1 = p1 + t1 + c0) (e2 : r2 + 18446744073709551616 * c2 = p2 + t2 + c1) (e3 : r3 + 18446744073709551616 * c3 = p3 + t3 + c2) (e4 : r4 + 18446744073709551616 * c4 = p4 + t4 + c3) (e5 : r5 + 18446744073709551616 * c5 = p5 + t5 + c4) (f0 : 18446744073709551616 * k0 = q * 13402431016077863595 + r0) (f1 : s1 + 18446744073709551616 * k1 = q * 2210141511517208575 + r1 + k0) (f2 : s2 + 18446744073709551616 * k2 = q * 7435674573564081700 + r2 + k1) (f3 : s3 + 18446744073709551616 * k3 = q * 7239337960414712511 + r3 + k2) (f4 : s4 + 18446744073709551616 * k4 = q * 5412103778470702295 + r4 + k3) (f5 : s5 + 18446744073709551616 * k5 = q * 1873798617647539866 + r5 + k4) (f6 : s6 + 18446744073709551616 * k6 = c5 + k5) :
    18446744073709551616 * (s1 + 18446744073709551616 * s2 + 340282366920938463463374607431768211456 * s3 + 6277101735386680763835789423207666416102355444464034512896 * s4 + 115792089237316195423570985008687907853269984665640564039457584007913129639936 * s5 + 2135987035920910082395021706169552114602704522356652769947041607822219725780640550022962086936576 * s6) + 726838724295606890549323807888004534353641360687318060281490199180639288113397923326191050713763565560762521606266177933534601628614656 * k6 = (p0 + 18446744073709551616 * p1 + 340282366920938463463374607431768211456 * p2 + 6277101735386680763835789423207666416102355444464034512896 * p3 + 115792089237316195423570985008687907853269984665640564039457584007913129639936 * p4 + 2135987035920910082395021706169552114602704522356652769947041607822219725780640550022962086936576 * p5) + (t0 + 18446744073709551616 * t1 + 340282366920938463463374607431768211456 * t2 + 6277101735386680763835789423207666416102355444464034512896 * t3 + 115792089237316195423570985008687907853269984665640564039457584007913129639936 * t4 + 2135987035920910082395021706169552114602704522356652769947041607822219725780640550022962086936576 * t5) + q * 4002409555221667393417789825735904156556882819939007885332058136124031650490837864442687629129015664037894272559787 := by
  omega

theorem val_mul (x : Nat) (a : W6) : x * a.val = (x * a.w0.toNat) + 18446744073709551616 * (x * a.w1.toNat) + 340282366920938463463374607431768211456 * (x * a.w2.toNat) + 6277101735386680763835789423207666416102355444464034512896 * (x * a.w3.toNat) + 115792089237316195423570985008687907853269984665640564039457584007913129639936 * (x * a.w4.toNat) + 2135987035920910082395021706169552114602704522356652769947041607822219725780640550022962086936576 * (x * a.w5.toNat) := by
  simp only [W6.val, Nat.mul_add, Nat.mul_left_comm x]

theorem neg_inv (r : BitVec 64) : (r * 9940570264628428797#64 * primeW.w0).toNat = (r.toNat * 18446744073709551615) % 18446744073709551616 := by
  rw [BitVec.mul_assoc, BitVec.toNat_mul]
  rfl

theorem low_zero (r : BitVec 64) : (mul64 (r * 9940570264628428797#64) primeW.w0).2 + r + bitW false = 0#64 := by
  apply BitVec.eq_of_toNat_eq
  show (r * 9940570264628428797#64 * primeW.w0 + r + bitW false).toNat = 0
  have hr := r.isLt
  rw [BitVec.toNat_add, BitVec.toNat_add, neg_inv, bitW_nat]
  show ((r.toNat * 18446744073709551615 % 18446744073709551616 + r.toNat) % 18446744073709551616 + 0) % 18446744073709551616 = 0
  omega

theorem p_words : primeW.w0.toNat = 13402431016077863595 ∧ primeW.w1.toNat = 2210141511517208575 ∧ primeW.w2.toNat = 7435674573564081700 ∧ primeW.w3.toNat = 7239337960414712511 ∧ primeW.w4.toNat = 5412103778470702295 ∧ primeW.w5.toNat = 1873798617647539866 := by decide +kernel

theorem mulRound_eq {a : W6} {x : BitVec 64} {t : W7} {r0 r1 r2 r3 r4 r5 s1 s2 s3 s4 s5 m : BitVec 64 × BitVec 64} {s0 s6 : BitVec 64 × Bool} {q k0 : BitVec 64}
    (hr0 : mac x a.w0 t.l.w0 (bitW false) = r0) (hr1 : mac x a.w1 t.l.w1 r0.2 = r1) (hr2 : mac x a.w2 t.l.w2 r1.2 = r2) (hr3 : mac x a.w3 t.l.w3 r2.2 = r3) (hr4 : mac x a.w4 t.l.w4 r3.2 = r4) (hr5 : mac x a.w5 t.l.w5 r4.2 = r5)
    (hq : r0.1 * 9940570264628428797#64 = q) (hm : mul64 q primeW.w0 = m) (hs0 : add64 m.2 r0.1 false = s0) (hk : m.1 + bitW s0.2 = k0)
    (hs1 : mac q primeW.w1 r1.1 k0 = s1) (hs2 : mac q primeW.w2 r2.1 s1.2 = s2) (hs3 : mac q primeW.w3 r3.1 s2.2 = s3) (hs4 : mac q primeW.w4 r4.1 s3.2 = s4) (hs5 : mac q primeW.w5 r5.1 s4.2 = s5) (hs6 : add64 (t.w6 + r5.2) s5.2 false = s6) :
    mulRound a x t = ⟨⟨s1.1, s2.1, s3.1, s4.1, s5.1, s6.1⟩, bitW s6.2⟩ := by
  subst hr0 hr1 hr2 hr3 hr4 hr5 hq hm hs0 hk hs1 hs2 hs3 hs4 hs5 hs6
  rfl

theorem carry_first {q r m1 m2 : Nat} {c : Nat} (hc : c ≤ 1) (hq : q < 18446744073709551616) (hm : m2 + 18446744073709551616 * m1 = q * 13402431016077863595) (hs : 18446744073709551616 * c = m2 + r) : m1 + c < 18446744073709551616 ∧ 18446744073709551616 * (m1 + c) = q * 13402431016077863595 + r := by
  omega

theorem round_end {xA A T q v k : Nat} (ha : A < 4002409555221667393417789825735904156556882819939007885332058136124031650490837864442687629129015664037894272559787) (ht : T < A + 4002409555221667393417789825735904156556882819939007885332058136124031650490837864442687629129015664037894272559787) (hx : xA ≤ 18446744073709551615 * A) (hq : q < 18446744073709551616) (hs : 18446744073709551616 * v + 726838724295606890549323807888004534353641360687318060281490199180639288113397923326191050713763565560762521606266177933534601628614656 * k = xA + T + q * 4002409555221667393417789825735904156556882819939007885332058136124031650490837864442687629129015664037894272559787) : k = 0 ∧ v < A + 4002409555221667393417789825735904156556882819939007885332058136124031650490837864442687629129015664037894272559787 ∧ 18446744073709551616 * v = xA + T + q * 4002409555221667393417789825735904156556882819939007885332058136124031650490837864442687629129015664037894272559787 := by
  have hk : k = 0 := by omega
  subst hk
  omega

theorem round_nat (a : W6) (x : BitVec 64) (t : W7) (hw : t.w6 = 0#64) (ha : a.val < pN) (ht : t.l.val < a.val + pN) :
    ∃ q : Nat, (mulRound a x t).w6 = 0#64 ∧ (mulRound a x t).l.val < a.val + pN ∧ 18446744073709551616 * (mulRound a x t).l.val = x.toNat * a.val + t.l.val + q * pN := by
  obtain ⟨g0, g1, g2, g3, g4, g5⟩ := p_words
  obtain ⟨r0, hr0⟩ : ∃ r, mac x a.w0 t.l.w0 (bitW false) = r := ⟨_, rfl⟩
  obtain ⟨r1, hr1⟩ : ∃ r, mac x a.w1 t.l.w1 r0.2 = r := ⟨_, rfl⟩
  obtain ⟨r2, hr2⟩ : ∃ r, mac x a.w2 t.l.w2 r1.2 = r := ⟨_, rfl⟩
  obtain ⟨r3, hr3⟩ : ∃ r, mac x a.w3 t.l.w3 r2.2 = r := ⟨_, rfl⟩
  obtain ⟨r4, hr4⟩ : ∃ r, mac x a.w4 t.l.w4 r3.2 = r := ⟨_, rfl⟩
  obtain ⟨r5, hr5⟩ : ∃ r, mac x a.w5 t.l.w5 r4.2 = r := ⟨_, rfl⟩
  obtain ⟨q, hq⟩ : ∃ q, r0.1 * 9940570264628428797#64 = q := ⟨_, rfl⟩
  obtain ⟨m, hm⟩ : ∃ m, mul64 q primeW.w0 = m := ⟨_, rfl⟩
  obtain ⟨s0, hs0⟩ : ∃ s, add64 m.2 r0.1 false = s := ⟨_, rfl⟩
  obtain ⟨k0, hk⟩ : ∃ k, m.1 + bitW s0.2 = k := ⟨_, rfl⟩
  obtain ⟨s1, hs1⟩ : ∃ s, mac q primeW.w1 r1.1 k0 = s := ⟨_, rfl⟩
  obtain ⟨s2, hs2⟩ : ∃ s, mac q primeW.w2 r2.1 s1.2 = s := ⟨_, rfl⟩
  obtain ⟨s3, hs3⟩ : ∃ s, mac q primeW.w3 r3.1 s2.2 = s := ⟨_, rfl⟩
  obtain ⟨s4, hs4⟩ : ∃ s, mac q primeW.w4 r4.1 s3.2 = s := ⟨_, rfl⟩
  obtain ⟨s5, hs5⟩ : ∃ s, mac q primeW.w5 r5.1 s4.2 = s := ⟨_, rfl⟩
  obtain ⟨s6, hs6⟩ : ∃ s, add64 (t.w6 + r5.2) s5.2 false = s := ⟨_, rfl⟩
  have hres := mulRound_eq hr0 hr1 hr2 hr3 hr4 hr5 hq hm hs0 hk hs1 hs2 hs3 hs4 hs5 hs6
  have e0 := mac_nat x a.w0 t.l.w0 (bitW false)
  rw [hr0, show (bitW false).toNat = 0 from rfl, Nat.add_zero] at e0
  have e1 := mac_nat x a.w1 t.l.w1 r0.2
  rw [hr1] at e1
  have e2 := mac_nat x a.w2 t.l.w2 r1.2
  rw [hr2] at e2
  have e3 := mac_nat x a.w3 t.l.w3 r2.2
  rw [hr3] at e3
  have e4 := mac_nat x a.w4 t.l.w4 r3.2
  rw [hr4] at e4
  have e5 := mac_nat x a.w5 t.l.w5 r4.2
  rw [hr5] at e5
  have lz := low_zero r0.1
  rw [hq, hm] at lz
  have m0 := mul64_nat q primeW.w0
  rw [hm, g0] at m0
  have z0 := add64_nat m.2 r0.1 false
  rw [show (add64 m.2 r0.1 false).1 = 0#64 from lz, hs0, show b2n false = 0 from rfl, show (0#64).toNat = 0 from rfl, Nat.add_zero, Nat.zero_add] at z0
  obtain ⟨c1, c2⟩ := carry_first (b2n_le s0.2) q.isLt m0 z0
  have hk0 : k0.toNat = m.1.toNat + b2n s0.2 := by
    rw [← hk, BitVec.toNat_add, bitW_nat]
    exact Nat.mod_eq_of_lt c1
  rw [← hk0] at c2
  have f1 := mac_nat q primeW.w1 r1.1 k0
  rw [hs1, g1] at f1
  have f2 := mac_nat q primeW.w2 r2.1 s1.2
  rw [hs2, g2] at f2
  have f3 := mac_nat q primeW.w3 r3.1 s2.2
  rw [hs3, g3] at f3
  have f4 := mac_nat q primeW.w4 r4.1 s3.2
  rw [hs4, g4] at f4
  have f5 := mac_nat q primeW.w5 r5.1 s4.2
  rw [hs5, g5] at f5
  have f6 := add64_nat (t.w6 + r5.2) s5.2 false
  rw [hs6, show (t.w6 + r5.2) = r5.2 by rw [hw, BitVec.zero_add], show b2n false = 0 from rfl, Nat.add_zero] at f6
  have sum := round_sum e0 e1 e2 e3 e4 e5 c2 f1 f2 f3 f4 f5 f6
  have xA : x.toNat * a.val ≤ 18446744073709551615 * a.val := Nat.mul_le_mul_right _ (Nat.le_of_lt_succ x.isLt)
  rw [← val_mul x.toNat a] at sum
  obtain ⟨n1, n2, n3⟩ := round_end (v := (W6.mk s1.1 s2.1 s3.1 s4.1 s5.1 s6.1).val) (T := t.l.val) ha ht xA q.isLt sum
  refine ⟨q.toNat, ?_, ?_, ?_⟩
  · rw [hres]
    show bitW s6.2 = 0#64
    cases hh : s6.2 with
    | false => rfl
    | true => rw [hh] at n1; cases n1
  · rw [hres]; exact n2
  · rw [hres]; exact n3


def rinvN : Nat := 3231460744492646417066832100176244795738767926513225105051837195607029917124509527734802654356338138714468589979680
/-- The product of two elements. -/
def mulN (a b : Nat) : Nat := a * b * rinvN % pN

theorem raw_sum {x1 q1 v1 x2 q2 v2 x3 q3 v3 x4 q4 v4 x5 q5 v5 x6 q6 v6 : Nat} (h1 : 18446744073709551616 * v1 = x1 + q1 * 4002409555221667393417789825735904156556882819939007885332058136124031650490837864442687629129015664037894272559787) (h2 : 18446744073709551616 * v2 = x2 + v1 + q2 * 4002409555221667393417789825735904156556882819939007885332058136124031650490837864442687629129015664037894272559787) (h3 : 18446744073709551616 * v3 = x3 + v2 + q3 * 4002409555221667393417789825735904156556882819939007885332058136124031650490837864442687629129015664037894272559787) (h4 : 18446744073709551616 * v4 = x4 + v3 + q4 * 4002409555221667393417789825735904156556882819939007885332058136124031650490837864442687629129015664037894272559787) (h5 : 18446744073709551616 * v5 = x5 + v4 + q5 * 4002409555221667393417789825735904156556882819939007885332058136124031650490837864442687629129015664037894272559787) (h6 : 18446744073709551616 * v6 = x6 + v5 + q6 * 4002409555221667393417789825735904156556882819939007885332058136124031650490837864442687629129015664037894272559787) :
    39402006196394479212279040100143613805079739270465446667948293404245721771497210611414266254884915640806627990306816 * v6 = (x1 + 18446744073709551616 * x2 + 340282366920938463463374607431768211456 * x3 + 6277101735386680763835789423207666416102355444464034512896 * x4 + 115792089237316195423570985008687907853269984665640564039457584007913129639936 * x5 + 2135987035920910082395021706169552114602704522356652769947041607822219725780640550022962086936576 * x6) + (q1 + 18446744073709551616 * q2 + 340282366920938463463374607431768211456 * q3 + 6277101735386680763835789423207666416102355444464034512896 * q4 + 115792089237316195423570985008687907853269984665640564039457584007913129639936 * q5 + 2135987035920910082395021706169552114602704522356652769947041607822219725780640550022962086936576 * q6) * 4002409555221667393417789825735904156556882819939007885332058136124031650490837864442687629129015664037894272559787 := by
  omega

theorem mulRaw_nat (a b : W6) (ha : a.val < pN) : (mulRaw a b).l.val < a.val + pN ∧ ∃ Q, 39402006196394479212279040100143613805079739270465446667948293404245721771497210611414266254884915640806627990306816 * (mulRaw a b).l.val = b.val * a.val + Q * pN := by
  have z0 : zero7.w6 = 0#64 := rfl
  have zv : zero7.l.val = 0 := rfl
  have hp : pN = 4002409555221667393417789825735904156556882819939007885332058136124031650490837864442687629129015664037894272559787 := rfl
  unfold mulRaw
  obtain ⟨q1, w1, l1, h1⟩ := round_nat a b.w0 zero7 z0 ha (by rw [zv]; exact Nat.lt_of_lt_of_le (by decide +kernel : 0 < pN) (Nat.le_add_left _ _))
  generalize mulRound a b.w0 zero7 = t1 at w1 l1 h1 ⊢
  obtain ⟨q2, w2, l2, h2⟩ := round_nat a b.w1 t1 w1 ha l1
  generalize mulRound a b.w1 t1 = t2 at w2 l2 h2 ⊢
  obtain ⟨q3, w3, l3, h3⟩ := round_nat a b.w2 t2 w2 ha l2
  generalize mulRound a b.w2 t2 = t3 at w3 l3 h3 ⊢
  obtain ⟨q4, w4, l4, h4⟩ := round_nat a b.w3 t3 w3 ha l3
  generalize mulRound a b.w3 t3 = t4 at w4 l4 h4 ⊢
  obtain ⟨q5, w5, l5, h5⟩ := round_nat a b.w4 t4 w4 ha l4
  generalize mulRound a b.w4 t4 = t5 at w5 l5 h5 ⊢
  obtain ⟨q6, w6, l6, h6⟩ := round_nat a b.w5 t5 w5 ha l5
  generalize mulRound a b.w5 t5 = t6 at w6 l6 h6 ⊢
  refine ⟨l6, q1 + 18446744073709551616 * q2 + 340282366920938463463374607431768211456 * q3 + 6277101735386680763835789423207666416102355444464034512896 * q4 + 115792089237316195423570985008687907853269984665640564039457584007913129639936 * q5 + 2135987035920910082395021706169552114602704522356652769947041607822219725780640550022962086936576 * q6, ?_⟩
  rw [zv, Nat.add_zero] at h1
  rw [hp] at h1 h2 h3 h4 h5 h6 ⊢
  have hb : b.val * a.val = (b.w0.toNat * a.val) + 18446744073709551616 * (b.w1.toNat * a.val) + 340282366920938463463374607431768211456 * (b.w2.toNat * a.val) + 6277101735386680763835789423207666416102355444464034512896 * (b.w3.toNat * a.val) + 115792089237316195423570985008687907853269984665640564039457584007913129639936 * (b.w4.toNat * a.val) + 2135987035920910082395021706169552114602704522356652769947041607822219725780640550022962086936576 * (b.w5.toNat * a.val) := by
    rw [Nat.mul_comm, val_mul]
    simp only [Nat.mul_comm a.val]
  rw [hb]
  exact raw_sum h1 h2 h3 h4 h5 h6


theorem rinv_ok : 39402006196394479212279040100143613805079739270465446667948293404245721771497210611414266254884915640806627990306816 * rinvN % pN = 1 := by decide +kernel

/-- The product is the number's product with 2^-384. -/
theorem mulW_nat (a b : W6) (ha : a.val < pN) : (mulW a b).val = mulN a.val b.val := by
  obtain ⟨h1, Q, h2⟩ := mulRaw_nat a b ha
  have hm : mulW a b = lessW (mulRaw a b).l := rfl
  rw [hm]
  generalize (mulRaw a b).l = M at h1 h2 ⊢
  have h3 := lessW_nat M (Nat.lt_of_lt_of_le h1 (by rw [Nat.two_mul]; exact Nat.add_le_add_right (Nat.le_of_lt ha) _))
  have hp0 : 0 < pN := by decide +kernel
  have hq : M.val < 2 * pN := Nat.lt_of_lt_of_le h1 (by rw [Nat.two_mul]; exact Nat.add_le_add_right (Nat.le_of_lt ha) _)
  generalize M.val = m at h1 h2 h3 hq ⊢
  have hv : (lessW M).val < pN ∧ (lessW M).val % pN = m % pN := by
    rw [h3]
    split
    · exact ⟨by assumption, rfl⟩
    · rename_i hn
      generalize pN = p at hn hq hp0 ⊢
      refine ⟨by omega, ?_⟩
      rw [← Nat.mod_eq_sub_mod (by omega)]
  have h4 : 39402006196394479212279040100143613805079739270465446667948293404245721771497210611414266254884915640806627990306816 * m % pN = a.val * b.val % pN := by
    rw [h2, Nat.add_mul_mod_self_right, Nat.mul_comm]
  have h5 : m % pN = mulN a.val b.val := by
    unfold mulN
    have : m * (39402006196394479212279040100143613805079739270465446667948293404245721771497210611414266254884915640806627990306816 * rinvN) % pN = m % pN := by
      rw [Nat.mul_mod, rinv_ok, Nat.mul_one, Nat.mod_mod]
    rw [← this]
    rw [show m * (39402006196394479212279040100143613805079739270465446667948293404245721771497210611414266254884915640806627990306816 * rinvN) = 39402006196394479212279040100143613805079739270465446667948293404245721771497210611414266254884915640806627990306816 * m * rinvN by rw [← Nat.mul_assoc, Nat.mul_comm m]]
    rw [Nat.mul_mod, h4, ← Nat.mul_mod]
  rw [← h5, ← hv.2, Nat.mod_eq_of_lt hv.1]

theorem mulN_lt (a b : Nat) : mulN a b < pN := Nat.mod_lt _ (by decide +kernel)
end Go.Rq

/- The curves' formulas go alike over fields that go alike; the two fields as numbers. -/
namespace Go.Rq
open Go

/-- Two fields' operations that go alike. -/
structure FRel {A B : Type} (R : A → B → Prop) (o : FO A) (o' : FO B) (e : A → A → Bool) (e' : B → B → Bool) : Prop where
  add : ∀ {a b c d}, R a b → R c d → R (o.add a c) (o'.add b d)
  sub : ∀ {a b c d}, R a b → R c d → R (o.sub a c) (o'.sub b d)
  mul : ∀ {a b c d}, R a b → R c d → R (o.mul a c) (o'.mul b d)
  neg : ∀ {a b}, R a b → R (o.neg a) (o'.neg b)
  inv : ∀ {a b}, R a b → R (o.inv a) (o'.inv b)
  zero : R o.zero o'.zero
  eq : ∀ {a b c d}, R a b → R c d → e a c = e' b d

section
variable {A B : Type} {R : A → B → Prop} {o : FO A} {o' : FO B} {e : A → A → Bool} {e' : B → B → Bool}

structure RJ (R : A → B → Prop) (p : Jp A) (q : Jp B) : Prop where
  x : R p.x q.x
  y : R p.y q.y
  z : R p.z q.z

structure RA (R : A → B → Prop) (p : Ap A) (q : Ap B) : Prop where
  x : R p.x q.x
  y : R p.y q.y
  z : p.zero = q.zero

structure RFl (R : A → B → Prop) (f : Fl A) (g : Fl B) : Prop where
  one : R f.one g.one
  b : R f.b g.b

theorem raise_rel (h : FRel R o o' e e') {f : Fl A} {g : Fl B} (hf : RFl R f g) {p : Ap A} {q : Ap B} (hp : RA R p q) : RJ R (raiseJ o f p) (raiseJ o' g q) := by
  unfold raiseJ
  rw [hp.z]
  cases q.zero
  · exact ⟨hp.x, hp.y, hf.one⟩
  · exact ⟨hf.one, hf.one, h.zero⟩

theorem twice_rel (h : FRel R o o' e e') {p : Jp A} {q : Jp B} (hp : RJ R p q) : RJ R (twiceJ o p) (twiceJ o' q) := by
  have yy := h.mul hp.y hp.y
  have s1 := h.mul hp.x yy
  have s2 := h.add s1 s1
  have s := h.add s2 s2
  have m1 := h.mul hp.x hp.x
  have m := h.add (h.add m1 m1) m1
  have x := h.sub (h.mul m m) (h.add s s)
  have e0 := h.mul yy yy
  have e1 := h.add e0 e0
  have e2 := h.add e1 e1
  have e3 := h.add e2 e2
  have z := h.mul hp.y hp.z
  exact ⟨x, h.sub (h.mul m (h.sub s x)) e3, h.add z z⟩

theorem lowerJ_rel (h : FRel R o o' e e') {p : Jp A} {q : Jp B} (hp : RJ R p q) : RA R (lowerJ o p) (lowerJ o' q) := by
  have i := h.inv hp.z
  have s := h.mul i i
  exact ⟨h.mul hp.x s, h.mul hp.y (h.mul s i), rfl⟩

theorem lower_rel (h : FRel R o o' e e') {p : Jp A} {q : Jp B} (hp : RJ R p q) : RA R (lowerE o e p) (lowerE o' e' q) := by
  unfold lowerE
  rw [h.eq hp.z h.zero]
  cases e' q.z o'.zero
  · exact lowerJ_rel h hp
  · exact ⟨h.zero, h.zero, rfl⟩

theorem neg_rel (h : FRel R o o' e e') {p : Ap A} {q : Ap B} (hp : RA R p q) : RA R (negE o p) (negE o' q) := ⟨hp.x, h.sub h.zero hp.y, hp.z⟩

theorem on_rel (h : FRel R o o' e e') {f : Fl A} {g : Fl B} (hf : RFl R f g) {p : Ap A} {q : Ap B} (hp : RA R p q) : onE o e f p = onE o' e' g q := by
  unfold onE
  rw [hp.z, h.eq hp.x h.zero, h.eq hp.y h.zero, h.eq (h.mul hp.y hp.y) (h.add (h.mul (h.mul hp.x hp.x) hp.x) hf.b)]

theorem hJ_rel (h : FRel R o o' e e') {p q : Jp A} {p' q' : Jp B} (hp : RJ R p p') (hq : RJ R q q') : R (hJ o p q) (hJ o' p' q') :=
  h.sub (h.mul hq.x (h.mul hp.z hp.z)) (h.mul hp.x (h.mul hq.z hq.z))

theorem rJ_rel (h : FRel R o o' e e') {p q : Jp A} {p' q' : Jp B} (hp : RJ R p p') (hq : RJ R q q') : R (rJ o p q) (rJ o' p' q') :=
  h.sub (h.mul hq.y (h.mul (h.mul hp.z hp.z) hp.z)) (h.mul hp.y (h.mul (h.mul hq.z hq.z) hq.z))

theorem sumJ_rel (h : FRel R o o' e e') {p q : Jp A} {p' q' : Jp B} (hp : RJ R p p') (hq : RJ R q q') : RJ R (sumJ o p q) (sumJ o' p' q') := by
  have pp := h.mul hp.z hp.z
  have qq := h.mul hq.z hq.z
  have u := h.mul hp.x qq
  have v := h.mul hq.x pp
  have s := h.mul hp.y (h.mul qq hq.z)
  have t := h.mul hq.y (h.mul pp hp.z)
  have hh := h.sub v u
  have r := h.sub t s
  have h2 := h.mul hh hh
  have h3 := h.mul h2 hh
  have w := h.mul u h2
  have x := h.sub (h.sub (h.mul r r) h3) (h.add w w)
  exact ⟨x, h.sub (h.mul r (h.sub w x)) (h.mul s h3), h.mul hh (h.mul hp.z hq.z)⟩

theorem sum_rel (h : FRel R o o' e e') {f : Fl A} {g : Fl B} (hf : RFl R f g) {p q : Jp A} {p' q' : Jp B} (hp : RJ R p p') (hq : RJ R q q') : RJ R (sumE o e f p q) (sumE o' e' g p' q') := by
  unfold sumE
  rw [h.eq hp.z h.zero, h.eq hq.z h.zero, h.eq (hJ_rel h hp hq) h.zero, h.eq (rJ_rel h hp hq) h.zero]
  cases e' p'.z o'.zero
  · cases e' q'.z o'.zero
    · cases e' (hJ o' p' q') o'.zero
      · exact sumJ_rel h hp hq
      · cases e' (rJ o' p' q') o'.zero
        · exact ⟨hf.one, hf.one, h.zero⟩
        · exact twice_rel h hp
    · exact hp
  · exact hq
end

/-! The first field as numbers. -/

/-- A number is reckoned ahead. -/
def forceN {α : Type} (x : Nat) (f : Nat → α) : α := Nat.rec (f 0) (fun n _ => f (n + 1)) x

theorem forceN_eq {α : Type} (x : Nat) (f : Nat → α) : forceN x f = f x := by cases x <;> rfl

def powS (a : Nat) (e : W6) : Nat → Nat → Nat
  | 0, out => out
  | k + 1, out => forceN (bif e.bit k then mulN (mulN out out) a else mulN out out) fun r => powS a e k r

def addN (a b : Nat) : Nat := (a + b) % pN
def subN (a b : Nat) : Nat := (a + (pN - b)) % pN
def negN (a : Nat) : Nat := subN 0 a
def oneN : Nat := 3380320199399472671518931668520476396067793891014375699959770179129436917079669831430077592723774664465579537268733
def wideN : Nat := 2708263910654730174793787626328176511836455197166317677006154293982164122222515399004018013397331347120527951271750
def invN (a : Nat) : Nat := powS a expInv 384 oneN
def toN (a : Nat) : Nat := mulN wideN a
def backN (a : Nat) : Nat := mulN a 1
def fN : FO Nat := ⟨addN, subN, mulN, negN, invN, toN, backN, oneN, 0⟩

structure Rep (n : Nat) (w : W6) : Prop where
  val : w.val = n
  lt : n < pN

theorem pN_pos : 0 < pN := by decide +kernel
theorem pN_eq : pN = 4002409555221667393417789825735904156556882819939007885332058136124031650490837864442687629129015664037894272559787 := rfl

theorem rep_mul {a c : Nat} {b d : W6} (h : Rep a b) (k : Rep c d) : Rep (mulN a c) (mulW b d) := ⟨by rw [mulW_nat b d (by rw [h.val]; exact h.lt), h.val, k.val], mulN_lt _ _⟩

theorem rep_add {a c : Nat} {b d : W6} (h : Rep a b) (k : Rep c d) : Rep (addN a c) (addW b d) := by
  unfold addN
  refine ⟨?_, Nat.mod_lt _ pN_pos⟩
  have h1 := adds_nat b d
  rw [h.val, k.val] at h1
  have h2 := h.lt
  have h3 := k.lt
  have hl := (adds b d).1.val_lt
  have hb := b2n_le (adds b d).2
  show (lessW (adds b d).1).val = _
  generalize (adds b d).1 = s at h1 hl ⊢
  generalize b2n (adds b d).2 = cc at h1 hb
  have h4 := lessW_nat s (by rw [pN_eq] at h2 h3 ⊢; generalize s.val = v at *; omega)
  rw [h4]
  rw [pN_eq] at h2 h3 ⊢
  generalize s.val = v at *
  have hv : v = a + c := by omega
  subst hv
  split
  · rename_i hlt
    rw [Nat.mod_eq_of_lt hlt]
  · rename_i hge
    rw [Nat.mod_eq_sub_mod (by omega), Nat.mod_eq_of_lt (by omega)]

theorem rep_sub {a c : Nat} {b d : W6} (h : Rep a b) (k : Rep c d) : Rep (subN a c) (subW b d) := by
  unfold subN
  refine ⟨?_, Nat.mod_lt _ pN_pos⟩
  have h1 := subs_nat b d
  rw [h.val, k.val] at h1
  have h2 := h.lt
  have h3 := k.lt
  have hl := (subs b d).1.val_lt
  unfold subW
  cases hb : (subs b d).2 with
  | false =>
    rw [hb] at h1
    have z : b2n false = 0 := rfl
    rw [z, Nat.mul_zero, Nat.add_zero] at h1
    simp only [cond_false]
    generalize (subs b d).1.val = v at *
    rw [pN_eq] at h2 h3 ⊢
    rw [Nat.mod_eq_sub_mod (by omega), Nat.mod_eq_of_lt (by omega)]
    omega
  | true =>
    rw [hb] at h1
    have z : b2n true = 1 := rfl
    rw [z, Nat.mul_one] at h1
    simp only [cond_true]
    have h5 := adds_nat (subs b d).1 primeW
    rw [prime_val] at h5
    have hl2 := (adds (subs b d).1 primeW).1.val_lt
    have hb2 := b2n_le (adds (subs b d).1 primeW).2
    generalize (adds (subs b d).1 primeW).1.val = u at *
    generalize b2n (adds (subs b d).1 primeW).2 = cc at *
    generalize (subs b d).1.val = v at *
    rw [pN_eq] at h2 h3 h5 ⊢
    rw [Nat.mod_eq_of_lt (by omega)]
    omega

theorem W6.val_inj {a b : W6} (h : a.val = b.val) : a = b := by
  have f : ∀ x : BitVec 64, x.toNat < 18446744073709551616 := fun x => x.isLt
  obtain ⟨a0, a1, a2, a3, a4, a5⟩ := a
  obtain ⟨b0, b1, b2, b3, b4, b5⟩ := b
  simp only [W6.val] at h
  have g0 := f a0; have g1 := f a1; have g2 := f a2; have g3 := f a3; have g4 := f a4; have g5 := f a5
  have k0 := f b0; have k1 := f b1; have k2 := f b2; have k3 := f b3; have k4 := f b4; have k5 := f b5
  have e0 : a0 = b0 := BitVec.eq_of_toNat_eq (by omega)
  have e1 : a1 = b1 := BitVec.eq_of_toNat_eq (by omega)
  have e2 : a2 = b2 := BitVec.eq_of_toNat_eq (by omega)
  have e3 : a3 = b3 := BitVec.eq_of_toNat_eq (by omega)
  have e4 : a4 = b4 := BitVec.eq_of_toNat_eq (by omega)
  have e5 : a5 = b5 := BitVec.eq_of_toNat_eq (by omega)
  subst e0 e1 e2 e3 e4 e5
  rfl

theorem eqW_iff (a b : W6) : eqW a b = true ↔ a = b := by
  obtain ⟨a0, a1, a2, a3, a4, a5⟩ := a
  obtain ⟨b0, b1, b2, b3, b4, b5⟩ := b
  simp [eqW]

theorem rep_eq {a c : Nat} {b d : W6} (h : Rep a b) (k : Rep c d) : Nat.beq a c = eqW b d := by
  rw [Bool.eq_iff_iff, eqW_iff, Nat.beq_eq]
  constructor
  · intro e; exact W6.val_inj (by rw [h.val, k.val, e])
  · intro e; rw [← h.val, ← k.val, e]

theorem rep_pow {a : Nat} {b : W6} (h : Rep a b) (e : W6) : ∀ (k : Nat) {n : Nat} {w : W6}, Rep n w → Rep (powS a e k n) (powG mulW b e k w)
  | 0, n, w, hn => hn
  | k + 1, n, w, hn => by
    simp only [powS, powG, forceN_eq]
    apply rep_pow h e k
    cases e.bit k
    · rw [cond_false, cond_false]; exact rep_mul hn hn
    · rw [cond_true, cond_true]; exact rep_mul (rep_mul hn hn) h

theorem one_val : oneW.val = oneN := by decide +kernel
theorem zero_val : zeroW.val = 0 := by decide +kernel
theorem wide_val : wideW.val = wideN := by decide +kernel
theorem oneN_lt : oneN < pN := by decide +kernel
theorem wideN_lt : wideN < pN := by decide +kernel
theorem rep_one : Rep oneN oneW := ⟨one_val, oneN_lt⟩
theorem rep_zero : Rep 0 zeroW := ⟨zero_val, pN_pos⟩
theorem rep_inv {a : Nat} {b : W6} (h : Rep a b) : Rep (invN a) (invW b) := by
  unfold invN invW pow384
  exact rep_pow h expInv 384 rep_one

theorem rep_neg {a : Nat} {b : W6} (h : Rep a b) : Rep (negN a) (negW b) := by
  unfold negN negW
  exact rep_sub rep_zero h

/-- A told number, as an element. -/
theorem rep_to (a : W6) : Rep (toN a.val) (toW a) := by
  unfold toN toW
  exact ⟨by rw [mulW_nat wideW a (by rw [wide_val]; exact wideN_lt), wide_val], mulN_lt _ _⟩

/-- An element, as a told number. -/
theorem rep_back {a : Nat} {b : W6} (h : Rep a b) : (fromW b).val = backN a := by
  unfold backN fromW
  rw [mulW_nat b _ (by rw [h.val]; exact h.lt), h.val]
  have : (W6.mk 1#64 0#64 0#64 0#64 0#64 0#64).val = 1 := by decide +kernel
  rw [this]

theorem fN_add : fN.add = addN := by simp only [fN]
theorem fN_sub : fN.sub = subN := by simp only [fN]
theorem fN_mul : fN.mul = mulN := by simp only [fN]
theorem fN_neg : fN.neg = negN := by simp only [fN]
theorem fN_inv : fN.inv = invN := by simp only [fN]
theorem fW_add : fW.add = addW := by simp only [fW]
theorem fW_sub : fW.sub = subW := by simp only [fW]
theorem fW_mul : fW.mul = mulW := by simp only [fW]
theorem fW_neg : fW.neg = negW := by simp only [fW]
theorem fW_inv : fW.inv = invW := by simp only [fW]
theorem relW : FRel Rep fN fW Nat.beq eqW where
  add h k := by rw [fN_add, fW_add]; exact rep_add h k
  sub h k := by rw [fN_sub, fW_sub]; exact rep_sub h k
  mul h k := by rw [fN_mul, fW_mul]; exact rep_mul h k
  neg h := by rw [fN_neg, fW_neg]; exact rep_neg h
  inv h := by rw [fN_inv, fW_inv]; exact rep_inv h
  zero := rep_zero
  eq h k := rep_eq h k

end Go.Rq

/- Operations, reckoned by small steps: all kinds. -/
namespace Go.Rq
open Go

/-! Two values. -/
def amtF : AV → Option Nat
  | .u y => some y.toNat
  | .v (.int _ (.ofNat n)) => some n
  | _ => none
noncomputable def kNum (k : IntKind) : Nat := IntKind.rec 0 1 2 3 4 5 6 7 k
theorem kNum_inj {k j : IntKind} (h : Nat.beq (kNum k) (kNum j) = true) : k = j := by
  have := (beq_iff _ _).1 h
  cases k <;> cases j <;> first | rfl | (exact absurd this (by decide))
noncomputable def shV (op : BinOp) (k : IntKind) (a n : Nat) : Option (Bool × AV) := match op with
  | .shl => some (true, .v (.int k (wrapF k (.ofNat (Nat.mul a (Nat.pow 2 n))))))
  | .shr => some (true, .v (.int k (.ofNat (Nat.div a (Nat.pow 2 n)))))
  | _ => none
noncomputable def fastSh (op : BinOp) (k : IntKind) (m : Int) (b : AV) : Option (Bool × AV) := match m with
  | .ofNat a => match amtF b with
    | some n => cond (Nat.blt n k.bits) (shV op k a n) none
    | none => none
  | _ => none
noncomputable def fastI (op : BinOp) (k : IntKind) (m : Int) (b : AV) : Option (Bool × AV) := match isShift op with
  | true => fastSh op k m b
  | false => match b with
    | .v (.int j n) => cond (Nat.beq (kNum k) (kNum j)) (match intF op k m n with
      | some r => some (true, .v r)
      | none => none) none
    | _ => none
def fastU (op : BinOp) (x : BitVec 64) (b : AV) : Option (Bool × AV) := match isShift op with
  | true => match amtF b with
    | some n => match ushift op x n with
      | some r => some (true, r)
      | none => none
    | none => none
  | false => match b with
    | .u y => match ubin op x y with
      | some r => some (true, r)
      | none => match udivA op x y with
        | some r => some (!(y == 0#64), r)
        | none => none
    | .bit c => match ubin op x (bitW c) with
      | some r => some (true, r)
      | none => none
    | _ => none
noncomputable def fastBin (op : BinOp) (a b : AV) : Option (Bool × AV) := match a with
  | .v (.int k m) => fastI op k m b
  | .u x => fastU op x b
  | _ => none

theorem amtF_flat {b : AV} {n : Nat} (h : amtF b = some n) : ∃ j, flat b = some (.int j (n : Int)) ∧ toShift b = some (n : Int) := by
  unfold amtF at h
  split at h
  · simp at h; subst h; exact ⟨.u64, rfl, rfl⟩
  · simp at h; subst h; exact ⟨_, rfl, rfl⟩
  · cases h

theorem fastBin_ok {P : Program} {E : Env} {op : BinOp} {t : TypeId} {x y : Operand} {a b : AV} {q : Bool × AV} (h : fastBin op a b = some q) : binF P E op t x y a b = some q := by
  unfold fastBin at h
  split at h
  · rename_i k m
    unfold fastI at h
    split at h
    · rename_i hs
      unfold fastSh at h
      split at h
      · rename_i a
        split at h
        · rename_i n hn
          obtain ⟨hb, h⟩ := cond_some h
          have hb := blt_lt hb
          obtain ⟨j, h1, h2⟩ := amtF_flat hn
          have hmin : Nat.min n k.bits = n := Nat.min_eq_left (Nat.le_of_lt hb)
          have key : ∀ r, pureRun P (do eqGuard op t x y (.int k (Int.ofNat a)) (.int j (n : Int)); binOp op t (.int k (Int.ofNat a)) (.int j (n : Int))) = some r → binF P E op t x y (.v (.int k (Int.ofNat a))) b = some (true, .v r) := by
            intro r hr
            unfold binF
            simp only [hs, Rq.toU]
            unfold binPlain
            simp only [hs, h1, show flat (.v (.int k (Int.ofNat a))) = some (.int k (Int.ofNat a)) from rfl]
            rw [hr]
          cases op <;> simp only [shV, reduceCtorEq, Option.some.injEq] at h
          · subst h
            refine key _ ?_
            show pureRun P (Op.shift .shl k (Int.ofNat a) j (n : Int)) = _
            simp only [Op.shift]
            rw [if_neg (by omega), wrapF_eq]
            show some (Value.int k (k.wrap (Int.ofNat a * 2 ^ Nat.min n k.bits))) = _
            rw [hmin]
            congr 3
            try simp
          · subst h
            refine key _ ?_
            show pureRun P (Op.shift .shr k (Int.ofNat a) j (n : Int)) = _
            simp only [Op.shift]
            rw [if_neg (by omega)]
            show some (Value.int k ((Int.ofNat a).fdiv (2 ^ Nat.min n k.bits))) = _
            rw [hmin]
            congr 2
            have h2 : (2 : Int) ^ n = ((2 ^ n : Nat) : Int) := by simp
            rw [h2, Int.fdiv_eq_ediv_of_nonneg _ (Int.natCast_nonneg _)]
            try rfl
        · cases h
      · cases h
    · rename_i hs
      split at h
      · rename_i j n
        obtain ⟨hk, h⟩ := cond_some h
        obtain rfl : k = j := kNum_inj hk
        clear hk
        split at h
        · rename_i r hr
          simp at h; subst h
          unfold binF
          simp only [hs, Rq.toU]
          unfold binPlain
          simp only [hs, Rq.toU, Rq.aggOf, show ∀ z, flat (.v (.int k z)) = some (.int k z) from fun _ => rfl]
          rw [intF_run hr]
        · exact absurd h (by simp)
      · cases h
  · rename_i u
    unfold fastU at h
    split at h
    · rename_i hs
      split at h
      · rename_i n hn
        obtain ⟨j, h1, h2⟩ := amtF_flat hn
        split at h
        · rename_i r hr
          simp at h; subst h
          unfold binF
          simp only [hs, Rq.toU, h2, Int.toNat_natCast, hr]
          rw [show decide ((0 : Int) ≤ (n : Int)) = true by simp]
        · cases h
      · cases h
    · rename_i hs
      split at h
      · rename_i v
        have hu : ∀ r, ubin op u v = some r → binPlain P E op t x y (.u u) (.u v) = some r := by
          intro r hr
          unfold binPlain
          simp only [hs, Rq.toU, ubinB, hr]
        split at h
        · rename_i r hr
          simp at h; subst h
          unfold binF
          simp only [hs, hu r hr]
        · rename_i hn
          split at h
          · rename_i r hr
            simp at h; subst h
            have : binPlain P E op t x y (.u u) (.u v) = none := by
              unfold binPlain
              simp only [hs, Rq.toU, ubinB, hn]
            unfold binF
            simp only [hs, this, Rq.toU, hr]
          · cases h
      · rename_i v
        split at h
        · rename_i r hr
          simp at h; subst h
          have : binPlain P E op t x y (.u u) (.bit v) = some r := by
            unfold binPlain
            simp only [hs, Rq.toU, ubinB, hr]
          unfold binF
          simp only [hs, this]
        · cases h
      · cases h
  · cases h

/-! All kinds. -/
noncomputable def oOr (r : Option (Bool × AV)) (s : Option (Bool × AV × AH)) : Option (Bool × AV × AH) := match r with
  | some (c, r) => some (c, r, [])
  | none => s
noncomputable def oP (r : Option (Bool × AV)) : Option (Bool × AV × AH) := match r with
  | some (c, r) => some (c, r, [])
  | none => none
noncomputable def oLd (r : Option (Bool × AV)) : Option (Bool × AV × AH) := match r with
  | some (c, r) => some (c, r, [])
  | none => none
noncomputable def oLoad (P : Program) (E : Env) (h : AH) (t : TypeId) (a : AV) (s : Option (Bool × AV × AH)) : Option (Bool × AV × AH) := match a with
  | .ptr i off => match h.getC i with
    | some B => oLd (loadE P E.wide t B.cs off)
    | none => none
  | _ => s
noncomputable def oSt (i : Nat) (B : Blk) (cs : Option (List AV)) : Option (Bool × AV × AH) := match cs with
  | some cs => some (true, .v undef, [(i, some ⟨true, B.ty, cs⟩)])
  | none => none
noncomputable def oStore (P : Program) (h : AH) (t : TypeId) (a x : AV) : Option (Bool × AV × AH) := match a with
  | .ptr i off => match h.getC i with
    | some B => match B.wr with
      | true => oSt i B (storeA P t B.cs off x)
      | false => none
    | none => none
  | _ => none
def nilF : AV → Option (Bool × AV)
  | .ptr id off => some (true, .ptr id off)
  | _ => none
def oFA (P : Program) (s : TypeId) (f : Nat) (a : AV) : Option (Bool × AV) := match a with
  | .ptr id off => match P.underlying s with
    | some (.struct fs) => match fs.toList[f]? with
      | some fl => match sz P fl.type with
        | some (_ + 1) => some (true, .ptr id (off + fl.offset))
        | _ => none
      | none => none
    | _ => none
  | _ => none
def oIA (P : Program) (t : TypeId) (a ix : AV) : Option (Bool × AV) := match ix with
  | .v (.int _ (.ofNat n)) => match P.underlying t with
    | some (.array len el) => match a with
      | .ptr id off => match sz P el with
        | some m => some (Nat.blt n len, .ptr id (off + n * m))
        | none => none
      | _ => none
    | some (.slice el) => match a with
      | .slc id off len _ => match sz P el with
        | some m => some (Nat.blt n len, .ptr id (off + n * m))
        | none => none
      | .own id es k len => match sz P el with
        | some m => some (Nat.blt n len, .ptr id (k * es + n * m))
        | none => none
      | _ => none
    | _ => none
  | _ => none
def oEx (i : Nat) (a : AV) : Option (Bool × AV) := match a with
  | .tup cs => match cs[i]? with
    | some r => some (true, r)
    | none => none
  | _ => none
noncomputable def oCv (P : Program) (s d : TypeId) (a : AV) : Option (Bool × AV) := match a with
  | .v (.int _ n) => match P.underlying s, P.underlying d with
    | some (.int _), some (.int .u64) => some (true, .u (BitVec.ofInt 64 n))
    | some (.int _), some (.int k) => some (true, .v (.int k (wrapF k n)))
    | _, _ => none
  | .u x => match P.underlying s, P.underlying d with
    | some (.int _), some (.int .u64) => some (true, .u x)
    | some (.int _), some (.int k) => some (true, .v (.int k (wrapF k (.ofNat x.toNat))))
    | _, _ => none
  | _ => none
noncomputable def oUn (op : UnOp) (a : AV) : Option (Bool × AV) := match a with
  | .v (.bool b) => match op with
    | .not => some (true, .v (.bool (not b)))
    | _ => none
  | .lit b => match op with
    | .not => some (true, .v (.bool (not b)))
    | _ => none
  | .v (.int k n) => match op with
    | .neg => some (true, .v (.int k (wrapF k (Int.sub (.ofNat 0) n))))
    | .xor => match n, uMod k with
      | .ofNat a, some M => some (true, .v (.int k (.ofNat (Nat.xor (Nat.mod (Nat.pred M) M) (Nat.mod a M)))))
      | _, _ => none
    | _ => none
  | _ => none
noncomputable def oAct (ro : Bool) (id kk : Nat) (r : Option (Bool × AV × AH)) : Option (Bool × AV × AH) := match ro with
  | false => r
  | true => match r with
    | some (c, r, ups) => match allB id kk ups with
      | true => some (c, r, ups)
      | false => none
    | none => none
noncomputable def oCallT (E : Env) (h : AH) (id fid : Nat) (as : List AV) (s : Option (Bool × AV × AH)) : Option (Bool × AV × AH) := match E.pure fid with
  | some g => oP (g as)
  | none => match E.heap fid with
    | some _ => s
    | none => match E.lay fid with
      | some _ => s
      | none => match E.act fid with
        | some g => oAct (memN fid E.ro) id E.kk (g as h id)
        | none => none
noncomputable def oCallV (E : Env) (ev : Operand → AV) (h : AH) (id : Nat) (f : Operand) (args : List Operand) (s : Option (Bool × AV × AH)) : Option (Bool × AV × AH) := match f with
  | .func fid => frcL frc2 (maps ev args) fun as => oCallT E h id fid as s
  | _ => s
noncomputable def oCall (E : Env) (ev : Operand → AV) (h : AH) (id : Nat) (c : Call) (s : Option (Bool × AV × AH)) : Option (Bool × AV × AH) := match c.callee with
  | .value f => oCallV E ev h id f c.args.toList s
  | _ => s

noncomputable def fastOp (P : Program) (E : Env) (ev : Operand → AV) (h : AH) (id : Nat) (op : Op) : Option (Bool × AV × AH) := match op with
  | .move x => some (true, ev x, [])
  | .assign x => some (true, ev x, [])
  | .binOp o t x y u => oOr (fastBin o (ev x) (ev y)) (effOp P E ev h id (.binOp o t x y u))
  | .load t a => oLoad P E h t (ev a) (effOp P E ev h id (.load t a))
  | .store t a x => oStore P h t (ev a) (ev x)
  | .nilCheck x => oOr (nilF (ev x)) (effOp P E ev h id (.nilCheck x))
  | .fieldAddr s x f => oP (oFA P s f (ev x))
  | .indexAddr t x ix => oOr (oIA P t (ev x) (ev ix)) (effOp P E ev h id (.indexAddr t x ix))
  | .extract x i => oOr (oEx i (ev x)) (effOp P E ev h id (.extract x i))
  | .convert s d x => oOr (oCv P s d (ev x)) (effOp P E ev h id (.convert s d x))
  | .unOp o t x => oOr (oUn o (ev x)) (effOp P E ev h id (.unOp o t x))
  | .call c => oCall E ev h id c (effOp P E ev h id (.call c))
  | op => effOp P E ev h id op
end Go.Rq

/- Operations reckoned by small steps come to what the abstract machine's come to. -/
namespace Go.Rq
open Go

theorem oOr_ok {r : Option (Bool × AV)} {s : Option (Bool × AV × AH)} {x : Bool × AV × AH} (h : oOr r s = some x) (hr : ∀ c v, r = some (c, v) → s = some (c, v, [])) : s = some x := by
  unfold oOr at h
  split at h
  · rw [hr _ _ rfl]; exact h
  · exact h

theorem xor_max {k : IntKind} {M : Nat} (h : uMod k = some M) : k.max = Int.ofNat (Nat.pred M) := by
  cases k <;> simp [uMod] at h <;> subst h <;> rfl

theorem intBits_xor {P : Program} {k : IntKind} {M a b : Nat} (hM : uMod k = some M) : pureRun P (Op.intBits .xor k (Int.ofNat a) (Int.ofNat b)) = some (.int k (.ofNat (Nat.xor (Nat.mod a M) (Nat.mod b M)))) := by
  obtain ⟨h1, h2⟩ := uMod_eq hM
  simp only [Op.intBits]
  show some (Value.int k (k.wrap ((BitVec.ofInt k.bits (Int.ofNat a) ^^^ BitVec.ofInt k.bits (Int.ofNat b)).toNat : Int))) = _
  rw [wrap_nat hM, Nat.mod_eq_of_lt (by rw [h1]; exact BitVec.isLt _), BitVec.toNat_xor, ofInt_nat, ofInt_nat, ← h1]
  rfl

theorem pureRun_bind {α β : Type} {P : Program} {f : α → Sem β} : ∀ {s : Sem α} {a : α}, pureRun P s = some a → pureRun P (s >>= f) = pureRun P (f a) := by
  intro s a h
  induction s with
  | pure b => simp only [pureRun, Option.some.injEq] at h; subst h; rfl
  | program k ih => simp only [pureRun] at h; exact ih _ h
  | _ => simp only [pureRun] at h; cases h
theorem pureRun_underlying {P : Program} {t : TypeId} {d : TypeDesc} (h : P.underlying t = some d) : pureRun P (underlying t) = some d := by
  show pureRun P (match P.underlying t with
    | some d => pure d
    | none => stuck "no such type") = _
  rw [h]; rfl
theorem convert_int {P : Program} {s d : TypeId} {k j : IntKind} {a : TypeDesc} {n : Int} (h1 : P.underlying s = some a) (h2 : P.underlying d = some (.int k)) : pureRun P (convert s d (.int j n)) = some (.int k (wrapF k n)) := by
  rw [wrapF_eq]
  unfold convert
  rw [pureRun_bind (pureRun_underlying h1), pureRun_bind (pureRun_underlying h2)]
  cases a <;> rfl

theorem ofInt_u (x : BitVec 64) : BitVec.ofInt 64 (Int.ofNat x.toNat) = x := ofInt_u64 x

theorem oCv_ok {P : Program} {E : Env} {ev : Operand → AV} {h : AH} {id : Nat} {s d : TypeId} {x : Operand} {c : Bool} {v : AV} (e : oCv P s d (ev x) = some (c, v)) : effOp P E ev h id (.convert s d x) = some (c, v, []) := by
  have main : isSl (ev x) = false → effBytes P id s d (ev x) = none → opPure P E ev (.convert s d x) = some (c, v) → effOp P E ev h id (.convert s d x) = some (c, v, []) := by
    intro h1 h2 h3
    simp only [effOp, isMark, h1, h2, h3, Bool.and_false]
  unfold oCv at e
  split at e
  · rename_i j n hx
    refine main (by rw [hx]; rfl) (by rw [hx]; unfold effBytes; split <;> simp_all) ?_
    simp only [opPure, hx, Rq.toU, show flat (.v (.int j n)) = some (.int j n) from rfl]
    split at e
    · rename_i a h1 h2
      simp at e; obtain ⟨rfl, rfl⟩ := e
      simp only [h1, h2]
    · rename_i a k hk h1 h2
      simp at e; obtain ⟨rfl, rfl⟩ := e
      rw [h1, h2]
      have hc := convert_int (n := n) (j := j) h1 h2
      cases k with
      | u64 => exact absurd rfl hk
      | _ => simp only [hc]
    · cases e
  · rename_i u hx
    refine main (by rw [hx]; rfl) (by rw [hx]; unfold effBytes; split <;> simp_all) ?_
    simp only [opPure, hx, Rq.toU]
    split at e
    · rename_i a h1 h2
      simp at e; obtain ⟨rfl, rfl⟩ := e
      simp only [h1, h2]
    · rename_i a k hk h1 h2
      simp at e; obtain ⟨rfl, rfl⟩ := e
      rw [h1, h2]
      cases k with
      | u64 => exact absurd rfl hk
      | _ => simp only [wrapF_eq]; rfl
    · cases e
  · cases e

theorem oUn_ok {P : Program} {E : Env} {ev : Operand → AV} {h : AH} {id : Nat} {o : UnOp} {t : TypeId} {x : Operand} {c : Bool} {v : AV} (e : oUn o (ev x) = some (c, v)) : effOp P E ev h id (.unOp o t x) = some (c, v, []) := by
  have main : opPure P E ev (.unOp o t x) = some (c, v) → effOp P E ev h id (.unOp o t x) = some (c, v, []) := by
    intro h3
    simp only [effOp, h3]
  refine main ?_
  unfold oUn at e
  split at e
  · rename_i b hx
    split at e
    · simp at e; obtain ⟨rfl, rfl⟩ := e
      simp only [opPure, hx, Rq.toU, show flat (.v (.bool b)) = some (.bool b) from rfl]
      rfl
    · cases e
  · rename_i b hx
    split at e
    · simp at e; obtain ⟨rfl, rfl⟩ := e
      simp only [opPure, hx, Rq.toU, show flat (.lit b) = some (.bool b) from rfl]
      rfl
    · cases e
  · rename_i k n hx
    split at e
    · simp at e; obtain ⟨rfl, rfl⟩ := e
      simp only [opPure, hx, Rq.toU, show flat (.v (.int k n)) = some (.int k n) from rfl]
      rw [wrapF_eq]; rfl
    · split at e
      · rename_i a M hM
        simp at e; obtain ⟨rfl, rfl⟩ := e
        simp only [opPure, hx, Rq.toU, show flat (.v (.int k (.ofNat a))) = some (.int k (.ofNat a)) from rfl]
        have : pureRun P (Op.unary .xor (.int k (.ofNat a))) = some (.int k (.ofNat (Nat.xor (Nat.mod (Nat.pred M) M) (Nat.mod a M)))) := by
          simp only [Op.unary, (uMod_eq hM).2]
          rw [if_neg (by simp), xor_max hM]
          exact intBits_xor hM
        simp only [this]
        rfl
      · cases e
    · cases e
  · cases e

theorem oIA_ok {P : Program} {E : Env} {ev : Operand → AV} {h : AH} {id : Nat} {t : TypeId} {x ix : Operand} {c : Bool} {v : AV} (e : oIA P t (ev x) (ev ix) = some (c, v)) : effOp P E ev h id (.indexAddr t x ix) = some (c, v, []) := by
  have main : opPure P E ev (.indexAddr t x ix) = some (c, v) → effOp P E ev h id (.indexAddr t x ix) = some (c, v, []) := by
    intro h3
    simp only [effOp, h3]
  have hd : ∀ (n len : Nat), decide (0 ≤ (n : Int) ∧ (n : Int) < (len : Int)) = Nat.blt n len := by
    intro n len
    rw [blt_dec]
    congr 1
    apply propext
    constructor
    · intro h; exact Int.ofNat_lt.1 h.2
    · intro h; exact ⟨Int.natCast_nonneg _, Int.ofNat_lt.2 h⟩
  refine main ?_
  unfold oIA at e
  split at e
  · rename_i k n hix
    simp only [opPure, hix, show flat (.v (.int k (.ofNat n))) = some (.int k (.ofNat n)) from rfl]
    split at e
    · rename_i len el hu
      split at e
      · rename_i hx
        split at e
        · rename_i m hm
          simp at e; obtain ⟨rfl, rfl⟩ := e
          simp only [hu, hx, hm, Int.ofNat_eq_natCast, Int.toNat_natCast, hd]
        · cases e
      · cases e
    · rename_i el hu
      split at e
      · rename_i hx
        split at e
        · rename_i m hm
          simp at e; obtain ⟨rfl, rfl⟩ := e
          simp only [hu, hx, hm, Int.ofNat_eq_natCast, Int.toNat_natCast, hd]
        · cases e
      · rename_i hx
        split at e
        · rename_i m hm
          simp at e; obtain ⟨rfl, rfl⟩ := e
          simp only [hu, hx, hm, Int.ofNat_eq_natCast, Int.toNat_natCast, hd]
        · cases e
      · cases e
    · cases e
  · cases e

theorem fastBin_eff {P : Program} {E : Env} {ev : Operand → AV} {h : AH} {id : Nat} {o : BinOp} {t u : TypeId} {x y : Operand} {c : Bool} {v : AV} (e : fastBin o (ev x) (ev y) = some (c, v)) : effOp P E ev h id (.binOp o t x y u) = some (c, v, []) := by
  have hb := fastBin_ok (P := P) (E := E) (t := t) (x := x) (y := y) e
  have main : opPure P E ev (.binOp o t x y u) = some (c, v) → effOp P E ev h id (.binOp o t x y u) = some (c, v, []) := by
    intro h3
    simp only [effOp, h3]
  refine main ?_
  unfold fastBin at e
  split at e
  · rename_i k m hx
    simp only [opPure, hx]
    rw [hx] at hb
    exact hb
  · rename_i w hx
    simp only [opPure, hx]
    rw [hx] at hb
    exact hb
  · cases e

theorem oCallV_ok {P : Program} {E : Env} {ev : Operand → AV} (hf : ∀ f, ev (.func f) = .fn (.func f) [] []) {h : AH} {id : Nat} {c : Call} {f : Operand} (hc : c.callee = .value f) {x : Bool × AV × AH}
    (e : oCallV E ev h id f c.args.toList (effOp P E ev h id (.call c)) = some x) : effOp P E ev h id (.call c) = some x := by
  unfold oCallV at e
  split at e
  · rename_i fid
    rw [frcL_eq frc2_eq] at e
    unfold oCallT at e
    have hs : effOp P E ev h id (.call c) = effCall E ev h id (.func fid) c.args.toList := by simp only [effOp, hc]
    split at e
    · rename_i g hg
      rw [hs]
      unfold effCall
      rw [hf]
      simp only [hg, List.nil_append, List.append_nil]
      exact e
    · rename_i hp
      split at e
      · exact e
      · rename_i hh
        split at e
        · exact e
        · rename_i hl
          rw [hs]
          unfold effCall
          rw [hf]
          simp only [hp, hh, hl]
          split at e
          · rename_i g hg
            unfold oAct at e
            simp only [hg]
            exact e
          · cases e
  · exact e

theorem fastOp_ok {P : Program} {E : Env} {ev : Operand → AV} (hf : ∀ f, ev (.func f) = .fn (.func f) [] []) {h : AH} {id : Nat} {op : Op} {x : Bool × AV × AH} (e : fastOp P E ev h id op = some x) : effOp P E ev h id op = some x := by
  cases op with
  | move y => exact e
  | assign y => exact e
  | binOp o t y z u => exact oOr_ok e fun c v hr => fastBin_eff hr
  | load t a =>
    simp only [fastOp, oLoad] at e
    split at e
    · rename_i i off ha
      simp only [effOp, ha]
      exact e
    · exact e
  | store t a y =>
    simp only [fastOp, oStore] at e
    split at e
    · rename_i i off ha
      simp only [effOp, ha]
      exact e
    · cases e
  | nilCheck y =>
    refine oOr_ok e fun c v hr => ?_
    unfold nilF at hr
    split at hr
    · rename_i i off hy
      simp at hr; obtain ⟨rfl, rfl⟩ := hr
      simp only [effOp, opPure, hy]
    · cases hr
  | fieldAddr s y f =>
    simp only [fastOp, oP] at e
    split at e
    · rename_i c v hr
      unfold oFA at hr
      split at hr
      · rename_i i off hy
        split at hr
        · rename_i fs hu
          simp only [effOp, opPure, hu, hy]
          split at hr
          · rename_i fl hfl
            simp only [hfl]
            split at hr
            · rename_i n hn
              simp at hr; obtain ⟨rfl, rfl⟩ := hr
              simp only [hn]; exact e
            · cases hr
          · cases hr
        · cases hr
      · cases hr
    · cases e
  | indexAddr t y z => exact oOr_ok e fun c v hr => oIA_ok hr
  | extract y i =>
    refine oOr_ok e fun c v hr => ?_
    unfold oEx at hr
    split at hr
    · rename_i cs hy
      split at hr
      · rename_i q hq
        simp at hr; obtain ⟨rfl, rfl⟩ := hr
        simp only [effOp, opPure, hy, hq]
      · cases hr
    · cases hr
  | convert s d y => exact oOr_ok e fun c v hr => oCv_ok hr
  | unOp o t y => exact oOr_ok e fun c v hr => oUn_ok hr
  | call c =>
    simp only [fastOp, oCall] at e
    split at e
    · rename_i f hc
      exact oCallV_ok hf hc e
    · exact e
  | _ => exact e
end Go.Rq
