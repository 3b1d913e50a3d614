/- Functions that read one block by a pointer; functions that lay one block and hand back a pointer to it. -/
import Derived.Test.YtdbcjiggimppdaaRq08
import Derived.Test.YtdbcjiggimppdaaRq10
import Derived.Test.YtdbcjiggimppdaaRq07
namespace Go.Rq
open Go

/-- Several exact arguments. -/
structure MC (δ : Type) where
  enc : δ → List AV
  dec : List AV → Option δ
  val : δ → List Value
  h1 : ∀ x, flatL (enc x) = some (val x)
  h2 : ∀ (ρ : Ren) (as : List AV) (vs : List Value) (x : δ), dec as = some x → Rvs ρ as vs → vs = val x

def mc0 : MC Unit where
  enc _ := []
  dec as := match as with
    | [] => some ()
    | _ => none
  val _ := []
  h1 _ := rfl
  h2 ρ as vs x h r := by
    split at h
    · exact r.unnil
    · cases h

def mc1 {α : Type} (A : Cod α) : MC α where
  enc x := [A.enc x]
  dec as := match as with
    | [a] => A.dec a
    | _ => none
  val x := [A.val x]
  h1 x := by simp [flatL, A.h1]
  h2 ρ as vs x h r := by
    split at h
    · obtain ⟨v, ys, rfl, h1, h2⟩ := r.uncons
      rw [h2.unnil, A.h2 ρ _ _ _ h h1]
    · cases h

def mc2 {α β : Type} (A : Cod α) (B : Cod β) : MC (α × β) where
  enc x := [A.enc x.1, B.enc x.2]
  dec as := match as with
    | [a, b] => match A.dec a, B.dec b with
      | some x, some y => some (x, y)
      | _, _ => none
    | _ => none
  val x := [A.val x.1, B.val x.2]
  h1 x := by simp [flatL, A.h1, B.h1]
  h2 ρ as vs x h r := by
    split at h
    · split at h
      · rename_i p q hp hq
        simp at h; subst h
        obtain ⟨v, ys, rfl, h1, h2⟩ := r.uncons
        obtain ⟨u, zs, rfl, h3, h4⟩ := h2.uncons
        rw [h4.unnil, A.h2 ρ _ _ _ hp h1, B.h2 ρ _ _ _ hq h3]
      · cases h
    · cases h

/-- The first argument's block is read; the others are exact. -/
def rdp {β γ δ : Type} (t : TypeId) (C : CC γ) (D : MC δ) (B : Cod β) (F : γ → δ → β) : List AV → AH → Option (Bool × AV × AH)
  | .ptr i 0 :: rest, h => match blkDec C t h i, D.dec rest with
    | some x, some z => some (true, B.enc (F x z), [])
    | _, _ => none
  | _, _ => none

theorem rdp_ok {β γ δ : Type} {P : Program} {E : Env} {sym : List Tmp} {lf f : Nat} {c : Code} {fn : Func} (hE : EnvOk P E) (hm : P.follows .mixedOrders = true) (hf : P.funcs.toList[f]? = some fn) (hb : fn.body = some c)
    (hok : codeOk E c = true) {D : MC δ} {C : CC γ} {B : Cod β} {F : γ → δ → β} {t : TypeId}
    (hr : ∀ x z, GivesH (afun P E sym (fun _ => none) lf f (.ptr 0 0 :: D.enc z) (oneAH C t x) 1) (B.val (F x z))) : HeapOk P f (rdp t C D B F) := by
  have key : ∀ {as : List AV} {h : AH} {o : Bool × AV × AH}, rdp t C D B F as h = some o → ∃ i rest x z, as = .ptr i 0 :: rest ∧ D.dec rest = some z ∧ blkDec C t h i = some x ∧ o = (true, B.enc (F x z), []) := by
    intro as h o hg
    unfold rdp at hg
    split at hg
    · rename_i i rest
      split at hg
      · rename_i x z hx hz
        simp at hg
        exact ⟨i, rest, x, z, rfl, hz, hx, hg.symm⟩
      · cases hg
    · cases hg
  have again : ∀ {as : List AV} {h h' : AH} {o : Bool × AV × AH}, rdp t C D B F as h = some o → (∀ i, i ∈ idsOf as → ∀ B, h.get i = some B → h'.get i = some B) → rdp t C D B F as h' = some o := by
    intro as h h' o hg hh
    obtain ⟨i, rest, x, z, rfl, hz, hx, rfl⟩ := key hg
    have hi : i ∈ idsOf (.ptr i 0 :: rest) := by simp [idsOf]
    unfold rdp
    simp only [hz, blkDec_congr (hh i hi) hx]
  refine ⟨?_, fun as h h' x hle hg => again hg (fun i _ B hB => hle i B hB), fun ρ as xs z b h x hx hz hg => again hg (fun i hi B hB => by
      rw [AH.get_cons, if_neg (fun e => hx.ids_ne hz i hi e.symm)] at hB; exact hB), fun as h c' r ups hg => ?_⟩
  · intro F' ρ as xs h r ups w hg hx hw
    obtain ⟨i, rest, x, z, rfl, hz, h1, ho⟩ := key hg
    simp at ho
    obtain ⟨rfl, rfl⟩ := ho
    obtain ⟨u, xs', rfl, hu, hx'⟩ := hx.uncons
    have hpv := D.h2 ρ _ _ _ hz hx'
    subst hpv
    obtain ⟨b, cx, fr, p1, p2, p3, p4, p5⟩ := blk_again hw h1
    let σ : Ren := ⟨fun id => if id = 0 then some b else none, fun _ => cx.size⟩
    have hσ : σ 0 = some b := rfl
    have hRW : RW (frameOf w) σ (oneAH C t x) w := by
      refine ⟨fun id B hB => ?_, fun id id' B B' d hB hB' hwr => ?_, fun _ _ h => h, rfl, rfl, rfl⟩
      · unfold oneAH at hB
        rw [AH.get_cons] at hB
        split at hB
        · rename_i e; subst e; simp at hB; subst hB
          exact ⟨b, _, hσ, p2, ⟨cx, fr, rfl, (fun h => by cases h), p4, fun j a v ha hv => p5 σ j a v ha hv⟩, (fun h => by cases h), rfl⟩
        · simp [AH.get] at hB
      · unfold oneAH at hB
        rw [AH.get_cons] at hB
        split at hB
        · simp at hB; subst hB; cases hwr
        · simp [AH.get] at hB
    cases hu with
    | ptr hsb =>
      rw [p1] at hsb; simp at hsb; subst hsb
      have := afun_calls hE hm hf hb hok (tabOk_none c) (K := fun q _ => flat q = some (B.val (F x z))) (hr x z).out (F := frameOf w) (.cons (.ptr hσ) (Rvs.of_flatL (D.h1 z))) hRW (fun id hid => by show (if id = 0 then some b else none) = none; rw [if_neg (by omega)])
      refine Calls.mono this ?_
      rintro e w' ⟨v', q', h', ρ', rfl, hk', hrv, hrw, _⟩
      have := hrv.flat_eq hk'
      subst this
      exact ⟨_, rfl, .of_flat (B.h1 _), hw.below hrw.to_below⟩
  · obtain ⟨i, rest, x, z, _, _, _, ho⟩ := key hg
    simp at ho
    obtain ⟨_, _, rfl⟩ := ho
    simp

/-! A function that lays one block and hands back a pointer to it, and a number. -/
def layP {α γ : Type} (A : Cod α) (t : TypeId) (C : CC γ) (k : Int) (F : α → γ) : List AV → Nat → Option (Bool × AV × Blk)
  | [a], z => match A.dec a with
    | none => none
    | some x => some (true, .tup [.ptr z 0, .v (.int .i64 k)], ⟨true, t, C.enc (F x)⟩)
  | _, _ => none

def outP (t : TypeId) (q : AV × AH) : AV := match q.1 with
  | .tup [.ptr i 0, k] => match q.2.get i with
    | none => .any
    | some B => match B.wr && Nat.beq B.ty t with
      | true => .tup [.agg B.cs, k]
      | false => .any
  | _ => .any

theorem outP_eq {t : TypeId} {q : AV × AH} {k : AV} {cs : List AV} (h : outP t q = .tup [.agg cs, k]) : ∃ i, q.1 = .tup [.ptr i 0, k] ∧ q.2.get i = some ⟨true, t, cs⟩ := by
  unfold outP at h
  split at h
  · rename_i i k' hq
    split at h
    · cases h
    · rename_i B hB
      split at h
      · rename_i hc
        simp only [Bool.and_eq_true] at hc
        simp at h
        obtain ⟨h2, rfl⟩ := h
        refine ⟨i, hq, ?_⟩
        rw [hB]
        obtain ⟨wr, ty, cs'⟩ := B
        simp at hc h2
        obtain ⟨e1, e2⟩ := hc
        subst e1; subst e2; subst h2
        rfl
      · cases h
  · cases h

def afunQ (P : Program) (E : Env) (sym : List Tmp) (tab : BTab) (lf f : Nat) (t : TypeId) (args : List AV) : Tree AV := (afun P E sym tab lf f args [] 0).bind fun q => .leaf (outP t q)

theorem layP_ok {P : Program} {α γ : Type} {t : TypeId} {A : Cod α} {C : CC γ} {k : Int} {F : α → γ} {f : Nat} {E : Env} {sym : List Tmp} {lf : Nat} {tab : α → BTab} (X : ∀ x, Ctx P E sym (tab x) lf f)
    (hr : ∀ x, (afunQ P E sym (tab x) lf f t [A.enc x]).holds (fun a => a = .tup [.agg (C.enc (F x)), .v (.int .i64 k)])) : LayOk P f (layP A t C k F) := by
  have key : ∀ {as : List AV} {z : Nat} {o : Bool × AV × Blk}, layP A t C k F as z = some o → ∃ a x, as = [a] ∧ A.dec a = some x ∧ o = (true, .tup [.ptr z 0, .v (.int .i64 k)], ⟨true, t, C.enc (F x)⟩) := by
    intro as z o hg
    unfold layP at hg
    split at hg
    · rename_i a
      split at hg
      · cases hg
      · rename_i x hx
        simp at hg
        exact ⟨a, x, rfl, hx, hg.symm⟩
    · cases hg
  constructor
  · intro F' ρ as xs h z r Bz w hg hx hw hz
    obtain ⟨a, x, rfl, hd, ho⟩ := key hg
    simp at ho
    obtain ⟨rfl, rfl⟩ := ho
    obtain ⟨fn, c, hf, hb, hok, htab⟩ := (X x).body
    obtain ⟨v, ys, rfl, hv, hx'⟩ := hx.uncons
    rw [hx'.unnil]
    have e0 := A.h2 ρ _ _ _ hd hv
    subst e0
    have hq := Tree.holds_bind (g := fun q => .leaf (outP t q)) (hr x)
    have := afun_calls (X x).env (X x).mixed hf hb hok htab (K := fun q h' => ∃ i, q = .tup [.ptr i 0, .v (.int .i64 k)] ∧ h'.get i = some ⟨true, t, C.enc (F x)⟩)
      (Tree.holds_mono (fun q hq => outP_eq hq) hq) (F := frameOf w) (ρ := Ren.empty) (xs := [A.val x]) (w := w) (.cons (.of_flat (A.h1 x)) .nil) (RW.init w _) (fun _ _ => rfl)
    refine Calls.mono this ?_
    rintro e w' ⟨u, q, h', ρ', rfl, ⟨i, rfl, hget⟩, hrv, hrw, _⟩
    obtain ⟨b, o, p1, p2, ⟨cx, fr, rfl, p3, p4, p5⟩, p6, p7⟩ := hrw.blk i _ hget
    rw [p3 rfl] at p2
    have hnew : w.heap[b]? = none := p6 rfl
    have hrel := rvs_prefix (ρ := ρ') (cs := C.enc (F x)) (xs := cx.toList) (by simpa using p4) (fun i a x ha hx => p5 i a x ha (by simpa using hx))
    have hval := hrel.flats_eq (C.h1 (F x))
    have hF : F'.blocks b = none := by
      cases hb : F'.blocks b with
      | none => rfl
      | some o => have := hw.fr b o hb; rw [hnew] at this; cases this
    obtain ⟨us, rfl, hus⟩ := hrv.tup_iff
    obtain ⟨v0, y0, e0, h0, r0⟩ := hus.uncons
    obtain ⟨v1, y1, e1, h1, r1⟩ := r0.uncons
    have e2 := r1.unnil
    subst e2; subst e1
    cases h0 with
    | ptr hsb =>
      rw [p1] at hsb; simp at hsb; subst hsb
      have hv1 : v1 = .int .i64 k := h1.scal_eq (y := .int .i64 k) rfl
      have eus : us = #[.pointer (some ⟨b, 0, none⟩), v1] := by apply Array.ext'; simpa using e0
      rw [eus]
      refine ⟨_, ρ.upd z b cx.size, rfl, Ren.le_upd hz, fun j hj => Ren.upd_ne ρ hj, ?_, ?_⟩
      · exact .tup_mk (.cons (.ptr (Ren.upd_same _ _ _ _)) (.cons (by rw [hv1]; exact .v _) .nil))
      refine (hw.below hrw.to_below).adopt hz hF (fun j B hj e => ?_) t (C.enc (F x)) p2 p4 (fun σ j a v ha hv => ?_)
      · obtain ⟨b', o', q1, q2, _⟩ := hw.blk j B hj
        rw [q1] at e; simp at e; subst e
        rw [hnew] at q2; cases q2
      · have h8 := Rvs.of_flats (ρ := σ) (C.h1 (F x))
        refine h8.2 j a v ha ?_
        rw [← hval, List.getElem?_take, if_pos (List.getElem?_eq_some_iff.1 ha).1]
        simpa using hv

/-- One value alone. -/
def kIs {α : Type} (A : Cod α) (y : α) (eqb : α → α → Bool) (h : ∀ x, eqb x y = true → x = y) : Cod Unit where
  enc _ := A.enc y
  dec a := match A.dec a with
    | some x => bif eqb x y then some () else none
    | none => none
  val _ := A.val y
  h1 _ := A.h1 y
  h2 ρ a v x hd r := by
    split at hd
    · rename_i z hz
      cases hb : eqb z y with
      | false => rw [hb] at hd; cases hd
      | true =>
        rw [A.h2 ρ _ _ _ hz r, h z hb]
    · cases hd

/-! The state at a block's head, behind other loops. -/
def hasB (t : Nat) : Code → Bool
  | .seq a b => hasB t a || hasB t b
  | .cond _ a b => hasB t a || hasB t b
  | .block id c => Nat.beq id t || hasB t c
  | .loop c => hasB t c
  | _ => false

def reachB (P : Program) (E : Env) (sym : List Tmp) (tab : BTab) (lf : Nat) (target : Nat) : Code → XS → Tree (Bool × AExit × XS)
  | .seq a b, x => (reachB P E sym tab lf target a x).bind fun r => match r with
    | (true, e, y) => .leaf (true, e, y)
    | (false, .normal, y) => reachB P E sym tab lf target b y
    | (false, e, y) => .leaf (false, e, y)
  | .cond c a b, x => match boolOf (look x.s.tm c) with
    | some true => reachB P E sym tab lf target a x
    | some false => reachB P E sym tab lf target b x
    | none => .fail
  | .block id c, x => bif Nat.beq id target then .leaf (true, .normal, x) else bif hasB target c then
      (reachB P E sym tab lf target c x).bind fun r => match r with
        | (false, .exit i, y) => bif Nat.beq i id then .leaf (false, .normal, y) else .leaf (false, .exit i, y)
        | r => .leaf r
    else (exec P E sym tab lf (.block id c) x).bind fun (e, y) => .leaf (false, e, y)
  | .loop c, x => reachB P E sym tab lf target c x
  | c, x => (exec P E sym tab lf c x).bind fun (e, y) => .leaf (false, e, y)

def entryB (P : Program) (E : Env) (sym : List Tmp) (tab : BTab) (lf : Nat) (f : Nat) (args : List AV) (h : AH) (n : Nat) (target : Nat) (k : Keep) : XS :=
  match firstT (reachB P E sym tab lf target (bodyOf P f) ⟨⟨args ++ undefs (ntmpsOf P f - args.length), h, true⟩, n⟩) with
  | some x => match trim k.tm k.ids k.n x with
    | some y => y
    | none => default
  | none => default
end Go.Rq

/- Points of a prime order. -/
namespace Go.Rq

section
variable {K : Type} [Rg K] {iv : K → K} {e : K → K → Bool}

theorem nsm_mod (F : Fd K iv e) {b : K} (C : Cv F b) {A : Ap K} (hA : Pt b A) {r : Nat} (hr : nsm iv e A r = ⟨0, 0, true⟩) (n : Nat) : nsm iv e A n = nsm iv e A (n % r) := by
  have h := Nat.div_add_mod n r
  have h1 : nsm iv e A (r * (n / r) + n % r) = nsm iv e A (n % r) := by
    rw [nsm_add F C hA, nsm_mul F C hA, hr, nsm_zero]
    rfl
  rw [h] at h1
  exact h1

theorem nsm_gcd (F : Fd K iv e) {b : K} (C : Cv F b) {A : Ap K} (hA : Pt b A) (x y : Nat) : nsm iv e A x = ⟨0, 0, true⟩ → nsm iv e A y = ⟨0, 0, true⟩ → nsm iv e A (Nat.gcd x y) = ⟨0, 0, true⟩ := by
  induction x, y using Nat.gcd.induction with
  | H0 y => intro _ hy; rw [Nat.gcd_zero_left]; exact hy
  | H1 x y hx ih =>
    intro h1 h2
    rw [Nat.gcd_rec]
    exact ih (by rw [← nsm_mod F C hA h1]; exact h2) h1

theorem nsm_one (A : Ap K) : nsm iv e A 1 = A := by
  show sumA iv e ⟨0, 0, true⟩ A = A
  exact sum_zero_l

/-- A multiple is none just if the order divides the number. -/
theorem nsm_none (F : Fd K iv e) {b : K} (C : Cv F b) {A : Ap K} (hA : Pt b A) {r : Nat} (hp : Pr r) (hr : nsm iv e A r = ⟨0, 0, true⟩) (h0 : A.zero = false) (n : Nat) : (nsm iv e A n).zero = decide (n % r = 0) := by
  by_cases h : n % r = 0
  · rw [nsm_mod F C hA hr, h, decide_eq_true rfl]
    rfl
  · rw [decide_eq_false h]
    cases hz : (nsm iv e A n).zero with
    | false => rfl
    | true =>
      exfalso
      have h1 := (nsm_pt F hA n).z hz
      have h2 := nsm_gcd F C hA r n hr h1
      have hc : Nat.Coprime r n := hp.coprime (fun hd => h (Nat.mod_eq_zero_of_dvd hd))
      rw [hc, nsm_one] at h2
      rw [h2] at h0
      cases h0
end
end Go.Rq
