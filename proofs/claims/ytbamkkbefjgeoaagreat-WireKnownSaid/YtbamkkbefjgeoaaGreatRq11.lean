/- Functions that read one block by a pointer; functions that lay one block and hand back a pointer to it. -/
import Derived.Test.YtbamkkbefjgeoaaGreatRq10
namespace Go.Rq
open Go

/-- Several exact arguments. -/
structure MC (δ : Type) where
  enc : δ → List AV
  dec : List AV → Option δ
  val : δ → List Value
  h1 : ∀ x, flatL (enc x) = some (val x)
  h2 : ∀ (ρ : Ren) (as : List AV) (vs : List Value) (x : δ), dec as = some x → Rvs ρ as vs → vs = val x

def mc0 : MC Unit where
  enc _ := []
  dec as := match as with
    | [] => some ()
    | _ => none
  val _ := []
  h1 _ := rfl
  h2 ρ as vs x h r := by
    split at h
    · exact r.unnil
    · cases h

def mc1 {α : Type} (A : Cod α) : MC α where
  enc x := [A.enc x]
  dec as := match as with
    | [a] => A.dec a
    | _ => none
  val x := [A.val x]
  h1 x := by simp [flatL, A.h1]
  h2 ρ as vs x h r := by
    split at h
    · obtain ⟨v, ys, rfl, h1, h2⟩ := r.uncons
      rw [h2.unnil, A.h2 ρ _ _ _ h h1]
    · cases h

def mc2 {α β : Type} (A : Cod α) (B : Cod β) : MC (α × β) where
  enc x := [A.enc x.1, B.enc x.2]
  dec as := match as with
    | [a, b] => match A.dec a, B.dec b with
      | some x, some y => some (x, y)
      | _, _ => none
    | _ => none
  val x := [A.val x.1, B.val x.2]
  h1 x := by simp [flatL, A.h1, B.h1]
  h2 ρ as vs x h r := by
    split at h
    · split at h
      · rename_i p q hp hq
        simp at h; subst h
        obtain ⟨v, ys, rfl, h1, h2⟩ := r.uncons
        obtain ⟨u, zs, rfl, h3, h4⟩ := h2.uncons
        rw [h4.unnil, A.h2 ρ _ _ _ hp h1, B.h2 ρ _ _ _ hq h3]
      · cases h
    · cases h

/-- The first argument's block is read; the others are exact. -/
def rdp {β γ δ : Type} (t : TypeId) (C : CC γ) (D : MC δ) (B : Cod β) (F : γ → δ → β) : List AV → AH → Option (Bool × AV × AH)
  | .ptr i 0 :: rest, h => match blkDec C t h i, D.dec rest with
    | some x, some z => some (true, B.enc (F x z), [])
    | _, _ => none
  | _, _ => none

theorem rdp_ok {β γ δ : Type} {P : Program} {E : Env} {sym : List Tmp} {lf f : Nat} {c : Code} {fn : Func} (hE : EnvOk P E) (hm : P.follows .mixedOrders = true) (hf : P.funcs.toList[f]? = some fn) (hb : fn.body = some c)
    (hok : codeOk E c = true) {D : MC δ} {C : CC γ} {B : Cod β} {F : γ → δ → β} {t : TypeId}
    (hr : ∀ x z, GivesH (afun P E sym (fun _ => none) lf f (.ptr 0 0 :: D.enc z) (oneAH C t x) 1) (B.val (F x z))) : HeapOk P f (rdp t C D B F) := by
  have key : ∀ {as : List AV} {h : AH} {o : Bool × AV × AH}, rdp t C D B F as h = some o → ∃ i rest x z, as = .ptr i 0 :: rest ∧ D.dec rest = some z ∧ blkDec C t h i = some x ∧ o = (true, B.enc (F x z), []) := by
    intro as h o hg
    unfold rdp at hg
    split at hg
    · rename_i i rest
      split at hg
      · rename_i x z hx hz
        simp at hg
        exact ⟨i, rest, x, z, rfl, hz, hx, hg.symm⟩
      · cases hg
    · cases hg
  have again : ∀ {as : List AV} {h h' : AH} {o : Bool × AV × AH}, rdp t C D B F as h = some o → (∀ i, i ∈ idsOf as → ∀ B, h.get i = some B → h'.get i = some B) → rdp t C D B F as h' = some o := by
    intro as h h' o hg hh
    obtain ⟨i, rest, x, z, rfl, hz, hx, rfl⟩ := key hg
    have hi : i ∈ idsOf (.ptr i 0 :: rest) := by simp [idsOf]
    unfold rdp
    simp only [hz, blkDec_congr (hh i hi) hx]
  refine ⟨?_, fun as h h' x hle hg => again hg (fun i _ B hB => hle i B hB), fun ρ as xs z b h x hx hz hg => again hg (fun i hi B hB => by
      rw [AH.get_cons, if_neg (fun e => hx.ids_ne hz i hi e.symm)] at hB; exact hB), fun as h c' r ups hg => ?_, fun as h h' x hh hg => again hg hh⟩
  · intro F' ρ as xs h r ups w hg hx hw
    obtain ⟨i, rest, x, z, rfl, hz, h1, ho⟩ := key hg
    simp at ho
    obtain ⟨rfl, rfl⟩ := ho
    obtain ⟨u, xs', rfl, hu, hx'⟩ := hx.uncons
    have hpv := D.h2 ρ _ _ _ hz hx'
    subst hpv
    obtain ⟨b, cx, fr, p1, p2, p3, p4, p5⟩ := blk_again hw h1
    let σ : Ren := ⟨fun id => if id = 0 then some b else none, fun _ => cx.size, fun _ => ρ.base i⟩
    have hσ : σ 0 = some b := rfl
    have hRW : RW (frameOf w) σ (oneAH C t x) w := by
      refine ⟨fun id B hB => ?_, fun id id' B B' d hB hB' hwr => ?_, fun _ _ h => h, rfl, rfl, rfl, hw.gw⟩
      · unfold oneAH at hB
        rw [AH.get_cons] at hB
        split at hB
        · rename_i e; subst e; simp at hB; subst hB
          exact ⟨b, _, hσ, p2, .inl ⟨cx, fr, rfl, (fun h => by cases h), p4, fun k a v ha hv => p5 σ k a v ha hv⟩, (fun h => by cases h), rfl⟩
        · simp [AH.get] at hB
      · unfold oneAH at hB
        rw [AH.get_cons] at hB
        split at hB
        · simp at hB; subst hB; cases hwr
        · simp [AH.get] at hB
    cases hu with
    | ptr hsb =>
      rw [p1] at hsb; simp at hsb; subst hsb
      have := afun_calls hE hm hf hb hok (tabOk_none c) (K := fun q _ => flat q = some (B.val (F x z))) (hr x z).out (F := frameOf w) (.cons (show Rv σ (.ptr 0 0) (.pointer (some ⟨b, ρ.base i + 0, none⟩)) from Rv.ptr (ρ := σ) hσ) (Rvs.of_flatL (D.h1 z))) hRW (fun id hid => by show (if id = 0 then some b else none) = none; rw [if_neg (by omega)])
      refine Calls.mono this ?_
      rintro e w' ⟨v', q', h', ρ', rfl, hk', hrv, hrw, _⟩
      have := hrv.flat_eq hk'
      subst this
      exact ⟨_, rfl, .of_flat (B.h1 _), hw.below hrw.to_below⟩
  · obtain ⟨i, rest, x, z, _, _, _, ho⟩ := key hg
    simp at ho
    obtain ⟨_, _, rfl⟩ := ho
    simp

/-! A function that lays one block and hands back a pointer to it, and a number. -/
def layP {α γ : Type} (A : Cod α) (t : TypeId) (C : CC γ) (k : Int) (F : α → γ) : List AV → Nat → Option (Bool × AV × Blk)
  | [a], z => match A.dec a with
    | none => none
    | some x => some (true, .tup [.ptr z 0, .v (.int .i64 k)], ⟨true, t, C.enc (F x)⟩)
  | _, _ => none

def outP (t : TypeId) (q : AV × AH) : AV := match q.1 with
  | .tup [.ptr i 0, k] => match q.2.get i with
    | none => .any
    | some B => match B.wr && Nat.beq B.ty t with
      | true => .tup [.agg B.cs, k]
      | false => .any
  | _ => .any

theorem outP_eq {t : TypeId} {q : AV × AH} {k : AV} {cs : List AV} (h : outP t q = .tup [.agg cs, k]) : ∃ i, q.1 = .tup [.ptr i 0, k] ∧ q.2.get i = some ⟨true, t, cs⟩ := by
  unfold outP at h
  split at h
  · rename_i i k' hq
    split at h
    · cases h
    · rename_i B hB
      split at h
      · rename_i hc
        simp only [Bool.and_eq_true] at hc
        simp at h
        obtain ⟨h2, rfl⟩ := h
        refine ⟨i, hq, ?_⟩
        rw [hB]
        obtain ⟨wr, ty, cs'⟩ := B
        simp at hc h2
        obtain ⟨e1, e2⟩ := hc
        subst e1; subst e2; subst h2
        rfl
      · cases h
  · cases h

def afunQ (P : Program) (E : Env) (sym : List Tmp) (tab : BTab) (lf f : Nat) (t : TypeId) (args : List AV) : Tree AV := (afun P E sym tab lf f args [] 0).bind fun q => .leaf (outP t q)

theorem layP_ok {P : Program} {α γ : Type} {t : TypeId} {A : Cod α} {C : CC γ} {k : Int} {F : α → γ} {f : Nat} {E : Env} {sym : List Tmp} {lf : Nat} {tab : α → BTab} (X : ∀ x, Ctx P E sym (tab x) lf f)
    (hr : ∀ x, (afunQ P E sym (tab x) lf f t [A.enc x]).holds (fun a => a = .tup [.agg (C.enc (F x)), .v (.int .i64 k)])) : LayOk P f (layP A t C k F) := by
  have key : ∀ {as : List AV} {z : Nat} {o : Bool × AV × Blk}, layP A t C k F as z = some o → ∃ a x, as = [a] ∧ A.dec a = some x ∧ o = (true, .tup [.ptr z 0, .v (.int .i64 k)], ⟨true, t, C.enc (F x)⟩) := by
    intro as z o hg
    unfold layP at hg
    split at hg
    · rename_i a
      split at hg
      · cases hg
      · rename_i x hx
        simp at hg
        exact ⟨a, x, rfl, hx, hg.symm⟩
    · cases hg
  constructor
  · intro F' ρ as xs h z r Bz w hg hx hw hz
    obtain ⟨a, x, rfl, hd, ho⟩ := key hg
    simp at ho
    obtain ⟨rfl, rfl⟩ := ho
    obtain ⟨fn, c, hf, hb, hok, htab⟩ := (X x).body
    obtain ⟨v, ys, rfl, hv, hx'⟩ := hx.uncons
    rw [hx'.unnil]
    have e0 := A.h2 ρ _ _ _ hd hv
    subst e0
    have hq := Tree.holds_bind (g := fun q => .leaf (outP t q)) (hr x)
    have := afun_calls (X x).env (X x).mixed hf hb hok htab (K := fun q h' => ∃ i, q = .tup [.ptr i 0, .v (.int .i64 k)] ∧ h'.get i = some ⟨true, t, C.enc (F x)⟩)
      (Tree.holds_mono (fun q hq => outP_eq hq) hq) (F := frameOf w) (ρ := Ren.empty) (xs := [A.val x]) (w := w) (.cons (.of_flat (A.h1 x)) .nil) (RW.init w _ hw.gw) (fun _ _ => rfl)
    refine Calls.mono this ?_
    rintro e w' ⟨u, q, h', ρ', rfl, ⟨i, rfl, hget⟩, hrv, hrw, _⟩
    obtain ⟨b, o, p1, p2, ⟨cx, fr, rfl, p3, p4, p5⟩, p6, p7⟩ := hrw.blkF hget (C.h1 _)
    have pz := (p3 rfl).2
    rw [(p3 rfl).1] at p2
    rw [pz] at p4 p5
    simp only [Nat.zero_add] at p4 p5
    have hnew : w.heap[b]? = none := p6 rfl
    have hrel := rvs_prefix (ρ := ρ') (cs := C.enc (F x)) (xs := cx.toList) (by simpa using p4) (fun i a x ha hx => p5 i a x ha (by simpa using hx))
    have hval := hrel.flats_eq (C.h1 (F x))
    have hF : F'.blocks b = none := by
      cases hb : F'.blocks b with
      | none => rfl
      | some o => have := hw.fr b o hb; rw [hnew] at this; cases this
    obtain ⟨us, rfl, hus⟩ := hrv.tup_iff
    obtain ⟨v0, y0, e0, h0, r0⟩ := hus.uncons
    obtain ⟨v1, y1, e1, h1, r1⟩ := r0.uncons
    have e2 := r1.unnil
    subst e2; subst e1
    cases h0 with
    | ptr hsb =>
      rw [p1] at hsb; simp at hsb; subst hsb
      rw [pz] at e0
      have hv1 : v1 = .int .i64 k := h1.scal_eq (y := .int .i64 k) rfl
      have eus : us = #[.pointer (some ⟨b, 0, none⟩), v1] := by apply Array.ext'; simpa using e0
      rw [eus]
      refine ⟨_, ρ.upd z b cx.size, rfl, Ren.le_upd hz, fun j hj => Ren.upd_ne ρ hj, ?_, ?_⟩
      · exact .tup_mk (.cons .ptrU (.cons (by rw [hv1]; exact .v _) .nil))
      refine (hw.below hrw.to_below).adopt hz hF (fun j B hj e => ?_) t (C.enc (F x)) p2 p4 (fun σ j a v ha hv => ?_)
      · obtain ⟨b', o', q1, q2, _⟩ := hw.blk j B hj
        rw [q1] at e; simp at e; subst e
        rw [hnew] at q2; cases q2
      · have h8 := Rvs.of_flats (ρ := σ) (C.h1 (F x))
        refine h8.2 j a v ha ?_
        rw [← hval, List.getElem?_take, if_pos (List.getElem?_eq_some_iff.1 ha).1]
        simpa using hv

/-- One value alone. -/
def kIs {α : Type} (A : Cod α) (y : α) (eqb : α → α → Bool) (h : ∀ x, eqb x y = true → x = y) : Cod Unit where
  enc _ := A.enc y
  dec a := match A.dec a with
    | some x => bif eqb x y then some () else none
    | none => none
  val _ := A.val y
  h1 _ := A.h1 y
  h2 ρ a v x hd r := by
    split at hd
    · rename_i z hz
      cases hb : eqb z y with
      | false => rw [hb] at hd; cases hd
      | true =>
        rw [A.h2 ρ _ _ _ hz r, h z hb]
    · cases hd

/-! The state at a block's head, behind other loops. -/
def hasB (t : Nat) : Code → Bool
  | .seq a b => hasB t a || hasB t b
  | .cond _ a b => hasB t a || hasB t b
  | .block id c => Nat.beq id t || hasB t c
  | .loop c => hasB t c
  | _ => false

def reachB (P : Program) (E : Env) (sym : List Tmp) (tab : BTab) (lf : Nat) (target : Nat) : Code → XS → Tree (Bool × AExit × XS)
  | .seq a b, x => (reachB P E sym tab lf target a x).bind fun r => match r with
    | (true, e, y) => .leaf (true, e, y)
    | (false, .normal, y) => reachB P E sym tab lf target b y
    | (false, e, y) => .leaf (false, e, y)
  | .cond c a b, x => match boolOf (look x.s.tm c) with
    | some true => reachB P E sym tab lf target a x
    | some false => reachB P E sym tab lf target b x
    | none => .fail
  | .block id c, x => bif Nat.beq id target then .leaf (true, .normal, x) else bif hasB target c then
      (reachB P E sym tab lf target c x).bind fun r => match r with
        | (false, .exit i, y) => bif Nat.beq i id then .leaf (false, .normal, y) else .leaf (false, .exit i, y)
        | r => .leaf r
    else (exec P E sym tab lf (.block id c) x).bind fun (e, y) => .leaf (false, e, y)
  | .loop c, x => reachB P E sym tab lf target c x
  | c, x => (exec P E sym tab lf c x).bind fun (e, y) => .leaf (false, e, y)

def entryB (P : Program) (E : Env) (sym : List Tmp) (tab : BTab) (lf : Nat) (f : Nat) (args : List AV) (h : AH) (n : Nat) (target : Nat) (k : Keep) : XS :=
  match firstT (reachB P E sym tab lf target (bodyOf P f) ⟨⟨args ++ undefs (ntmpsOf P f - args.length), h, true⟩, n⟩) with
  | some x => match trim k.tm k.ids k.n x with
    | some y => y
    | none => default
  | none => default
end Go.Rq

/- Slices as arguments: of several lengths, none among them. -/
namespace Go.Rq
open Go

/-- A slice as it is handed. -/
inductive SA where
  | nil
  | slc (n : Nat)
  | own (es n : Nat)

def SA.len : SA → Nat
  | .nil => 0
  | .slc n => n
  | .own _ n => n

def SA.at (s : SA) (id cap : Nat) : AV := match s with
  | .nil => .v (.slice none 0 0)
  | .slc n => .slc id 0 n cap
  | .own es n => .own id es 0 n

/-- What a slice is, and the cells of its block. -/
def readS (a : AV) (h : AH) : Option (SA × List AV) := match a with
  | .v (.slice none 0 0) => some (.nil, [])
  | .slc i 0 n _ => match h.getC i with
    | some B => some (.slc n, B.cs)
    | none => none
  | .own i es 0 n => match h.getC i with
    | some B => some (.own es n, B.cs)
    | none => none
  | _ => none

theorem readS_spec {a : AV} {h : AH} {s : SA} {cs : List AV} (e : readS a h = some (s, cs)) :
    (s = .nil ∧ cs = [] ∧ a = .v (.slice none 0 0)) ∨ ∃ i cap B, s ≠ .nil ∧ a = s.at i cap ∧ h.getC i = some B ∧ cs = B.cs := by
  unfold readS at e
  split at e
  · simp at e; obtain ⟨rfl, rfl⟩ := e; exact .inl ⟨rfl, rfl, rfl⟩
  · split at e
    · rename_i i n cap _ B hB
      simp at e; obtain ⟨rfl, rfl⟩ := e
      exact .inr ⟨i, cap, B, (fun h => by cases h), rfl, hB, rfl⟩
    · cases e
  · split at e
    · rename_i i es n _ B hB
      simp at e; obtain ⟨rfl, rfl⟩ := e
      exact .inr ⟨i, 0, B, (fun h => by cases h), rfl, hB, rfl⟩
    · cases e
  · cases e

/-! Lists of data, one after the other. -/
def encL {α : Type} (C : CC α) : List α → List AV
  | [] => []
  | x :: t => C.enc x ++ encL C t

def decL {α : Type} (C : CC α) : Nat → List AV → Option (List α)
  | 0, _ => some []
  | n + 1, cs => match C.dec (cs.take C.n), decL C n (cs.drop C.n) with
    | some x, some l => some (x :: l)
    | _, _ => none

theorem decL_len {α : Type} {C : CC α} : ∀ {n : Nat} {cs : List AV} {l : List α}, decL C n cs = some l → l.length = n
  | 0, cs, l, h => by simp [decL] at h; subst h; rfl
  | n + 1, cs, l, h => by
    simp only [decL] at h
    split at h
    · rename_i x m hx hm
      simp at h; subst h
      simp [decL_len hm]
    · cases h

theorem decL_enc {α : Type} {C : CC α} (hd : ∀ x, C.dec (C.enc x) = some x) : ∀ (l : List α) (r : List AV), decL C l.length (encL C l ++ r) = some l
  | [], r => rfl
  | x :: t, r => by
    have e : encL C (x :: t) ++ r = C.enc x ++ (encL C t ++ r) := by simp [encL]
    rw [e]
    simp only [List.length_cons, decL]
    rw [List.take_left' (C.len x), List.drop_left' (C.len x), hd x, decL_enc hd t r]

theorem encL_len {α : Type} {C : CC α} : ∀ (l : List α), (encL C l).length = C.n * l.length
  | [] => by simp [encL]
  | x :: t => by simp [encL, encL_len t, C.len, Nat.mul_add, Nat.add_comm]

theorem CC.val_len {α : Type} (C : CC α) (x : α) : (C.val x).length = C.n := by
  have := (Rvs.of_flats (ρ := Ren.empty) (C.h1 x)).1
  rw [← this, C.len]

theorem decL_rv {α : Type} {C : CC α} {ρ : Ren} : ∀ {n : Nat} {cs : List AV} {vs : List Value} {l : List α}, decL C n cs = some l → Rvs ρ cs vs →
    (encL C l).length ≤ vs.length ∧ ∀ σ, Rvs σ (encL C l) (vs.take (encL C l).length)
  | 0, cs, vs, l, h, r => by
    simp [decL] at h; subst h
    exact ⟨by simp [encL], fun σ => by simpa [encL] using (Rvs.nil (ρ := σ))⟩
  | n + 1, cs, vs, l, h, r => by
    simp only [decL] at h
    split at h
    · rename_i x m hx hm
      simp at h; subst h
      obtain ⟨h1, h2⟩ := decL_rv hm (r.drop C.n)
      have h3 := C.h2 ρ _ _ _ hx (r.take C.n)
      have h4 : C.n ≤ vs.length := by
        have := congrArg List.length h3
        rw [C.val_len] at this
        simp at this
        omega
      refine ⟨?_, fun σ => ?_⟩
      · simp only [encL, List.length_append, C.len]
        simp at h1
        omega
      · have e : vs.take (encL C (x :: m)).length = vs.take C.n ++ (vs.drop C.n).take (encL C m).length := by
          simp only [encL, List.length_append, C.len, List.take_add]
        rw [e, h3]
        exact (Rvs.of_flats (C.h1 x)).append (h2 σ)
    · cases h

/-! Slices that are handed. -/
structure Hd where
  s : SA
  cap : Nat
  t : TypeId
  cs : List AV
  fb : Option Nat
  n : Nat
  base : Nat

/-- What a handed slice is in a world. -/
structure HandS (w : World) (x : Hd) (v : Value) : Prop where
  rv : ∀ (σ : Ren) (id : Nat), σ id = x.fb → σ.cells id = x.n → σ.base id = x.base → Rv σ (x.s.at id x.cap) v
  blk : x.s ≠ .nil → ∃ b xs fr, x.fb = some b ∧ w.heap[b]? = some (.cells xs x.t fr) ∧ xs.size = x.n ∧ x.base + x.cs.length ≤ xs.size ∧
    ∀ (σ : Ren) (j : Nat) (a : AV) (u : Value), x.cs[j]? = some a → xs[x.base + j]? = some u → Rv σ a u

def hpS (id : Nat) (s : SA) (t : TypeId) (cs : List AV) : AH := match s with
  | .nil => []
  | _ => [(id, some ⟨false, t, cs⟩)]

def hHeap : Nat → List Hd → AH
  | _, [] => []
  | i, x :: t => hpS i x.s x.t x.cs ++ hHeap (i + 1) t

theorem hHeap_get : ∀ (l : List Hd) (i id : Nat) (B : Blk), (hHeap i l).get id = some B → ∃ j x, id = i + j ∧ l[j]? = some x ∧ x.s ≠ .nil ∧ B = ⟨false, x.t, x.cs⟩
  | [], i, id, B, h => by simp [hHeap, AH.get] at h
  | x :: t, i, id, B, h => by
    have next : (hHeap (i + 1) t).get id = some B → ∃ j y, id = i + j ∧ (x :: t)[j]? = some y ∧ y.s ≠ .nil ∧ B = ⟨false, y.t, y.cs⟩ := fun h => by
      obtain ⟨j, y, h1, h2, h3, h4⟩ := hHeap_get t (i + 1) id B h
      exact ⟨j + 1, y, by omega, by simpa using h2, h3, h4⟩
    cases hs : x.s with
    | nil =>
      simp only [hHeap, hs, hpS, List.nil_append] at h
      exact next h
    | slc n =>
      simp only [hHeap, hs, hpS, List.cons_append, List.nil_append] at h
      rw [AH.get_cons] at h
      split at h
      · rename_i e
        simp at h
        exact ⟨0, x, by omega, rfl, (by rw [hs]; exact fun h => by cases h), h.symm⟩
      · exact next h
    | own es n =>
      simp only [hHeap, hs, hpS, List.cons_append, List.nil_append] at h
      rw [AH.get_cons] at h
      split at h
      · rename_i e
        simp at h
        exact ⟨0, x, by omega, rfl, (by rw [hs]; exact fun h => by cases h), h.symm⟩
      · exact next h

def hRen (l : List Hd) : Ren := ⟨fun id => match l[id]? with
    | some x => x.fb
    | none => none, fun id => match l[id]? with
    | some x => x.n
    | none => 0, fun id => match l[id]? with
    | some x => x.base
    | none => 0⟩

theorem hRW {w : World} (hg : GW w) {l : List Hd} (h : ∀ x ∈ l, ∃ v, HandS w x v) : RW (frameOf w) (hRen l) (hHeap 0 l) w := by
  refine ⟨fun id B hB => ?_, fun id id' B B' d hB hB' hwr => ?_, fun _ _ h => h, rfl, rfl, rfl, hg⟩
  · obtain ⟨j, x, e, hx, hn, rfl⟩ := hHeap_get l 0 id B hB
    rw [Nat.zero_add] at e
    subst e
    obtain ⟨v, hv⟩ := h x (List.mem_of_getElem? hx)
    obtain ⟨b, xs, fr, h1, h2, h3, h4, h5⟩ := hv.blk hn
    have e1 : (hRen l) id = x.fb := by simp [hRen, hx]
    have e2 : (hRen l).cells id = x.n := by simp [hRen, hx]
    have e3 : (hRen l).base id = x.base := by simp [hRen, hx]
    exact ⟨b, _, e1.trans h1, h2, .inl ⟨xs, fr, rfl, (fun h => by cases h), by rw [e3]; exact h4, fun i a u ha hu => h5 _ i a u ha (by rw [← e3]; exact hu)⟩, (fun h => by cases h), h3.trans e2.symm⟩
  · obtain ⟨j, x, e, hx, hn, rfl⟩ := hHeap_get l 0 id B hB
    cases hwr

theorem hRen_at {w : World} {l : List Hd} {j : Nat} {x : Hd} {v : Value} (hx : l[j]? = some x) (h : HandS w x v) : Rv (hRen l) (x.s.at j x.cap) v :=
  h.rv _ _ (by simp [hRen, hx]) (by simp [hRen, hx]) (by simp [hRen, hx])

theorem hRen_none {l : List Hd} (id : Nat) (h : l.length ≤ id) : (hRen l) id = none := by
  simp [hRen, List.getElem?_eq_none h]

/-- A slice that is handed on. -/
theorem hand_of {α : Type} {F : Fr} {ρ : Ren} {h : AH} {w : World} (hw : RW F ρ h w) {A : CC α} {a : AV} {s : SA} {cs : List AV} (hr : readS a h = some (s, cs)) {l : List α} (hd : decL A s.len cs = some l) {v : Value} (hv : Rv ρ a v) :
    ∃ x : Hd, x.s = s ∧ x.cs = encL A l ∧ HandS w x v := by
  rcases readS_spec hr with ⟨rfl, rfl, rfl⟩ | ⟨i, cap, B, hn, rfl, hB, rfl⟩
  · have : l = [] := by simpa [SA.len, decL] using hd.symm
    subst this
    cases hv
    exact ⟨⟨.nil, 0, default, [], none, 0, 0⟩, rfl, rfl, ⟨fun σ id _ _ _ => .v _, fun h => absurd rfl h⟩⟩
  · obtain ⟨b, o, h1, h2, ⟨xs, fr, rfl, h3, h4, h5⟩, h6, h7⟩ := hw.blkC hB
    have hrel := rvs_prefix (ρ := ρ) (cs := B.cs) (xs := xs.toList.drop (ρ.base i)) (by simp; omega) (fun j a x ha hx => h5 j a x ha (by simpa using hx))
    obtain ⟨k1, k2⟩ := decL_rv hd hrel
    simp at k1
    refine ⟨⟨s, cap, B.ty, encL A l, some b, xs.size, ρ.base i⟩, rfl, rfl, ⟨fun σ id e1 e2 e3 => ?_, fun _ => ⟨b, xs, fr, rfl, h2, rfl, ?_, fun σ j a u ha hu => ?_⟩⟩⟩
    · simp only at e1 e2 e3
      show Rv σ (s.at id cap) v
      cases s with
      | nil => exact absurd rfl hn
      | slc n =>
        simp only [SA.at] at hv ⊢
        cases hv with
        | slc hb =>
          rw [h1] at hb; simp at hb; subst hb
          rw [← e3]
          exact .slc e1
      | own es n =>
        simp only [SA.at] at hv ⊢
        cases hv with
        | own hb h0 hc hl hm =>
          rw [h1] at hb; simp at hb; subst hb
          exact .own e1 (e3.trans h0) (by rw [e2]; simpa [count] using hc.trans h7.symm) hl hm
        | ownE _ hk => exact absurd hk (Nat.lt_irrefl 0)
    · show ρ.base i + (encL A l).length ≤ xs.size
      omega
    · have hlt := (List.getElem?_eq_some_iff.1 ha).1
      refine (k2 σ).2 j a u ha ?_
      rw [List.getElem?_take, if_pos hlt, List.getElem?_take, if_pos (by simp only at hlt; omega)]
      simpa using hu

/-! Contracts of functions that read two slices, one behind the other. -/
def splitA (k : Nat) (args : List AV) : Option (AV × AV × List AV) := match args.drop k with
  | a :: b :: t => some (a, b, args.take k ++ t)
  | _ => none

def joinA {α : Type} (k : Nat) (a b : α) (r : List α) : List α := r.take k ++ a :: b :: r.drop k

theorem splitA_join {k : Nat} {args : List AV} {a b : AV} {r : List AV} (h : splitA k args = some (a, b, r)) : args = joinA k a b r ∧ k ≤ r.length := by
  unfold splitA at h
  split at h
  · rename_i a' b' t ht
    simp at h
    obtain ⟨rfl, rfl, rfl⟩ := h
    have hk : k ≤ args.length := by
      have := congrArg List.length ht
      simp at this
      omega
    have hl : (args.take k).length = k := by simp [hk]
    refine ⟨?_, by simp [hl]⟩
    unfold joinA
    rw [List.take_left' hl, List.drop_left' hl, ← ht, List.take_append_drop]
  · cases h

theorem joinA_rvs {ρ : Ren} {k : Nat} {a b : AV} {r : List AV} {xs : List Value} (h : Rvs ρ (joinA k a b r) xs) (hk : k ≤ r.length) : ∃ u v ys, xs = joinA k u v ys ∧ Rv ρ a u ∧ Rv ρ b v ∧ Rvs ρ r ys := by
  have h1 := h.take k
  have h2 := h.drop k
  have hl : (r.take k).length = k := by simp [hk]
  unfold joinA at h1 h2
  rw [List.take_left' hl] at h1
  rw [List.drop_left' hl] at h2
  obtain ⟨u, t1, e1, hu, h3⟩ := h2.uncons
  obtain ⟨v, t2, e2, hv, h4⟩ := h3.uncons
  subst e2
  have hx : xs.take k ++ u :: v :: t2 = xs := by rw [← e1, List.take_append_drop]
  have hk' : k ≤ xs.length := by
    have := h1.1
    rw [hl] at this
    simp at this
    omega
  have hl' : (xs.take k).length = k := by simp [hk']
  refine ⟨u, v, xs.take k ++ t2, ?_, hu, hv, ?_⟩
  · unfold joinA
    rw [List.take_left' hl', List.drop_left' hl', hx]
  · have := h1.append h4
    rw [List.take_append_drop] at this
    exact this

theorem joinA_mk {ρ : Ren} {k : Nat} {a b : AV} {r : List AV} {u v : Value} {ys : List Value} (ha : Rv ρ a u) (hb : Rv ρ b v) (h : Rvs ρ r ys) : Rvs ρ (joinA k a b r) (joinA k u v ys) :=
  (h.take k).append (.cons ha (.cons hb (h.drop k)))

def decS {α : Type} (A : CC α) (x : SA × List AV) : Option (List α) := decL A x.1.len x.2

def okS {α γ : Type} (sh : SA → SA → Bool) (A : CC α) (C : CC γ) (x y : SA × List AV) : Bool := sh x.1 y.1 && ((decS A x).isSome && (decS C y).isSome)
def gS {α β γ δ : Type} (A : CC α) (C : CC γ) (G : δ → List α → List γ → β) (z : δ) (x y : SA × List AV) : β := G z ((decS A x).getD []) ((decS C y).getD [])

def slV {β δ : Type} (k : Nat) (D : MC δ) (B : Cod β) (ok : SA × List AV → SA × List AV → Bool) (G : δ → SA × List AV → SA × List AV → β) (args : List AV) (h : AH) : Option (Bool × AV × AH) :=
  match splitA k args with
  | none => none
  | some (a, b, r) => match D.dec r, readS a h, readS b h with
    | some z, some x, some y => some (ok x y, B.enc (G z x y), [])
    | _, _, _ => none

theorem ids_mem {a : AV} {i : Nat} (h : (∃ o n c, a = .slc i o n c) ∨ (∃ es k n, a = .own i es k n)) : ∀ {l : List AV}, a ∈ l → i ∈ idsOf l
  | b :: t, hm => by
    have key : i ∈ idsOf t → i ∈ idsOf (b :: t) := fun h => by
      simp only [idsOf]
      split <;> simp [h]
    rcases List.mem_cons.1 hm with rfl | hm
    · rcases h with ⟨o, n, c, rfl⟩ | ⟨es, k, n, rfl⟩ <;> simp [idsOf]
    · exact key (ids_mem h hm)

theorem readS_congr {h h' : AH} {args : List AV} {a : AV} (ha : a ∈ args) (hh : ∀ i, i ∈ idsOf args → ∀ B, h.get i = some B → h'.get i = some B) {x : SA × List AV} (e : readS a h = some x) : readS a h' = some x := by
  obtain ⟨s, cs⟩ := x
  rcases readS_spec e with ⟨rfl, rfl, rfl⟩ | ⟨i, cap, B, hn, rfl, hB, rfl⟩
  · rfl
  · cases s with
    | nil => exact absurd rfl hn
    | slc n => 
      have := getC_mono (hh i (ids_mem (.inl ⟨_, _, _, rfl⟩) ha)) hB
      simp [readS, SA.at, this]
    | own es n =>
      have := getC_mono (hh i (ids_mem (.inr ⟨_, _, _, rfl⟩) ha)) hB
      simp [readS, SA.at, this]

theorem mem_join {α : Type} {k : Nat} {a b : α} {r : List α} : a ∈ joinA k a b r ∧ b ∈ joinA k a b r := by
  unfold joinA
  exact ⟨by simp, by simp⟩

theorem slV_ok {α β γ δ : Type} {P : Program} {E : Env} {sym : List Tmp} {lf f : Nat} {c : Code} {fn : Func} (hE : EnvOk P E) (hm : P.follows .mixedOrders = true) (hf : P.funcs.toList[f]? = some fn) (hb : fn.body = some c)
    (hok : codeOk E c = true) {k : Nat} {D : MC δ} {A : CC α} {C : CC γ} {B : Cod β} {sh : SA → SA → Bool} {G : δ → List α → List γ → β}
    (hr : ∀ z s1 s2 c1 c2 t1 t2 (l : List α) (m : List γ), sh s1 s2 = true → l.length = s1.len → m.length = s2.len →
      GivesH (afun P E sym (fun _ => none) lf f (joinA k (s1.at 0 c1) (s2.at 1 c2) (D.enc z)) (hpS 0 s1 t1 (encL A l) ++ (hpS 1 s2 t2 (encL C m) ++ [])) 2) (B.val (G z l m))) :
    HeapOk P f (slV k D B (okS sh A C) (gS A C G)) := by
  have key : ∀ {args : List AV} {h : AH} {o : Bool × AV × AH}, slV k D B (okS sh A C) (gS A C G) args h = some o → ∃ a b r z x y, args = joinA k a b r ∧ k ≤ r.length ∧ D.dec r = some z ∧ readS a h = some x ∧ readS b h = some y ∧ splitA k args = some (a, b, r) ∧ o = (okS sh A C x y, B.enc (gS A C G z x y), []) := by
    intro args h o hg
    unfold slV at hg
    split at hg
    · cases hg
    · rename_i a b r hs
      split at hg
      · rename_i z x y hz hx hy
        simp at hg
        obtain ⟨h1, h2⟩ := splitA_join hs
        exact ⟨a, b, r, z, x, y, h1, h2, hz, hx, hy, hs, hg.symm⟩
      · cases hg
  have again : ∀ {args : List AV} {h h' : AH} {o : Bool × AV × AH}, slV k D B (okS sh A C) (gS A C G) args h = some o → (∀ i, i ∈ idsOf args → ∀ B, h.get i = some B → h'.get i = some B) → slV k D B (okS sh A C) (gS A C G) args h' = some o := by
    intro args h h' o hg hh
    obtain ⟨a, b, r, z, x, y, e, hk, hz, hx, hy, hs, rfl⟩ := key hg
    have ma : a ∈ args := by rw [e]; exact mem_join.1
    have mb : b ∈ args := by rw [e]; exact mem_join.2
    unfold slV
    simp only [hs, hz, readS_congr ma hh hx, readS_congr mb hh hy]
  refine ⟨?_, fun args h h' x hle hg => again hg (fun i _ B hB => hle i B hB), fun ρ args xs z b h x hx hz hg => again hg (fun i hi B hB => by
      rw [AH.get_cons, if_neg (fun e => hx.ids_ne hz i hi e.symm)] at hB; exact hB), fun args h c' r ups hg => ?_, fun args h h' x hh hg => again hg hh⟩
  · intro F' ρ args xs h q ups w hg hx hw
    obtain ⟨a, b, r, z, x, y, rfl, hk, hz, h1, h2, hs, ho⟩ := key hg
    simp only [Prod.mk.injEq] at ho
    obtain ⟨hsh, rfl, rfl⟩ := ho
    obtain ⟨u, v, ys, rfl, hu, hv, hys⟩ := joinA_rvs hx hk
    have hsh := hsh.symm
    unfold okS at hsh
    simp only [Bool.and_eq_true] at hsh
    obtain ⟨g1, g2, g3⟩ := hsh
    obtain ⟨l, hl⟩ := Option.isSome_iff_exists.1 g2
    obtain ⟨m, hm'⟩ := Option.isSome_iff_exists.1 g3
    obtain ⟨s1, cs1⟩ := x
    obtain ⟨s2, cs2⟩ := y
    obtain ⟨X, x1, x2, x3⟩ := hand_of hw h1 hl hu
    obtain ⟨Y, y1, y2, y3⟩ := hand_of hw h2 hm' hv
    have hW := hRW hw.gw (w := w) (l := [X, Y]) (fun x hx => by
      simp only [List.mem_cons, List.not_mem_nil, or_false] at hx
      rcases hx with rfl | rfl
      · exact ⟨_, x3⟩
      · exact ⟨_, y3⟩)
    have r1 : Rv (hRen [X, Y]) (s1.at 0 X.cap) u := by have := hRen_at (l := [X, Y]) (j := 0) rfl x3; rw [x1] at this; exact this
    have r2 : Rv (hRen [X, Y]) (s2.at 1 Y.cap) v := by have := hRen_at (l := [X, Y]) (j := 1) rfl y3; rw [y1] at this; exact this
    have hheap : hHeap 0 [X, Y] = hpS 0 s1 X.t (encL A l) ++ (hpS 1 s2 Y.t (encL C m) ++ []) := by
      rw [← x1, ← x2, ← y1, ← y2]; rfl
    rw [hheap] at hW
    have hval : gS A C G z (s1, cs1) (s2, cs2) = G z l m := by simp [gS, hl, hm']
    rw [hval]
    have hpv := D.h2 ρ _ _ _ hz hys
    subst hpv
    have := afun_calls hE hm hf hb hok (tabOk_none c) (K := fun q _ => flat q = some (B.val (G z l m))) (hr z s1 s2 X.cap Y.cap X.t Y.t l m g1 (decL_len hl) (decL_len hm')).out (F := frameOf w)
      (joinA_mk r1 r2 (Rvs.of_flatL (D.h1 z))) hW (fun id hid => hRen_none id (by simpa using hid))
    refine Calls.mono this ?_
    rintro e w' ⟨v', q', h', ρ', rfl, hk', hrv, hrw, _⟩
    have := hrv.flat_eq hk'
    subst this
    exact ⟨_, rfl, .of_flat (B.h1 _), hw.below hrw.to_below⟩
  · obtain ⟨a, b, r, z, x, y, _, _, _, _, _, _, ho⟩ := key hg
    simp only [Prod.mk.injEq] at ho
    obtain ⟨_, _, rfl⟩ := ho
    simp

/-- At most six: what is listed of them. -/
theorem six_of {α : Type} (d : α) (l : List α) (h : l.length ≤ 6) : l = [l.getD 0 d, l.getD 1 d, l.getD 2 d, l.getD 3 d, l.getD 4 d, l.getD 5 d].take l.length := by
  match l, h with
  | [], _ => rfl
  | [_], _ => rfl
  | [_, _], _ => rfl
  | [_, _, _], _ => rfl
  | [_, _, _, _], _ => rfl
  | [_, _, _, _, _], _ => rfl
  | [_, _, _, _, _, _], _ => rfl
  | _ :: _ :: _ :: _ :: _ :: _ :: _ :: _, h => simp at h
end Go.Rq
