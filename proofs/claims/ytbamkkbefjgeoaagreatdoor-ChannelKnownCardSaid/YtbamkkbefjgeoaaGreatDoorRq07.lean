/- Slices as arguments: of several lengths, none among them. -/
import Derived.Test.YtbamkkbefjgeoaaGreatDoorRq06
namespace Go.Rq
open Go

/-- A slice as it is handed. -/
inductive SA where
  | nil
  | slc (n : Nat)
  | own (es n : Nat)

def SA.len : SA → Nat
  | .nil => 0
  | .slc n => n
  | .own _ n => n

def SA.at (s : SA) (id cap : Nat) : AV := match s with
  | .nil => .v (.slice none 0 0)
  | .slc n => .slc id 0 n cap
  | .own es n => .own id es 0 n

/-- What a slice is, and the cells of its block. -/
def readS (a : AV) (h : AH) : Option (SA × List AV) := match a with
  | .v (.slice none 0 0) => some (.nil, [])
  | .slc i 0 n _ => match h.getC i with
    | some B => some (.slc n, B.cs)
    | none => none
  | .own i es 0 n => match h.getC i with
    | some B => some (.own es n, B.cs)
    | none => none
  | _ => none

theorem readS_spec {a : AV} {h : AH} {s : SA} {cs : List AV} (e : readS a h = some (s, cs)) :
    (s = .nil ∧ cs = [] ∧ a = .v (.slice none 0 0)) ∨ ∃ i cap B, s ≠ .nil ∧ a = s.at i cap ∧ h.getC i = some B ∧ cs = B.cs := by
  unfold readS at e
  split at e
  · simp at e; obtain ⟨rfl, rfl⟩ := e; exact .inl ⟨rfl, rfl, rfl⟩
  · split at e
    · rename_i i n cap _ B hB
      simp at e; obtain ⟨rfl, rfl⟩ := e
      exact .inr ⟨i, cap, B, (fun h => by cases h), rfl, hB, rfl⟩
    · cases e
  · split at e
    · rename_i i es n _ B hB
      simp at e; obtain ⟨rfl, rfl⟩ := e
      exact .inr ⟨i, 0, B, (fun h => by cases h), rfl, hB, rfl⟩
    · cases e
  · cases e

/-! Lists of data, one after the other. -/
def encL {α : Type} (C : CC α) : List α → List AV
  | [] => []
  | x :: t => C.enc x ++ encL C t

def decL {α : Type} (C : CC α) : Nat → List AV → Option (List α)
  | 0, _ => some []
  | n + 1, cs => match C.dec (cs.take C.n), decL C n (cs.drop C.n) with
    | some x, some l => some (x :: l)
    | _, _ => none

theorem decL_len {α : Type} {C : CC α} : ∀ {n : Nat} {cs : List AV} {l : List α}, decL C n cs = some l → l.length = n
  | 0, cs, l, h => by simp [decL] at h; subst h; rfl
  | n + 1, cs, l, h => by
    simp only [decL] at h
    split at h
    · rename_i x m hx hm
      simp at h; subst h
      simp [decL_len hm]
    · cases h

theorem CC.val_len {α : Type} (C : CC α) (x : α) : (C.val x).length = C.n := by
  have := (Rvs.of_flats (ρ := Ren.empty) (C.h1 x)).1
  rw [← this, C.len]

theorem decL_rv {α : Type} {C : CC α} {ρ : Ren} : ∀ {n : Nat} {cs : List AV} {vs : List Value} {l : List α}, decL C n cs = some l → Rvs ρ cs vs →
    (encL C l).length ≤ vs.length ∧ ∀ σ, Rvs σ (encL C l) (vs.take (encL C l).length)
  | 0, cs, vs, l, h, r => by
    simp [decL] at h; subst h
    exact ⟨by simp [encL], fun σ => by simpa [encL] using (Rvs.nil (ρ := σ))⟩
  | n + 1, cs, vs, l, h, r => by
    simp only [decL] at h
    split at h
    · rename_i x m hx hm
      simp at h; subst h
      obtain ⟨h1, h2⟩ := decL_rv hm (r.drop C.n)
      have h3 := C.h2 ρ _ _ _ hx (r.take C.n)
      have h4 : C.n ≤ vs.length := by
        have := congrArg List.length h3
        rw [C.val_len] at this
        simp at this
        omega
      refine ⟨?_, fun σ => ?_⟩
      · simp only [encL, List.length_append, C.len]
        simp at h1
        omega
      · have e : vs.take (encL C (x :: m)).length = vs.take C.n ++ (vs.drop C.n).take (encL C m).length := by
          simp only [encL, List.length_append, C.len, List.take_add]
        rw [e, h3]
        exact (Rvs.of_flats (C.h1 x)).append (h2 σ)
    · cases h

/-! Slices that are handed. -/
structure Hd where
  s : SA
  cap : Nat
  t : TypeId
  cs : List AV
  fb : Option Nat
  n : Nat
  base : Nat

/-- What a handed slice is in a world. -/
structure HandS (w : World) (x : Hd) (v : Value) : Prop where
  rv : ∀ (σ : Ren) (id : Nat), σ id = x.fb → σ.cells id = x.n → σ.base id = x.base → Rv σ (x.s.at id x.cap) v
  blk : x.s ≠ .nil → ∃ b xs fr, x.fb = some b ∧ w.heap[b]? = some (.cells xs x.t fr) ∧ xs.size = x.n ∧ x.base + x.cs.length ≤ xs.size ∧
    ∀ (σ : Ren) (j : Nat) (a : AV) (u : Value), x.cs[j]? = some a → xs[x.base + j]? = some u → Rv σ a u

def hpS (id : Nat) (s : SA) (t : TypeId) (cs : List AV) : AH := match s with
  | .nil => []
  | _ => [(id, some ⟨false, t, cs⟩)]

def hHeap : Nat → List Hd → AH
  | _, [] => []
  | i, x :: t => hpS i x.s x.t x.cs ++ hHeap (i + 1) t

theorem hHeap_get : ∀ (l : List Hd) (i id : Nat) (B : Blk), (hHeap i l).get id = some B → ∃ j x, id = i + j ∧ l[j]? = some x ∧ x.s ≠ .nil ∧ B = ⟨false, x.t, x.cs⟩
  | [], i, id, B, h => by simp [hHeap, AH.get] at h
  | x :: t, i, id, B, h => by
    have next : (hHeap (i + 1) t).get id = some B → ∃ j y, id = i + j ∧ (x :: t)[j]? = some y ∧ y.s ≠ .nil ∧ B = ⟨false, y.t, y.cs⟩ := fun h => by
      obtain ⟨j, y, h1, h2, h3, h4⟩ := hHeap_get t (i + 1) id B h
      exact ⟨j + 1, y, by omega, by simpa using h2, h3, h4⟩
    cases hs : x.s with
    | nil =>
      simp only [hHeap, hs, hpS, List.nil_append] at h
      exact next h
    | slc n =>
      simp only [hHeap, hs, hpS, List.cons_append, List.nil_append] at h
      rw [AH.get_cons] at h
      split at h
      · rename_i e
        simp at h
        exact ⟨0, x, by omega, rfl, (by rw [hs]; exact fun h => by cases h), h.symm⟩
      · exact next h
    | own es n =>
      simp only [hHeap, hs, hpS, List.cons_append, List.nil_append] at h
      rw [AH.get_cons] at h
      split at h
      · rename_i e
        simp at h
        exact ⟨0, x, by omega, rfl, (by rw [hs]; exact fun h => by cases h), h.symm⟩
      · exact next h

def hRen (l : List Hd) : Ren := ⟨fun id => match l[id]? with
    | some x => x.fb
    | none => none, fun id => match l[id]? with
    | some x => x.n
    | none => 0, fun id => match l[id]? with
    | some x => x.base
    | none => 0⟩

theorem hRW {w : World} (hg : GW w) {l : List Hd} (h : ∀ x ∈ l, ∃ v, HandS w x v) : RW (frameOf w) (hRen l) (hHeap 0 l) w := by
  refine ⟨fun id B hB => ?_, fun id id' B B' d hB hB' hwr => ?_, fun _ _ h => h, rfl, rfl, rfl, hg⟩
  · obtain ⟨j, x, e, hx, hn, rfl⟩ := hHeap_get l 0 id B hB
    rw [Nat.zero_add] at e
    subst e
    obtain ⟨v, hv⟩ := h x (List.mem_of_getElem? hx)
    obtain ⟨b, xs, fr, h1, h2, h3, h4, h5⟩ := hv.blk hn
    have e1 : (hRen l) id = x.fb := by simp [hRen, hx]
    have e2 : (hRen l).cells id = x.n := by simp [hRen, hx]
    have e3 : (hRen l).base id = x.base := by simp [hRen, hx]
    exact ⟨b, _, e1.trans h1, h2, .inl ⟨xs, fr, rfl, (fun h => by cases h), by rw [e3]; exact h4, fun i a u ha hu => h5 _ i a u ha (by rw [← e3]; exact hu)⟩, (fun h => by cases h), h3.trans e2.symm⟩
  · obtain ⟨j, x, e, hx, hn, rfl⟩ := hHeap_get l 0 id B hB
    cases hwr

theorem hRen_at {w : World} {l : List Hd} {j : Nat} {x : Hd} {v : Value} (hx : l[j]? = some x) (h : HandS w x v) : Rv (hRen l) (x.s.at j x.cap) v :=
  h.rv _ _ (by simp [hRen, hx]) (by simp [hRen, hx]) (by simp [hRen, hx])

theorem hRen_none {l : List Hd} (id : Nat) (h : l.length ≤ id) : (hRen l) id = none := by
  simp [hRen, List.getElem?_eq_none h]

/-- A slice that is handed on. -/
theorem hand_of {α : Type} {F : Fr} {ρ : Ren} {h : AH} {w : World} (hw : RW F ρ h w) {A : CC α} {a : AV} {s : SA} {cs : List AV} (hr : readS a h = some (s, cs)) {l : List α} (hd : decL A s.len cs = some l) {v : Value} (hv : Rv ρ a v) :
    ∃ x : Hd, x.s = s ∧ x.cs = encL A l ∧ HandS w x v := by
  rcases readS_spec hr with ⟨rfl, rfl, rfl⟩ | ⟨i, cap, B, hn, rfl, hB, rfl⟩
  · have : l = [] := by simpa [SA.len, decL] using hd.symm
    subst this
    cases hv
    exact ⟨⟨.nil, 0, default, [], none, 0, 0⟩, rfl, rfl, ⟨fun σ id _ _ _ => .v _, fun h => absurd rfl h⟩⟩
  · obtain ⟨b, o, h1, h2, ⟨xs, fr, rfl, h3, h4, h5⟩, h6, h7⟩ := hw.blkC hB
    have hrel := rvs_prefix (ρ := ρ) (cs := B.cs) (xs := xs.toList.drop (ρ.base i)) (by simp; omega) (fun j a x ha hx => h5 j a x ha (by simpa using hx))
    obtain ⟨k1, k2⟩ := decL_rv hd hrel
    simp at k1
    refine ⟨⟨s, cap, B.ty, encL A l, some b, xs.size, ρ.base i⟩, rfl, rfl, ⟨fun σ id e1 e2 e3 => ?_, fun _ => ⟨b, xs, fr, rfl, h2, rfl, ?_, fun σ j a u ha hu => ?_⟩⟩⟩
    · simp only at e1 e2 e3
      show Rv σ (s.at id cap) v
      cases s with
      | nil => exact absurd rfl hn
      | slc n =>
        simp only [SA.at] at hv ⊢
        cases hv with
        | slc hb =>
          rw [h1] at hb; simp at hb; subst hb
          rw [← e3]
          exact .slc e1
      | own es n =>
        simp only [SA.at] at hv ⊢
        cases hv with
        | own hb h0 hc hl hm =>
          rw [h1] at hb; simp at hb; subst hb
          exact .own e1 (e3.trans h0) (by rw [e2]; simpa [count] using hc.trans h7.symm) hl hm
        | ownE _ hk => exact absurd hk (Nat.lt_irrefl 0)
    · show ρ.base i + (encL A l).length ≤ xs.size
      omega
    · have hlt := (List.getElem?_eq_some_iff.1 ha).1
      refine (k2 σ).2 j a u ha ?_
      rw [List.getElem?_take, if_pos hlt, List.getElem?_take, if_pos (by simp only at hlt; omega)]
      simpa using hu

/-! Contracts of functions that read two slices, one behind the other. -/
def decS {α : Type} (A : CC α) (x : SA × List AV) : Option (List α) := decL A x.1.len x.2

theorem ids_mem {a : AV} {i : Nat} (h : (∃ o n c, a = .slc i o n c) ∨ (∃ es k n, a = .own i es k n)) : ∀ {l : List AV}, a ∈ l → i ∈ idsOf l
  | b :: t, hm => by
    have key : i ∈ idsOf t → i ∈ idsOf (b :: t) := fun h => by
      simp only [idsOf]
      split <;> simp [h]
    rcases List.mem_cons.1 hm with rfl | hm
    · rcases h with ⟨o, n, c, rfl⟩ | ⟨es, k, n, rfl⟩ <;> simp [idsOf]
    · exact key (ids_mem h hm)

theorem readS_congr {h h' : AH} {args : List AV} {a : AV} (ha : a ∈ args) (hh : ∀ i, i ∈ idsOf args → ∀ B, h.get i = some B → h'.get i = some B) {x : SA × List AV} (e : readS a h = some x) : readS a h' = some x := by
  obtain ⟨s, cs⟩ := x
  rcases readS_spec e with ⟨rfl, rfl, rfl⟩ | ⟨i, cap, B, hn, rfl, hB, rfl⟩
  · rfl
  · cases s with
    | nil => exact absurd rfl hn
    | slc n => 
      have := getC_mono (hh i (ids_mem (.inl ⟨_, _, _, rfl⟩) ha)) hB
      simp [readS, SA.at, this]
    | own es n =>
      have := getC_mono (hh i (ids_mem (.inr ⟨_, _, _, rfl⟩) ha)) hB
      simp [readS, SA.at, this]

end Go.Rq

/- Functions gone through where they are called, that may write to what they are handed and lay one block; functions that lay one block under a condition. -/
namespace Go.Rq
open Go

/-! A name is changed. -/
def AV.mv0 (m z : Nat) : AV → AV
  | .ptr i o => .ptr (bif Nat.beq i m then z else i) o
  | .slc i o l c => .slc (bif Nat.beq i m then z else i) o l c
  | .own i es k l => .own (bif Nat.beq i m then z else i) es k l
  | a => a

def mvs (m z : Nat) : List AV → List AV
  | [] => []
  | a :: t => a.mv0 m z :: mvs m z t

def AV.mv (m z : Nat) : AV → AV
  | .tup cs => .tup (mvs m z cs)
  | a => a.mv0 m z

/-! The blocks that are handed, and what becomes of them. -/
open Classical in
section
variable {F : Fr} {ρ ρ' : Ren} {h h0 h' ups : AH} {w w' : World} {ids : List Nat} {top : Nat}

end

/-! A function gone through where it is called. -/
def stripQ : Tree (AV × AH) → Option (AV × AH)
  | .leaf a => some a
  | .need true t => stripQ t
  | _ => none

theorem stripQ_holds : ∀ {t : Tree (AV × AH)} {r : AV × AH}, stripQ t = some r → t.holds (fun q => q = r)
  | .leaf a, r, h => by simp [stripQ] at h; exact h
  | .need true t, r, h => by simp only [stripQ] at h; exact ⟨rfl, stripQ_holds h⟩
  | .need false t, r, h => by simp [stripQ] at h
  | .br _ _ _, r, h => by simp [stripQ] at h
  | .same _ _ _, r, h => by simp [stripQ] at h
  | .fail, r, h => by simp [stripQ] at h

abbrev ActTab := List (FuncId × (List AV → AH → Nat → Option (Bool × AV × AH)))

def lookAT : ActTab → FuncId → Option (List AV → AH → Nat → Option (Bool × AV × AH))
  | [], _ => none
  | (f, g) :: t, k => bif Nat.beq f k then some g else lookAT t k

theorem lookAT_mem : ∀ {ps : ActTab} {f : FuncId} {g}, lookAT ps f = some g → (f, g) ∈ ps
  | [], f, g, h => by simp [lookAT] at h
  | (k, q) :: t, f, g, h => by
    simp only [lookAT] at h
    cases hb : Nat.beq k f with
    | true => rw [hb] at h; simp at h; subst h; rw [Nat.eq_of_beq_eq_true hb]; simp
    | false => rw [hb] at h; exact List.mem_cons_of_mem _ (lookAT_mem h)

def TabAOk (P : Program) (ps : ActTab) : Prop := ∀ p ∈ ps, Enters P p.1 ∧ ActOk P 1 p.1 p.2
theorem TabAOk.nil {P : Program} : TabAOk P [] := fun p h => by simp at h
theorem TabAOk.cons {P : Program} {f : FuncId} {g : List AV → AH → Nat → Option (Bool × AV × AH)} {t : ActTab} (h1 : Enters P f) (h : ActOk P 1 f g) (r : TabAOk P t) : TabAOk P ((f, g) :: t) := by
  intro p hp
  rcases List.mem_cons.1 hp with rfl | hp
  · exact ⟨h1, h⟩
  · exact r p hp

/-- All kinds of tables; types of strings; an assignment under a bool in a slot of ms is made of both values. -/
def envA (eqs : List (TypeId × List Nat)) (ps : PureTab) (hs : HeapTab) (ls : LayTab) (cs : ActTab) (ss : List TypeId) (ms : List Tmp) (fr : Bool) (ro : List FuncId) : Env := ⟨lookP ps, lookHT hs, lookE eqs, false, true, ss, ms, lookLT ls, none, lookAT cs, fr, ro, 1⟩
theorem envA_ok {P : Program} {eqs : List (TypeId × List Nat)} {ps : PureTab} {hs : HeapTab} {ls : LayTab} {cs : ActTab} {ss : List TypeId} {ms : List Tmp} {fr : Bool} {ro : List FuncId} (he : EqsOk P eqs) (hp : TabPOk P ps) (hh : TabHOk P hs) (hl : TabLOk P ls) (ha : TabAOk P cs) : EnvOk P (envA eqs ps hs ls cs ss ms fr ro) :=
  ⟨fun _ _ h => he _ (lookE_mem h), fun _ _ h => hp _ (lookP_mem h), fun _ _ h => hh _ (lookHT_mem h), fun _ _ h => hl _ (lookLT_mem h), fun _ _ h => ha _ (lookAT_mem h), Nat.le_refl 1⟩

/-! A function of exact arguments that lays one block and hands back what names it, where a condition holds. -/
def layN {α γ : Type} (A : Cod α) (t : TypeId) (C : CC γ) (ok : α → Bool) (R : AV) (F : α → γ) : List AV → Nat → Option (Bool × AV × Blk)
  | [a], z => match A.dec a with
    | none => none
    | some x => some (ok x, R.mv 0 z, ⟨true, t, C.enc (F x)⟩)
  | _, _ => none

/-! Bytes. -/
def bytL (b : Nat → Int) : Nat → Nat → List AV
  | _, 0 => []
  | i, n + 1 => .v (.int .u8 (b i)) :: bytL b (i + 1) n
def bytV (b : Nat → Int) : Nat → Nat → List Value
  | _, 0 => []
  | i, n + 1 => .int .u8 (b i) :: bytV b (i + 1) n
def bytD : Nat → List AV → Option (List Int)
  | 0, [] => some []
  | n + 1, a :: t => match intOf .u8 a, bytD n t with
    | some x, some l => some (x :: l)
    | _, _ => none
  | _, _ => none

theorem bytL_len (b : Nat → Int) : ∀ n i, (bytL b i n).length = n
  | 0, i => rfl
  | n + 1, i => by simp [bytL, bytL_len b n]
theorem bytL_flat (b : Nat → Int) : ∀ n i, flats (bytL b i n) = some (bytV b i n)
  | 0, i => rfl
  | n + 1, i => by simp only [bytL, bytV, flats, scal, bytL_flat b n]
theorem bytD_val {ρ : Ren} : ∀ {n : Nat} {as : List AV} {vs : List Value} {l : List Int} (j : Nat) (f : Nat → Int), bytD n as = some l → Rvs ρ as vs → (∀ i, i < n → f (j + i) = l.getD i 0) → vs = bytV f j n
  | 0, [], vs, l, j, f, h, r, _ => by rw [r.unnil]; rfl
  | 0, _ :: _, vs, l, j, f, h, r, _ => by cases h
  | n + 1, [], vs, l, j, f, h, r, _ => by cases h
  | n + 1, a :: t, vs, l, j, f, h, r, hf => by
    simp only [bytD] at h
    split at h
    · rename_i x m hx hm
      simp at h; subst h
      obtain ⟨v, ys, rfl, hv, ht⟩ := r.uncons
      have h1 := (kInt .u8).h2 ρ a v x hx hv
      have h2 := bytD_val (j + 1) f hm ht (fun i hi => by
        have := hf (i + 1) (by omega)
        rw [show j + 1 + i = j + (i + 1) by omega, this]
        rfl)
      have h3 := hf 0 (by omega)
      rw [h1, h2]
      show Value.int .u8 x :: bytV f (j + 1) n = Value.int .u8 (f j) :: bytV f (j + 1) n
      rw [show f j = x from h3]
    · cases h

/-- So many bytes. -/
def cBy (n : Nat) : CC (Nat → Int) where
  n := n
  enc b := bytL b 0 n
  dec l := match bytD n l with
    | some m => some (fun i => m.getD i 0)
    | none => none
  val b := bytV b 0 n
  len b := bytL_len b n 0
  h1 b := bytL_flat b n 0
  h2 ρ as vs x h r := by
    split at h
    · rename_i m hm
      simp at h; subst h
      exact bytD_val 0 _ hm r (fun i _ => by rw [Nat.zero_add, List.getD_eq_getElem?_getD])
    · cases h
end Go.Rq

/- Functions that write to the slice that they are handed, and hand it back. -/
namespace Go.Rq
open Go

end Go.Rq

/- Functions that read one block by a pointer, with a loop; one datum alone; multiples by the bits. -/
namespace Go.Rq
open Go

theorem wrapI {n : Int} (h0 : -9223372036854775808 ≤ n) (h1 : n < 9223372036854775808) : IntKind.i64.wrap n = n := by
  simp only [IntKind.wrap, IntKind.bits, IntKind.signed]
  simp
  omega

/-! Twice, and once more where a bit is set. -/
end Go.Rq

/- Functions gone through where they are called, with whatever blocks they reach, and which may lay several. -/
namespace Go.Rq
open Go

/-! Names in values, and names changed. -/
def nmS (k : AV → List Nat → List Nat) (a : AV) (acc : List Nat) : List Nat := match a with
  | .ptr i _ => i :: acc
  | .slc i _ _ _ => i :: acc
  | .own i _ _ _ => i :: acc
  | .mp i => i :: acc
  | .agg cs => cs.foldr k acc
  | .tup cs => cs.foldr k acc
  | .fn _ as bs => as.foldr k (bs.foldr k acc)
  | .ifc _ x => k x acc
  | _ => acc
def nm1 (a : AV) (acc : List Nat) : List Nat := nmS (fun _ acc => acc) a acc
def nm2 (a : AV) (acc : List Nat) : List Nat := nmS nm1 a acc
def nm3 (a : AV) (acc : List Nat) : List Nat := nmS nm2 a acc

theorem foldr_named {ρ : Ren} {k : AV → List Nat → List Nat} (hk : ∀ a v acc i, Rv ρ a v → i ∈ k a acc → i ∈ acc ∨ ρ i ≠ none) :
    ∀ {as : List AV} {xs : List Value} {acc : List Nat} {i : Nat}, Rvs ρ as xs → i ∈ as.foldr k acc → i ∈ acc ∨ ρ i ≠ none
  | [], xs, acc, i, _, hi => .inl hi
  | a :: t, xs, acc, i, h, hi => by
    obtain ⟨x, ys, rfl, hx, ht⟩ := h.uncons
    rcases hk a x _ i hx hi with hi | hi
    · exact foldr_named hk ht hi
    · exact .inr hi

theorem nmS_named {ρ : Ren} {k : AV → List Nat → List Nat} (hk : ∀ a v acc i, Rv ρ a v → i ∈ k a acc → i ∈ acc ∨ ρ i ≠ none) (a : AV) (v : Value) (acc : List Nat) (i : Nat) (h : Rv ρ a v) (hi : i ∈ nmS k a acc) : i ∈ acc ∨ ρ i ≠ none := by
  cases a with
  | ptr j o =>
    cases h with
    | ptr hb =>
      rcases List.mem_cons.1 hi with rfl | hi
      · exact .inr (by rw [hb]; simp)
      · exact .inl hi
  | slc j o l c =>
    cases h with
    | slc hb =>
      rcases List.mem_cons.1 hi with rfl | hi
      · exact .inr (by rw [hb]; simp)
      · exact .inl hi
  | own j es k' l =>
    cases h with
    | own hb _ _ _ _ =>
      rcases List.mem_cons.1 hi with rfl | hi
      · exact .inr (by rw [hb]; simp)
      · exact .inl hi
    | ownE hb _ =>
      rcases List.mem_cons.1 hi with rfl | hi
      · exact .inr (by rw [hb]; simp)
      · exact .inl hi
  | agg cs => obtain ⟨xs, rfl, hx⟩ := h.agg_iff; exact foldr_named hk hx hi
  | tup cs => obtain ⟨xs, rfl, hx⟩ := h.tup_iff; exact foldr_named hk hx hi
  | fn f as bs =>
    obtain ⟨xs, ys, rfl, hx, hy⟩ := h.fn_iff
    rcases foldr_named hk hx hi with hi | hi
    · exact foldr_named hk hy hi
    · exact .inr hi
  | ifc t x => cases h with | ifc h => exact hk _ _ _ _ h hi
  | mp j =>
    cases h with
    | mp hb =>
      rcases List.mem_cons.1 hi with rfl | hi
      · exact .inr (by rw [hb]; simp)
      · exact .inl hi
  | _ => exact .inl hi

theorem nm1_named {ρ : Ren} (a : AV) (v : Value) (acc : List Nat) (i : Nat) (h : Rv ρ a v) (hi : i ∈ nm1 a acc) : i ∈ acc ∨ ρ i ≠ none := nmS_named (fun _ _ _ _ _ hi => .inl hi) a v acc i h hi
theorem nm2_named {ρ : Ren} (a : AV) (v : Value) (acc : List Nat) (i : Nat) (h : Rv ρ a v) (hi : i ∈ nm2 a acc) : i ∈ acc ∨ ρ i ≠ none := nmS_named nm1_named a v acc i h hi
theorem nm3_named {ρ : Ren} (a : AV) (v : Value) (acc : List Nat) (i : Nat) (h : Rv ρ a v) (hi : i ∈ nm3 a acc) : i ∈ acc ∨ ρ i ≠ none := nmS_named nm2_named a v acc i h hi

def mvS (σ : Nat → Option Nat) (k : AV → AV) : AV → AV
  | .ptr i o => match σ i with
    | some z => .ptr z o
    | none => .any
  | .slc i o l c => match σ i with
    | some z => .slc z o l c
    | none => .any
  | .own i es q l => match σ i with
    | some z => .own z es q l
    | none => .any
  | .mp i => match σ i with
    | some z => .mp z
    | none => .any
  | .agg cs => .agg (cs.map k)
  | .tup cs => .tup (cs.map k)
  | .fn f as bs => .fn f (as.map k) (bs.map k)
  | .ifc t x => .ifc t (k x)
  | a => a
def mv1 (σ : Nat → Option Nat) (a : AV) : AV := mvS σ (fun _ => .any) a
def mv1' (σ : Nat → Option Nat) (a : AV) : AV := mvS σ (mv1 σ) a
def mv2 (σ : Nat → Option Nat) (a : AV) : AV := mvS σ (mv1' σ) a
def mv3 (σ : Nat → Option Nat) (a : AV) : AV := mvS σ (mv2 σ) a

/-- What is named under the one naming is named likewise under the other. -/
def NmOk (ρ ρ' : Ren) (σ : Nat → Option Nat) : Prop := ∀ i z b, σ i = some z → ρ i = some b → ρ' z = some b ∧ ρ'.cells z = ρ.cells i ∧ ρ'.base z = ρ.base i

theorem Rvs.mapS {ρ ρ' : Ren} {k : AV → AV} (hk : ∀ a v, Rv ρ a v → Rv ρ' (k a) v) : ∀ {as : List AV} {xs : List Value}, Rvs ρ as xs → Rvs ρ' (as.map k) xs
  | [], xs, h => by rw [h.unnil]; exact .nil
  | a :: t, xs, h => by
    obtain ⟨x, ys, rfl, hx, ht⟩ := h.uncons
    exact .cons (hk _ _ hx) (Rvs.mapS hk ht)

theorem mvS_ok {ρ ρ' : Ren} {σ : Nat → Option Nat} (M : NmOk ρ ρ' σ) {k : AV → AV} (hk : ∀ a v, Rv ρ a v → Rv ρ' (k a) v) (a : AV) (v : Value) (h : Rv ρ a v) : Rv ρ' (mvS σ k a) v := by
  cases a with
  | ptr j o =>
    cases h with
    | ptr hb =>
      simp only [mvS]
      cases hs : σ j with
      | none => exact .any _
      | some z =>
        obtain ⟨h1, -, h3⟩ := M j z _ hs hb
        simp only
        rw [← h3]; exact .ptr h1
  | slc j o l c =>
    cases h with
    | slc hb =>
      simp only [mvS]
      cases hs : σ j with
      | none => exact .any _
      | some z =>
        obtain ⟨h1, -, h3⟩ := M j z _ hs hb
        simp only
        rw [← h3]; exact .slc h1
  | own j es q l =>
    cases h with
    | own hb h0 hc hl hm =>
      simp only [mvS]
      cases hs : σ j with
      | none => exact .any _
      | some z =>
        obtain ⟨h1, h2, h3⟩ := M j z _ hs hb
        exact .own h1 (h3.trans h0) (hc.trans h2.symm) hl hm
    | ownE hb hk =>
      simp only [mvS]
      cases hs : σ j with
      | none => exact .any _
      | some z =>
        obtain ⟨h1, -, -⟩ := M j z _ hs hb
        exact .ownE h1 hk
  | agg cs => obtain ⟨xs, rfl, hx⟩ := h.agg_iff; simpa [mvS] using Rv.agg_mk (Rvs.mapS hk hx)
  | tup cs => obtain ⟨xs, rfl, hx⟩ := h.tup_iff; simpa [mvS] using Rv.tup_mk (Rvs.mapS hk hx)
  | fn f as bs =>
    obtain ⟨xs, ys, rfl, hx, hy⟩ := h.fn_iff
    simpa [mvS] using Rv.fn_mk (f := f) (Rvs.mapS hk hx) (Rvs.mapS hk hy)
  | ifc t x => cases h with | ifc h => exact .ifc (hk _ _ h)
  | any => exact .any _
  | v x => cases h; exact .v _
  | lit b => cases h; exact .lit _
  | u x => cases h; exact .u _
  | bit b => cases h; exact .bit _
  | mk => cases h
  | mp j =>
    cases h with
    | mp hb =>
      simp only [mvS]
      cases hs : σ j with
      | none => exact .any _
      | some z =>
        obtain ⟨h1, -, -⟩ := M j z _ hs hb
        exact .mp h1

section
variable {ρ ρ' : Ren} {σ : Nat → Option Nat} (M : NmOk ρ ρ' σ)
include M
theorem mv1_ok (a : AV) (v : Value) (h : Rv ρ a v) : Rv ρ' (mv1 σ a) v := mvS_ok M (fun _ _ _ => .any _) a v h
theorem mv1'_ok (a : AV) (v : Value) (h : Rv ρ a v) : Rv ρ' (mv1' σ a) v := mvS_ok M (mv1_ok M) a v h
theorem mv2_ok (a : AV) (v : Value) (h : Rv ρ a v) : Rv ρ' (mv2 σ a) v := mvS_ok M (mv1'_ok M) a v h
theorem mv3_ok (a : AV) (v : Value) (h : Rv ρ a v) : Rv ρ' (mv3 σ a) v := mvS_ok M (mv2_ok M) a v h
end

/-- At which place of a list. -/
def idx (i : Nat) : List Nat → Nat → Option Nat
  | [], _ => none
  | x :: t, n => bif Nat.beq x i then some n else idx i t (n + 1)

theorem idx_spec {i : Nat} : ∀ {l : List Nat} {n m : Nat}, idx i l n = some m → n ≤ m ∧ l[m - n]? = some i
  | [], n, m, h => by cases h
  | x :: t, n, m, h => by
    simp only [idx] at h
    cases hb : Nat.beq x i with
    | true =>
      rw [hb] at h
      simp at h; subst h
      rw [Nat.eq_of_beq_eq_true hb]
      simp
    | false =>
      rw [hb] at h
      obtain ⟨h1, h2⟩ := idx_spec (l := t) h
      refine ⟨by omega, ?_⟩
      rw [show m - n = (m - (n + 1)) + 1 by omega, List.getElem?_cons_succ]
      exact h2

theorem memN_spec {i : Nat} : ∀ {l : List Nat}, memN i l = true ↔ i ∈ l
  | [] => by simp [memN]
  | x :: t => by
    simp only [memN]
    cases hb : Nat.beq i x with
    | true => simp [Nat.eq_of_beq_eq_true hb]
    | false =>
      have : i ≠ x := fun e => by rw [e, Nat.beq_refl] at hb; cases hb
      have ih := memN_spec (i := i) (l := t)
      rw [cond_false, List.mem_cons, ih]
      exact ⟨.inr, fun h => h.resolve_left this⟩

/-- All blocks that may be reached from names. -/
def closeI (h : AH) : Nat → List Nat → List Nat → Option (List Nat)
  | 0, _, _ => none
  | _ + 1, [], acc => some acc
  | k + 1, i :: t, acc => bif memN i acc then closeI h k t acc else match AH.get h i with
    | none => none
    | some B => closeI h k (B.cs.foldr nm2 t) (acc ++ [i])

theorem closeI_in {h : AH} : ∀ {k : Nat} {t acc l : List Nat}, closeI h k t acc = some l → (∀ i ∈ acc, ∃ B, h.get i = some B) → ∀ i ∈ l, ∃ B, h.get i = some B
  | 0, t, acc, l, e, _ => by cases e
  | k + 1, [], acc, l, e, ha => by simp [closeI] at e; subst e; exact ha
  | k + 1, i :: t, acc, l, e, ha => by
    simp only [closeI] at e
    cases hm : memN i acc with
    | true => rw [hm] at e; exact closeI_in e ha
    | false =>
      rw [hm, cond_false] at e
      split at e
      · cases e
      · rename_i B hB
        refine closeI_in e fun j hj => ?_
        rcases List.mem_append.1 hj with hj | hj
        · exact ha j hj
        · simp at hj; subst hj; exact ⟨B, hB⟩

theorem closeI_nodup {h : AH} : ∀ {k : Nat} {t acc l : List Nat}, closeI h k t acc = some l → acc.Nodup → l.Nodup
  | 0, t, acc, l, e, _ => by cases e
  | k + 1, [], acc, l, e, ha => by simp [closeI] at e; subst e; exact ha
  | k + 1, i :: t, acc, l, e, ha => by
    simp only [closeI] at e
    cases hm : memN i acc with
    | true => rw [hm] at e; exact closeI_nodup e ha
    | false =>
      rw [hm, cond_false] at e
      split at e
      · cases e
      · refine closeI_nodup e (List.nodup_append.2 ⟨ha, by simp, fun a h1 b h2 => ?_⟩)
        simp at h2; subst h2
        rintro rfl
        rw [memN_spec.2 h1] at hm; cases hm

theorem closeI_mono {h h' : AH} (hh : ∀ id B, h.get id = some B → h'.get id = some B) : ∀ {k : Nat} {t acc l : List Nat}, closeI h k t acc = some l → closeI h' k t acc = some l
  | 0, t, acc, l, e => by cases e
  | k + 1, [], acc, l, e => e
  | k + 1, i :: t, acc, l, e => by
    simp only [closeI] at e ⊢
    cases hm : memN i acc with
    | true => rw [hm] at e; exact closeI_mono hh e
    | false =>
      rw [hm, cond_false] at e
      split at e
      · cases e
      · rename_i B hB
        simp only [hh _ _ hB]
        exact closeI_mono hh e

theorem RW.cell {F : Fr} {ρ : Ren} {h : AH} {w : World} (r : RW F ρ h w) {i : Nat} {B : Blk} (hB : h.get i = some B) : (∃ xs, Rvs ρ B.cs xs) ∨ ∃ t xs, B.cs = .mk :: t ∧ Rvs ρ t xs := by
  obtain ⟨b, o, h1, h2, ⟨xs, fr, rfl, h3, h4, h5⟩ | ⟨es, n, t, rfl, h3, h4⟩, h6⟩ := r.blk i B hB
  rotate_left
  · exact .inr ⟨t, _, h3, h4⟩
  refine .inl ⟨(xs.toList.drop (ρ.base i)).take B.cs.length, by simp; omega, fun j a x ha hx => ?_⟩
  rw [List.getElem?_take] at hx
  split at hx
  · rw [List.getElem?_drop] at hx
    exact h5 j a x ha (by simpa using hx)
  · cases hx

theorem closeI_local {F : Fr} {ρ : Ren} {h u : AH} {w : World} (r : RW F ρ h w) (hu : ∀ p ∈ u, ρ p.1 = none) : ∀ {k : Nat} {t acc l : List Nat}, (∀ i ∈ t, ρ i ≠ none) → closeI (u ++ h) k t acc = some l → closeI h k t acc = some l
  | 0, t, acc, l, _, e => by cases e
  | k + 1, [], acc, l, _, e => e
  | k + 1, i :: t, acc, l, ht, e => by
    simp only [closeI] at e ⊢
    have hi : AH.get (u ++ h) i = AH.get h i := by
      rw [AH.get_append, if_neg]
      rintro ⟨p, hp, rfl⟩
      exact ht p.1 (by simp) (hu p hp)
    cases hm : memN i acc with
    | true => rw [hm] at e; exact closeI_local r hu (fun j hj => ht j (by simp [hj])) e
    | false =>
      rw [hm, cond_false, hi] at e
      split at e
      · cases e
      · rename_i B hB
        simp only [cond_false]
        refine closeI_local r hu (fun j hj => ?_) e
        have hj : j ∈ t ∨ ρ j ≠ none := by
          rcases r.cell hB with ⟨xs, hx⟩ | ⟨t', xs, hc, hx⟩
          · exact foldr_named nm2_named hx hj
          · rw [hc] at hj; exact foldr_named nm2_named hx hj
        rcases hj with hj | hj
        · exact ht j (by simp [hj])
        · exact hj

/-- The new names that may be reached. -/
def closeX (h : AH) (top : Nat) : Nat → List Nat → List Nat → List Nat
  | 0, _, acc => acc
  | _ + 1, [], acc => acc
  | k + 1, i :: t, acc => bif Nat.blt i top || memN i acc then closeX h top k t acc else match AH.get h i with
    | none => closeX h top k t acc
    | some B => closeX h top k (B.cs.foldr nm2 t) (acc ++ [i])

def namesH (h : AH) : Nat → List Nat
  | 0 => []
  | n + 1 => match AH.get h n with
    | none => namesH h n
    | some B => B.cs.foldr nm2 (namesH h n)

def mapB (σ : Nat → Option Nat) (wr : Bool) : Option Blk → Option Blk
  | some B => some ⟨B.wr && wr, B.ty, B.cs.map (mv2 σ)⟩
  | none => none

/-- The blocks, under the numbers of their places. -/
def inH (h : AH) (σ : Nat → Option Nat) (wr : Bool) : List Nat → Nat → AH
  | [], _ => []
  | i :: t, n => (n, mapB σ wr (AH.get h i)) :: inH h σ wr t (n + 1)

theorem inH_get {h : AH} {σ : Nat → Option Nat} {wr : Bool} : ∀ {l : List Nat} {n j : Nat} {B : Blk}, (inH h σ wr l n).get j = some B → ∃ i B0, n ≤ j ∧ l[j - n]? = some i ∧ h.get i = some B0 ∧ B = ⟨B0.wr && wr, B0.ty, B0.cs.map (mv2 σ)⟩
  | [], n, j, B, e => by simp [inH, AH.get] at e
  | i :: t, n, j, B, e => by
    simp only [inH] at e
    rw [AH.get_cons] at e
    split at e
    · rename_i hj
      subst hj
      unfold mapB at e
      split at e
      · rename_i B0 hB0; simp at e; subst e; exact ⟨i, B0, Nat.le_refl _, by simp, hB0, rfl⟩
      · cases e
    · rename_i hj
      obtain ⟨i', B0, h1, h2, h3, h4⟩ := inH_get e
      refine ⟨i', B0, by omega, ?_, h3, h4⟩
      rw [show j - n = (j - (n + 1)) + 1 by omega, List.getElem?_cons_succ]
      exact h2

/-- The blocks, back under their names. -/
def oldH (h : AH) (σ : Nat → Option Nat) : List Nat → Nat → AH
  | [], _ => []
  | i :: t, n => (i, mapB σ true (AH.get h n)) :: oldH h σ t (n + 1)

def newH (h : AH) (σ : Nat → Option Nat) : List Nat → Nat → AH
  | [], _ => []
  | m :: t, z => (z, mapB σ true (AH.get h m)) :: newH h σ t (z + 1)

theorem oldH_dom {h : AH} {σ : Nat → Option Nat} : ∀ {l : List Nat} {n : Nat}, ∀ p ∈ oldH h σ l n, p.1 ∈ l
  | [], n, p, hp => by simp [oldH] at hp
  | i :: t, n, p, hp => by
    simp only [oldH] at hp
    rcases List.mem_cons.1 hp with rfl | hp
    · simp
    · simp [oldH_dom p hp]

theorem newH_dom {h : AH} {σ : Nat → Option Nat} : ∀ {l : List Nat} {z : Nat}, ∀ p ∈ newH h σ l z, z ≤ p.1 ∧ p.1 < z + l.length
  | [], z, p, hp => by simp [newH] at hp
  | m :: t, z, p, hp => by
    simp only [newH] at hp
    rcases List.mem_cons.1 hp with rfl | hp
    · simp
    · have := newH_dom p hp
      simp; omega

/-- What stands at a name: of the first that is told. -/
theorem oldH_get {h g : AH} {σ : Nat → Option Nat} : ∀ {l : List Nat} {n id : Nat}, (∃ j, l[j]? = some id ∧ AH.get (oldH h σ l n ++ g) id = mapB σ true (AH.get h (n + j))) ∨ (id ∉ l ∧ AH.get (oldH h σ l n ++ g) id = AH.get g id)
  | [], n, id => .inr ⟨by simp, rfl⟩
  | i :: t, n, id => by
    by_cases hi : i = id
    · subst hi
      refine .inl ⟨0, rfl, ?_⟩
      simp only [oldH, List.cons_append]
      rw [AH.get_cons, if_pos rfl, Nat.add_zero]
    · have e : AH.get (oldH h σ (i :: t) n ++ g) id = AH.get (oldH h σ t (n + 1) ++ g) id := by
        simp only [oldH, List.cons_append]
        rw [AH.get_cons, if_neg hi]
      rcases oldH_get (h := h) (g := g) (σ := σ) (l := t) (n := n + 1) (id := id) with ⟨j, h1, h2⟩ | ⟨h1, h2⟩
      · refine .inl ⟨j + 1, by simpa using h1, ?_⟩
        rw [e, h2]
        congr 2
        omega
      · refine .inr ⟨fun hm => (List.mem_cons.1 hm).elim (fun hh => hi hh.symm) h1, e.trans h2⟩

theorem newH_get {h g : AH} {σ : Nat → Option Nat} : ∀ {l : List Nat} {z id : Nat}, (∃ j m, l[j]? = some m ∧ id = z + j ∧ AH.get (newH h σ l z ++ g) id = mapB σ true (AH.get h m)) ∨ ((¬ (z ≤ id ∧ id < z + l.length)) ∧ AH.get (newH h σ l z ++ g) id = AH.get g id)
  | [], z, id => .inr ⟨fun hh => by have := hh.1; have := hh.2; simp only [List.length_nil] at *; omega, rfl⟩
  | m :: t, z, id => by
    by_cases hi : z = id
    · subst hi
      refine .inl ⟨0, m, rfl, rfl, ?_⟩
      simp only [newH, List.cons_append]
      rw [AH.get_cons, if_pos rfl]
    · have e : AH.get (newH h σ (m :: t) z ++ g) id = AH.get (newH h σ t (z + 1) ++ g) id := by
        simp only [newH, List.cons_append]
        rw [AH.get_cons, if_neg hi]
      rcases newH_get (h := h) (g := g) (σ := σ) (l := t) (z := z + 1) (id := id) with ⟨j, m', h1, h2, h3⟩ | ⟨h1, h2⟩
      · exact .inl ⟨j + 1, m', by simpa using h1, by omega, e.trans h3⟩
      · refine .inr ⟨?_, e.trans h2⟩
        simp only [List.length_cons]; omega

def inM (ids : List Nat) (i : Nat) : Option Nat := idx i ids 0
def outM (ids L : List Nat) (z j : Nat) : Option Nat := bif Nat.blt j ids.length then ids[j]? else match idx j L 0 with
  | some k => some (z + k)
  | none => none

def nodB : List Nat → Bool
  | [] => true
  | x :: t => !memN x t && nodB t
theorem nodB_spec : ∀ {l : List Nat}, nodB l = true → l.Nodup
  | [], _ => List.nodup_nil
  | x :: t, h => by
    simp only [nodB, Bool.and_eq_true, Bool.not_eq_true'] at h
    refine List.nodup_cons.2 ⟨fun hm => ?_, nodB_spec h.2⟩
    rw [memN_spec.2 hm] at h
    cases h.1

def newOk (h : AH) (top : Nat) : List Nat → Bool
  | [] => true
  | m :: t => (Nat.ble top m && (match AH.get h m with
    | some B => B.wr
    | none => false)) && newOk h top t
theorem newOk_spec {h : AH} {top : Nat} : ∀ {l : List Nat}, newOk h top l = true → ∀ m ∈ l, top ≤ m ∧ ∃ B, h.get m = some B ∧ B.wr = true
  | [], _, m, hm => by simp at hm
  | x :: t, e, m, hm => by
    simp only [newOk, Bool.and_eq_true] at e
    rcases List.mem_cons.1 hm with rfl | hm
    · obtain ⟨⟨h1, h2⟩, -⟩ := e
      refine ⟨Nat.le_of_ble_eq_true h1, ?_⟩
      split at h2
      · rename_i B hB; exact ⟨B, hB, h2⟩
      · cases h2
    · exact newOk_spec e.2 m hm

def backL (kk : Nat) (rd : Bool) (ids : List Nat) (z : Nat) (r : AV) (h : AH) (L : List Nat) : Option (Bool × AV × AH) :=
  bif Nat.ble L.length kk && (nodB L && newOk h ids.length L) then
    some (true, mv3 (outM ids L z) r, newH h (outM ids L z) L z ++ oldH h (outM ids L z) (bif rd then [] else ids) 0)
  else none

/-- A function gone through where it is called. (rd: it writes to nothing that it is handed.) -/
def deepG (P : Program) (E : Env) (sym : List Tmp) (lf f kk : Nat) (rd : Bool) (args : List AV) (h : AH) (z : Nat) : Option (Bool × AV × AH) :=
  match closeI h 65536 (args.foldr nm3 []) [] with
  | none => none
  | some ids => match stripQ (afun P E sym (fun _ => none) lf f (args.map (mv3 (inM ids))) (inH h (inM ids) (!rd) ids 0) ids.length).strict with
    | none => none
    | some (r, h') => backL kk rd ids z r h' (closeX h' ids.length 65536 (nm3 r (bif rd then [] else namesH h' ids.length)) [])

/-- The naming by places. -/
def Ren.ins (ρ : Ren) (ids : List Nat) : Ren := ⟨fun j => match ids[j]? with
  | some i => ρ i
  | none => none, fun j => match ids[j]? with
  | some i => ρ.cells i
  | none => 0, fun j => match ids[j]? with
  | some i => ρ.base i
  | none => 0⟩

def atZ (L : List Nat) (z j : Nat) : Option Nat := if z ≤ j then L[j - z]? else none
def Ren.out (ρ ρ1 : Ren) (L : List Nat) (z : Nat) : Ren := ⟨fun j => match atZ L z j with
  | some m => ρ1 m
  | none => ρ j, fun j => match atZ L z j with
  | some m => ρ1.cells m
  | none => ρ.cells j, fun j => match atZ L z j with
  | some m => ρ1.base m
  | none => ρ.base j⟩

theorem Ren.ins_at {ρ : Ren} {ids : List Nat} {j i : Nat} (h : ids[j]? = some i) : (ρ.ins ids) j = ρ i ∧ (ρ.ins ids).cells j = ρ.cells i ∧ (ρ.ins ids).base j = ρ.base i := by
  simp [Ren.ins, h]
theorem Ren.out_new {ρ ρ1 : Ren} {L : List Nat} {z k m : Nat} (h : L[k]? = some m) : (ρ.out ρ1 L z) (z + k) = ρ1 m ∧ (ρ.out ρ1 L z).cells (z + k) = ρ1.cells m ∧ (ρ.out ρ1 L z).base (z + k) = ρ1.base m := by
  have : atZ L z (z + k) = some m := by simp [atZ, h]
  simp [Ren.out, this]
theorem Ren.out_old {ρ ρ1 : Ren} {L : List Nat} {z j : Nat} (h : ¬ (z ≤ j ∧ j < z + L.length)) : (ρ.out ρ1 L z) j = ρ j ∧ (ρ.out ρ1 L z).cells j = ρ.cells j ∧ (ρ.out ρ1 L z).base j = ρ.base j := by
  have : atZ L z j = none := by
    unfold atZ
    split
    · rw [List.getElem?_eq_none_iff]; omega
    · rfl
  simp [Ren.out, this]

open Classical in
/-- All blocks stay but those that may be written. -/
noncomputable def deepF (ρ : Ren) (h : AH) (od : List Nat) (w : World) : Fr := ⟨fun b => if ∃ i B, i ∈ od ∧ h.get i = some B ∧ B.wr = true ∧ ρ i = some b then none else w.heap[b]?, w.os, w.tape, w.output⟩

theorem deepF_none {ρ : Ren} {h : AH} {od : List Nat} {w : World} {b : Nat} (e : (deepF ρ h od w).blocks b = none) : (∃ i B, i ∈ od ∧ h.get i = some B ∧ B.wr = true ∧ ρ i = some b) ∨ w.heap[b]? = none := by
  unfold deepF at e
  simp only at e
  split at e
  · rename_i h1; exact .inl h1
  · exact .inr e
theorem deepF_some {ρ : Ren} {h : AH} {od : List Nat} {w : World} {b : Nat} {o : Obj} (e : ¬ ∃ i B, i ∈ od ∧ h.get i = some B ∧ B.wr = true ∧ ρ i = some b) (ho : w.heap[b]? = some o) : (deepF ρ h od w).blocks b = some o := by
  unfold deepF
  simp only
  rw [if_neg e, ho]

theorem NmOk.ins {ρ : Ren} {ids : List Nat} : NmOk ρ (ρ.ins ids) (inM ids) := by
  intro i z b hs hb
  obtain ⟨-, h2⟩ := idx_spec hs
  rw [Nat.sub_zero] at h2
  obtain ⟨g1, g2, g3⟩ := Ren.ins_at (ρ := ρ) h2
  exact ⟨g1.trans hb, g2, g3⟩

theorem deep_in {F : Fr} {ρ : Ren} {h : AH} {w : World} (r : RW F ρ h w) {ids : List Nat} (rd : Bool) (hnd : ids.Nodup) :
    RW (deepF ρ h (bif rd then [] else ids) w) (ρ.ins ids) (inH h (inM ids) (!rd) ids 0) w := by
  refine ⟨fun j B hB => ?_, fun j j' B B' b hB hB' hw hb hb' => ?_, fun b o ho => ?_, rfl, rfl, rfl, fun g cs e => ?_⟩
  rotate_left 3
  · obtain ⟨xs, ty, fr, g1, g2⟩ := r.gc g cs e
    refine ⟨xs, ty, fr, deepF_some ?_ (r.fr _ _ g1), g2⟩
    rintro ⟨i, B, -, k1, k2, k3⟩
    obtain ⟨b', o, l1, -, -, l4, -⟩ := r.blk i B k1
    rw [k3] at l1; simp at l1; subst l1
    rw [l4 k2] at g1; cases g1
  · obtain ⟨i, B0, -, h2, h3, rfl⟩ := inH_get hB
    rw [Nat.sub_zero] at h2
    obtain ⟨g1, g2, g3⟩ := Ren.ins_at (ρ := ρ) h2
    obtain ⟨b, o, h4, h5, h6, h9, h10⟩ := r.blk i B0 h3
    refine ⟨b, _, g1.trans h4, h5, h6.turn (mv2 _) g3 (fun hw => ?_) rfl rfl rfl (fun a _ x hx => mv2_ok NmOk.ins a x hx), fun hw => ?_, ?_⟩
    · simp only [Bool.and_eq_true] at hw
      exact hw.1
    · simp only [Bool.and_eq_true, Bool.not_eq_true'] at hw
      unfold deepF
      simp only
      rw [hw.2, cond_false]
      exact if_pos ⟨i, B0, List.mem_of_getElem? h2, h3, hw.1, h4⟩
    · rw [g2]; exact h10
  · obtain ⟨i, B0, -, h2, h3, rfl⟩ := inH_get hB
    obtain ⟨i', B0', -, h2', h3', rfl⟩ := inH_get hB'
    rw [Nat.sub_zero] at h2 h2'
    have g1 := (Ren.ins_at (ρ := ρ) h2).1
    have g1' := (Ren.ins_at (ρ := ρ) h2').1
    simp only [Bool.and_eq_true] at hw
    have e := r.inj i i' B0 B0' b h3 h3' hw.1 (g1.symm.trans hb) (g1'.symm.trans hb')
    subst e
    obtain ⟨k1, k1'⟩ := List.getElem?_eq_some_iff.1 h2
    obtain ⟨k2, k2'⟩ := List.getElem?_eq_some_iff.1 h2'
    exact (List.getElem_inj hnd).1 (k1'.trans k2'.symm)
  · unfold deepF at ho
    simp only at ho
    split at ho
    · cases ho
    · exact ho

section
variable {F : Fr} {ρ ρ1 : Ren} {h h' : AH} {w w' : World} {ids L : List Nat} {z kk : Nat} {rd : Bool}

theorem NmOk.out (hz : freeR ρ z kk) (hL : L.length ≤ kk) (he : ∀ id, id < ids.length → Ren.eqAt ρ1 (ρ.ins ids) id) : NmOk ρ1 (ρ.out ρ1 L z) (outM ids L z) := by
  intro j y b hs hb
  unfold outM at hs
  cases hlt : Nat.blt j ids.length with
  | true =>
    rw [hlt, cond_true] at hs
    have hlt : j < ids.length := Nat.le_of_ble_eq_true hlt
    obtain ⟨g1, g2, g3⟩ := Ren.ins_at (ρ := ρ) hs
    have e := he j hlt
    have e1 : (ρ.ins ids) j = some b := e.f.symm.trans hb
    have e2 := e.cells b e1
    have hy : ρ y = some b := g1.symm.trans e1
    obtain ⟨o1, o2, o3⟩ := Ren.out_old (ρ := ρ) (ρ1 := ρ1) (L := L) (z := z) (j := y) (fun hh => by
      rw [hz y ⟨hh.1, by omega⟩] at hy; cases hy)
    exact ⟨o1.trans hy, o2.trans (g2.symm.trans e2.1.symm), o3.trans (g3.symm.trans e2.2.symm)⟩
  | false =>
    rw [hlt, cond_false] at hs
    split at hs
    · rename_i k hk
      simp at hs; subst hs
      obtain ⟨-, h2⟩ := idx_spec hk
      rw [Nat.sub_zero] at h2
      obtain ⟨g1, g2, g3⟩ := Ren.out_new (ρ := ρ) (ρ1 := ρ1) (z := z) h2
      exact ⟨g1.trans hb, g2, g3⟩
    · cases hs

theorem Ren.le_out (hz : freeR ρ z kk) (hL : L.length ≤ kk) : ρ.le (ρ.out ρ1 L z) := by
  intro y b hy
  obtain ⟨o1, o2, o3⟩ := Ren.out_old (ρ := ρ) (ρ1 := ρ1) (L := L) (z := z) (j := y) (fun hh => by
    rw [hz y ⟨hh.1, by omega⟩] at hy; cases hy)
  exact ⟨o1.trans hy, o2, o3⟩

/-- A block of the called function's, in the caller's naming. -/
theorem RB.moved {σ : Nat → Option Nat} {ρ2 : Ren} (M : NmOk ρ1 ρ2 σ) {j y : Nat} {B : Blk} {o : Obj} (hb : ρ2.base y = ρ1.base j) (hr : RB ρ1 j B o) : RB ρ2 y ⟨B.wr && true, B.ty, B.cs.map (mv2 σ)⟩ o := by
  exact hr.turn (mv2 σ) hb (fun hw => by simpa using hw) rfl rfl rfl (fun a _ x hx => mv2_ok M a x hx)

theorem mapB_some {σ : Nat → Option Nat} {o : Option Blk} {B : Blk} (e : mapB σ true o = some B) : ∃ B0, o = some B0 ∧ B = ⟨B0.wr && true, B0.ty, B0.cs.map (mv2 σ)⟩ := by
  unfold mapB at e
  split at e
  · rename_i B0; simp at e; subst e; exact ⟨B0, rfl, by simp⟩
  · cases e

theorem deep_out (r : RW F ρ h w) (hin : ∀ i ∈ ids, ∃ B, h.get i = some B) (hz : freeR ρ z kk) (hL : L.length ≤ kk) (hnd : L.Nodup) (hnew : ∀ m ∈ L, ids.length ≤ m ∧ ∃ B, h'.get m = some B ∧ B.wr = true)
    (r1 : RW (deepF ρ h (bif rd then [] else ids) w) ρ1 h' w') (he : ∀ id, id < ids.length → Ren.eqAt ρ1 (ρ.ins ids) id) :
    RW F (ρ.out ρ1 L z) ((newH h' (outM ids L z) L z ++ oldH h' (outM ids L z) (bif rd then [] else ids) 0) ++ h) w' := by
  have M := NmOk.out (ρ := ρ) (ρ1 := ρ1) (ids := ids) hz hL he
  have hle := Ren.le_out (ρ := ρ) (ρ1 := ρ1) hz hL
  generalize hod : (bif rd then [] else ids) = od at r1
  have hsub : ∀ {j i : Nat}, od[j]? = some i → ids[j]? = some i := by
    intro j i hj
    subst hod
    cases rd with
    | true => simp at hj
    | false => exact hj
  have hodi : ∀ {i : Nat}, i ∈ od → i ∈ ids := by
    intro i hi
    subst hod
    cases rd with
    | true => simp at hi
    | false => exact hi
  generalize hσ : outM ids L z = σ at M
  -- blocks by kind
  have old : ∀ {j y : Nat} {b : Nat}, od[j]? = some y → ρ1 j = some b → ρ y = some b ∧ ρ.cells y = ρ1.cells j ∧ ρ.base y = ρ1.base j := by
    intro j y b hj hb
    have hj := hsub hj
    obtain ⟨g1, g2, g3⟩ := Ren.ins_at (ρ := ρ) hj
    have e := he j (List.getElem?_eq_some_iff.1 hj).1
    have e1 : (ρ.ins ids) j = some b := e.f.symm.trans hb
    have e2 := e.cells b e1
    exact ⟨g1.symm.trans e1, g2.symm.trans e2.1.symm, g3.symm.trans e2.2.symm⟩
  have wrF : ∀ {b : Nat}, (deepF ρ h od w).blocks b = none → F.blocks b = none := by
    intro b hb
    rcases deepF_none hb with ⟨i, B, h0, h1, h2, h3⟩ | hn
    · obtain ⟨b', o, k1, k2, k3, k4, k5⟩ := r.blk i B h1
      rw [h3] at k1; simp at k1; subst k1
      exact k4 h2
    · cases hF : F.blocks b with
      | none => rfl
      | some o => have := r.fr b o hF; rw [hn] at this; cases this
  -- a block that may be written by the called one is none of the others
  have apart : ∀ {b y : Nat} {C : Blk}, (deepF ρ h od w).blocks b = none → h.get y = some C → y ∉ od → ρ y ≠ some b := by
    intro b y C hb hC hy e
    rcases deepF_none hb with ⟨i, B, h0, h1, h2, h3⟩ | hn
    · have := r.inj i y B C b h1 hC h2 h3 e
      subst this
      exact hy h0
    · obtain ⟨b', o, k1, k2, _⟩ := r.blk y C hC
      rw [e] at k1; simp at k1; subst k1
      rw [hn] at k2; cases k2
  have kind : ∀ {id : Nat} {B : Blk}, AH.get ((newH h' σ L z ++ oldH h' σ od 0) ++ h) id = some B →
      (∃ k m B0, L[k]? = some m ∧ id = z + k ∧ h'.get m = some B0 ∧ B = ⟨B0.wr && true, B0.ty, B0.cs.map (mv2 σ)⟩) ∨
      (¬ (z ≤ id ∧ id < z + L.length) ∧ ∃ j B0, od[j]? = some id ∧ h'.get j = some B0 ∧ B = ⟨B0.wr && true, B0.ty, B0.cs.map (mv2 σ)⟩) ∨
      (¬ (z ≤ id ∧ id < z + L.length) ∧ id ∉ od ∧ h.get id = some B) := by
    intro id B hB
    rw [List.append_assoc] at hB
    rcases newH_get (h := h') (g := oldH h' σ od 0 ++ h) (σ := σ) (l := L) (z := z) (id := id) with ⟨k, m, h1, h2, h3⟩ | ⟨h1, h2⟩
    · rw [h3] at hB
      obtain ⟨B0, h4, h5⟩ := mapB_some hB
      exact .inl ⟨k, m, B0, h1, h2, h4, h5⟩
    · rw [h2] at hB
      rcases oldH_get (h := h') (g := h) (σ := σ) (l := od) (n := 0) (id := id) with ⟨j, h3, h4⟩ | ⟨h3, h4⟩
      · rw [h4, Nat.zero_add] at hB
        obtain ⟨B0, h5, h6⟩ := mapB_some hB
        exact .inr (.inl ⟨h1, j, B0, h3, h5, h6⟩)
      · rw [h4] at hB
        exact .inr (.inr ⟨h1, h3, hB⟩)
  refine ⟨fun id B hB => ?_, fun id id' B B' b hB hB' hw hb hb' => ?_, fun b o ho => ?_, r1.os.trans r.os, r1.tape.trans r.tape, r1.out.trans r.out, r.gc⟩
  · rcases kind hB with ⟨k, m, B0, h1, rfl, h3, rfl⟩ | ⟨hn, j, B0, h1, h2, rfl⟩ | ⟨hn, h1, h2⟩
    · obtain ⟨b, o, g1, g2, g3, g4, g5⟩ := r1.blk m B0 h3
      obtain ⟨e1, e2, e3⟩ := Ren.out_new (ρ := ρ) (ρ1 := ρ1) (z := z) h1
      exact ⟨b, o, e1.trans g1, g2, RB.moved M e3 g3, fun hw => wrF (g4 (by simpa using hw)), g5.trans e2.symm⟩
    · obtain ⟨b, o, g1, g2, g3, g4, g5⟩ := r1.blk j B0 h2
      obtain ⟨e1, e2, e3⟩ := old h1 g1
      obtain ⟨o1, o2, o3⟩ := Ren.out_old (ρ := ρ) (ρ1 := ρ1) hn
      exact ⟨b, o, o1.trans e1, g2, RB.moved M (o3.trans e3) g3, fun hw => wrF (g4 (by simpa using hw)), g5.trans (o2.trans e2).symm⟩
    · obtain ⟨b, o, g1, g2, g3, g4, g5⟩ := r.blk id B h2
      obtain ⟨o1, o2, o3⟩ := Ren.out_old (ρ := ρ) (ρ1 := ρ1) hn
      refine ⟨b, o, o1.trans g1, r1.fr b o (deepF_some ?_ g2), g3.mono hle g1, g4, g5.trans o2.symm⟩
      rintro ⟨i, C, k0, k1, k2, k3⟩
      have := r.inj i id C B b k1 h2 k2 k3 g1
      subst this
      exact h1 k0
  · have wr1 : ∀ {m : Nat} {B0 : Blk} {b : Nat}, h'.get m = some B0 → B0.wr = true → ρ1 m = some b → (deepF ρ h od w).blocks b = none := by
      intro m B0 b hm hw' hmb
      obtain ⟨b', o, g1, g2, g3, g4, g5⟩ := r1.blk m B0 hm
      rw [hmb] at g1; simp at g1; subst g1
      exact g4 hw'
    rcases kind hB with ⟨k, m, B0, h1, rfl, h3, rfl⟩ | ⟨hn, j, B0, h1, h2, rfl⟩ | ⟨hn, h1, h2⟩
    · have e1 := (Ren.out_new (ρ := ρ) (ρ1 := ρ1) (z := z) h1).1.symm.trans hb
      simp only [Bool.and_true] at hw
      rcases kind hB' with ⟨k', m', B0', h1', rfl, h3', rfl⟩ | ⟨hn', j', B0', h1', h2', rfl⟩ | ⟨hn', h1', h2'⟩
      · have e1' := (Ren.out_new (ρ := ρ) (ρ1 := ρ1) (z := z) h1').1.symm.trans hb'
        have := r1.inj m m' B0 B0' b h3 h3' hw e1 e1'
        subst this
        obtain ⟨k1, k1'⟩ := List.getElem?_eq_some_iff.1 h1
        obtain ⟨k2, k2'⟩ := List.getElem?_eq_some_iff.1 h1'
        rw [(List.getElem_inj hnd).1 (k1'.trans k2'.symm)]
      · have o1 := (Ren.out_old (ρ := ρ) (ρ1 := ρ1) hn').1.symm.trans hb'
        obtain ⟨b', o, g1, _⟩ := r1.blk j' B0' h2'
        have e2 := (old h1' g1).1
        rw [o1] at e2; simp at e2; subst e2
        have := r1.inj m j' B0 B0' b h3 h2' hw e1 g1
        subst this
        have h4 := (hnew m (List.mem_of_getElem? h1)).1
        have h5 := (List.getElem?_eq_some_iff.1 (hsub h1')).1
        omega
      · have o1 := (Ren.out_old (ρ := ρ) (ρ1 := ρ1) hn').1.symm.trans hb'
        exact absurd o1 (apart (wr1 h3 hw e1) h2' h1')
    · have o0 := (Ren.out_old (ρ := ρ) (ρ1 := ρ1) hn).1.symm.trans hb
      obtain ⟨b0, o, g1, _⟩ := r1.blk j B0 h2
      have e2 := (old h1 g1).1
      rw [o0] at e2; simp at e2; subst e2
      simp only [Bool.and_true] at hw
      rcases kind hB' with ⟨k', m', B0', h1', rfl, h3', rfl⟩ | ⟨hn', j', B0', h1', h2', rfl⟩ | ⟨hn', h1', h2'⟩
      · have e1' := (Ren.out_new (ρ := ρ) (ρ1 := ρ1) (z := z) h1').1.symm.trans hb'
        have := r1.inj j m' B0 B0' b h2 h3' hw g1 e1'
        subst this
        have h4 := (hnew j (List.mem_of_getElem? h1')).1
        have h5 := (List.getElem?_eq_some_iff.1 (hsub h1)).1
        omega
      · have o1 := (Ren.out_old (ρ := ρ) (ρ1 := ρ1) hn').1.symm.trans hb'
        obtain ⟨b', o', g1', _⟩ := r1.blk j' B0' h2'
        have e2 := (old h1' g1').1
        rw [o1] at e2; simp at e2; subst e2
        have := r1.inj j j' B0 B0' b h2 h2' hw g1 g1'
        subst this
        rw [h1] at h1'; simp at h1'; exact h1'
      · have o1 := (Ren.out_old (ρ := ρ) (ρ1 := ρ1) hn').1.symm.trans hb'
        exact absurd o1 (apart (wr1 h2 hw g1) h2' h1')
    · have o0 := (Ren.out_old (ρ := ρ) (ρ1 := ρ1) hn).1.symm.trans hb
      rcases kind hB' with ⟨k', m', B0', h1', rfl, h3', rfl⟩ | ⟨hn', j', B0', h1', h2', rfl⟩ | ⟨hn', h1', h2'⟩
      · have e1' := (Ren.out_new (ρ := ρ) (ρ1 := ρ1) (z := z) h1').1.symm.trans hb'
        obtain ⟨-, C, hC, hCw⟩ := hnew m' (List.mem_of_getElem? h1')
        exact absurd o0 (apart (wr1 hC hCw e1') h2 h1)
      · have o1 := (Ren.out_old (ρ := ρ) (ρ1 := ρ1) hn').1.symm.trans hb'
        obtain ⟨C, hC⟩ := hin id' (hodi (List.mem_of_getElem? h1'))
        exact r.inj id id' B C b h2 hC hw o0 o1
      · have o1 := (Ren.out_old (ρ := ρ) (ρ1 := ρ1) hn').1.symm.trans hb'
        exact r.inj id id' B B' b h2 h2' hw o0 o1
  · refine r1.fr b o (deepF_some ?_ (r.fr b o ho))
    rintro ⟨i, C, k0, k1, k2, k3⟩
    obtain ⟨b', o', g1, g2, g3, g4, g5⟩ := r.blk i C k1
    rw [k3] at g1; simp at g1; subst g1
    rw [g4 k2] at ho; cases ho

end

theorem deep_ok {P : Program} {E : Env} {sym : List Tmp} {lf f kk : Nat} {rd : Bool} (X : Ctx P E sym (fun _ => none) lf f) : ActOk P kk f (deepG P E sym lf f kk rd) := by
  obtain ⟨fn, c, hf, hb, hok, htab⟩ := X.body
  have same : ∀ {args : List AV} {h h' : AH} {z : Nat} {x : Bool × AV × AH}, (∀ ids, closeI h 65536 (args.foldr nm3 []) [] = some ids → closeI h' 65536 (args.foldr nm3 []) [] = some ids ∧ ∀ i ∈ ids, h.get i = h'.get i) →
      deepG P E sym lf f kk rd args h z = some x → deepG P E sym lf f kk rd args h' z = some x := by
    intro args h h' z x hh hg
    unfold deepG at hg ⊢
    split at hg
    · cases hg
    · rename_i ids hi
      obtain ⟨h1, h2⟩ := hh ids hi
      have e : ∀ (l : List Nat) (n : Nat), (∀ i ∈ l, h.get i = h'.get i) → inH h (inM ids) (!rd) l n = inH h' (inM ids) (!rd) l n := by
        intro l
        induction l with
        | nil => intro n _; rfl
        | cons i t ih =>
          intro n hl
          simp only [inH]
          rw [hl i (by simp), ih (n + 1) (fun j hj => hl j (by simp [hj]))]
      simp only [h1]
      rw [← e ids 0 h2]
      exact hg
  have hin : ∀ {args : List AV} {h : AH} {ids : List Nat}, closeI h 65536 (args.foldr nm3 []) [] = some ids → ∀ i ∈ ids, ∃ B, h.get i = some B := fun e => closeI_in e (fun i hi => by simp at hi)
  refine ⟨?_, fun args h h' z x hle hg => same (fun ids hi => ⟨closeI_mono hle hi, fun i hm => ?_⟩) hg, fun F ρ args xs z u h w x hx hw hu hg => ?_, fun args h z c' r ups hg => ?_⟩
  · intro F ρ args xs h z r ups w hg hx hw hz
    unfold deepG at hg
    split at hg
    · cases hg
    rename_i ids hi
    split at hg
    · cases hg
    rename_i r0 h0 hq
    unfold backL at hg
    obtain ⟨hc, hg⟩ := cond_some hg
    simp only [Bool.and_eq_true] at hc
    obtain ⟨c1, c2, c3⟩ := hc
    simp at hg
    obtain ⟨rfl, rfl⟩ := hg
    have hnd : ids.Nodup := closeI_nodup hi List.nodup_nil
    have hcall := afun_calls X.env X.mixed hf hb hok (tabOk_none c) (K := fun a h' => (a, h') = (r0, h0)) (Tree.holds_strict (Tree.holds_mono (fun a h => h) (stripQ_holds hq))) (F := deepF ρ h (bif rd then [] else ids) w)
      (Rvs.mapS (mv3_ok NmOk.ins) hx) (deep_in hw rd hnd) (fun id hid => by
        have : ids[id]? = none := by rw [List.getElem?_eq_none_iff]; exact hid
        simp [Ren.ins, this])
    refine Calls.mono hcall ?_
    rintro e w' ⟨v, q, h', ρ', rfl, hk, hrv, hrw, hsame⟩
    simp at hk
    obtain ⟨rfl, rfl⟩ := hk
    have c1 := Nat.le_of_ble_eq_true c1
    refine ⟨v, ρ.out ρ' _ z, rfl, Ren.le_out hz c1, fun j hj => ?_, mv3_ok (NmOk.out hz c1 hsame) _ _ hrv, ?_⟩
    · exact (Ren.out_old (fun hh => hj ⟨hh.1, by omega⟩)).1
    · exact deep_out hw (hin hi) hz c1 (nodB_spec c2) (newOk_spec c3) hrw hsame
  · obtain ⟨B, hB⟩ := hin hi i hm
    rw [hB, hle i B hB]
  · refine same (fun ids hi => ?_) hg
    have hn : ∀ i ∈ args.foldr nm3 [], ρ i ≠ none := fun i hm => (foldr_named nm3_named hx hm).resolve_left (by simp)
    have h1 := closeI_local hw hu hn hi
    refine ⟨h1, fun i hm => ?_⟩
    obtain ⟨B, hB⟩ := hin h1 i hm
    obtain ⟨b, o, g1, _⟩ := hw.blk i B hB
    rw [AH.get_append, if_neg]
    rintro ⟨p, hp, rfl⟩
    rw [hu p hp] at g1; cases g1
  · unfold deepG at hg
    split at hg
    · cases hg
    rename_i ids hi
    split at hg
    · cases hg
    unfold backL at hg
    obtain ⟨hc, hg⟩ := cond_some hg
    simp only [Bool.and_eq_true] at hc
    have c1 := Nat.le_of_ble_eq_true hc.1
    simp at hg
    obtain ⟨-, -, rfl⟩ := hg
    intro p hp
    rcases List.mem_append.1 hp with hp | hp
    · have := newH_dom p hp
      exact .inl ⟨this.1, by omega⟩
    · refine .inr (hin hi p.1 ?_)
      have := oldH_dom p hp
      cases rd with
      | true => simp at this
      | false => exact this

def TabDOk (P : Program) (kk : Nat) (ps : ActTab) : Prop := ∀ p ∈ ps, Enters P p.1 ∧ ActOk P kk p.1 p.2
theorem TabDOk.nil {P : Program} {kk : Nat} : TabDOk P kk [] := fun p h => by simp at h
theorem TabDOk.cons {P : Program} {kk : Nat} {f : FuncId} {g : List AV → AH → Nat → Option (Bool × AV × AH)} {t : ActTab} (h1 : Enters P f) (h : ActOk P kk f g) (r : TabDOk P kk t) : TabDOk P kk ((f, g) :: t) := by
  intro p hp
  rcases List.mem_cons.1 hp with rfl | hp
  · exact ⟨h1, h⟩
  · exact r p hp

/-- All kinds of tables, with functions that may lay up to 4096 blocks. -/
def envD (eqs : List (TypeId × List Nat)) (ps : PureTab) (hs : HeapTab) (ls : LayTab) (cs : ActTab) (ss : List TypeId) (fr : Bool) (ro : List FuncId) : Env := ⟨lookP ps, lookHT hs, lookE eqs, false, true, ss, [], lookLT ls, none, lookAT cs, fr, ro, 4096⟩
theorem envD_ok {P : Program} {eqs : List (TypeId × List Nat)} {ps : PureTab} {hs : HeapTab} {ls : LayTab} {cs : ActTab} {ss : List TypeId} {fr : Bool} {ro : List FuncId} (he : EqsOk P eqs) (hp : TabPOk P ps) (hh : TabHOk P hs) (hl : TabLOk P ls) (ha : TabDOk P 4096 cs) : EnvOk P (envD eqs ps hs ls cs ss fr ro) :=
  ⟨fun _ _ h => he _ (lookE_mem h), fun _ _ h => hp _ (lookP_mem h), fun _ _ h => hh _ (lookHT_mem h), fun _ _ h => hl _ (lookLT_mem h), fun _ _ h => ha _ (lookAT_mem h), (by show 1 ≤ 4096; omega)⟩

end Go.Rq

/- Closed runs: functions gone through at exact values, each value reckoned out at once. -/
namespace Go.Rq
open Go

/-! Values reckoned out before one goes on. -/
noncomputable def frcN {β : Type} (x : Nat) (f : Nat → β) : β := Nat.rec (f 0) (fun n _ => f (Nat.succ n)) x
theorem frcN_eq {β : Type} (x : Nat) (f : Nat → β) : frcN x f = f x := by cases x <;> rfl
noncomputable def frcB {β : Type} (x : Bool) (f : Bool → β) : β := Bool.rec (f false) (f true) x
theorem frcB_eq {β : Type} (x : Bool) (f : Bool → β) : frcB x f = f x := by cases x <;> rfl
noncomputable def frcZ {β : Type} (x : Int) (f : Int → β) : β := Int.rec (fun n => frcN n fun m => f (.ofNat m)) (fun n => frcN n fun m => f (.negSucc m)) x
theorem frcZ_eq {β : Type} (x : Int) (f : Int → β) : frcZ x f = f x := by
  cases x with
  | ofNat n => exact frcN_eq n fun m => f (.ofNat m)
  | negSucc n => exact frcN_eq n fun m => f (.negSucc m)
noncomputable def frcK {β : Type} (x : IntKind) (f : IntKind → β) : β := IntKind.rec (f .i8) (f .i16) (f .i32) (f .i64) (f .u8) (f .u16) (f .u32) (f .u64) x
theorem frcK_eq {β : Type} (x : IntKind) (f : IntKind → β) : frcK x f = f x := by cases x <;> rfl
noncomputable def frcV {β : Type} (x : Value) (f : Value → β) : β := match x with
  | .int k z => frcK k fun k => frcZ z fun z => f (.int k z)
  | .bool b => frcB b fun b => f (.bool b)
  | x => f x
theorem frcV_eq {β : Type} (x : Value) (f : Value → β) : frcV x f = f x := by
  unfold frcV
  split
  · rw [frcK_eq, frcZ_eq]
  · rw [frcB_eq]
  · rfl
noncomputable def frc0 {β : Type} (a : AV) (f : AV → β) : β := match a with
  | .u x => frcN x.toNat fun n => f (.u (BitVec.ofNat 64 n))
  | .v x => frcV x fun x => f (.v x)
  | .bit b => frcB b fun b => f (.bit b)
  | .lit b => frcB b fun b => f (.lit b)
  | .ptr i o => frcN i fun i => frcN o fun o => f (.ptr i o)
  | .slc i o l c => frcN i fun i => frcN o fun o => frcN l fun l => frcN c fun c => f (.slc i o l c)
  | .own i e k l => frcN i fun i => frcN e fun e => frcN k fun k => frcN l fun l => f (.own i e k l)
  | .mp i => frcN i fun i => f (.mp i)
  | a => f a
theorem frc0_eq {β : Type} (a : AV) (f : AV → β) : frc0 a f = f a := by
  unfold frc0
  split
  · rw [frcN_eq]; congr 1; simp
  · rw [frcV_eq]
  · rw [frcB_eq]
  · rw [frcB_eq]
  · rw [frcN_eq, frcN_eq]
  · rw [frcN_eq, frcN_eq, frcN_eq, frcN_eq]
  · rw [frcN_eq, frcN_eq, frcN_eq, frcN_eq]
  · rw [frcN_eq]
  · rfl
noncomputable def frcL {α β : Type} (g : α → (α → β) → β) (l : List α) : (List α → β) → β := List.rec (motive := fun _ => (List α → β) → β) (fun f => f []) (fun a _ ih f => g a fun a => ih fun t => f (a :: t)) l
theorem frcL_eq {α β : Type} {g : α → (α → β) → β} (hg : ∀ a f, g a f = f a) : ∀ (l : List α) (f : List α → β), frcL g l f = f l
  | [], f => rfl
  | a :: t, f => by
    show g a (fun a => frcL g t fun t => f (a :: t)) = _
    rw [hg, frcL_eq hg t]
noncomputable def frcS {β : Type} (g : AV → (AV → β) → β) (a : AV) (f : AV → β) : β := match a with
  | .agg cs => frcL g cs fun cs => f (.agg cs)
  | .tup cs => frcL g cs fun cs => f (.tup cs)
  | .fn h as bs => frcL g as fun as => frcL g bs fun bs => f (.fn h as bs)
  | .ifc t x => g x fun x => f (.ifc t x)
  | a => frc0 a f
theorem frcS_eq {β : Type} {g : AV → (AV → β) → β} (hg : ∀ a f, g a f = f a) (a : AV) (f : AV → β) : frcS g a f = f a := by
  unfold frcS
  split
  · rw [frcL_eq hg]
  · rw [frcL_eq hg]
  · rw [frcL_eq hg, frcL_eq hg]
  · rw [hg]
  · rw [frc0_eq]
noncomputable def frc1 {β : Type} (a : AV) (f : AV → β) : β := frcS frc0 a f
theorem frc1_eq {β : Type} (a : AV) (f : AV → β) : frc1 a f = f a := frcS_eq frc0_eq a f
noncomputable def frc2 {β : Type} (a : AV) (f : AV → β) : β := frcS frc1 a f
theorem frc2_eq {β : Type} (a : AV) (f : AV → β) : frc2 a f = f a := frcS_eq frc1_eq a f

/-! Slots, in a tree. -/
inductive PT where
  | lf (a : AV)
  | nd (l r : PT)

noncomputable def PT.get (t : PT) : Nat → AV := PT.rec (motive := fun _ => Nat → AV) (fun a _ => a) (fun _ _ gl gr k => cond (Nat.beq (Nat.mod k 2) 0) (gl (Nat.div k 2)) (gr (Nat.div k 2))) t
noncomputable def PT.setK {β : Type} (t : PT) : Nat → AV → (PT → β) → β := PT.rec (motive := fun _ => Nat → AV → (PT → β) → β) (fun _ _ a f => f (.lf a))
  (fun l r sl sr k a f => cond (Nat.beq (Nat.mod k 2) 0) (sl (Nat.div k 2) a fun l => f (.nd l r)) (sr (Nat.div k 2) a fun r => f (.nd l r))) t
noncomputable def PT.set (t : PT) (k : Nat) (a : AV) : PT := t.setK k a id
def PT.deep : PT → Nat → Prop
  | .lf _, 0 => True
  | .nd l r, d + 1 => l.deep d ∧ r.deep d
  | _, _ => False
def PT.uni : Nat → PT
  | 0 => .lf (.v undef)
  | d + 1 => .nd (PT.uni d) (PT.uni d)
theorem PT.uni_deep : ∀ d, (PT.uni d).deep d
  | 0 => trivial
  | d + 1 => ⟨PT.uni_deep d, PT.uni_deep d⟩
theorem PT.uni_get : ∀ d k, (PT.uni d).get k = .v undef
  | 0, k => rfl
  | d + 1, k => by
    show cond (Nat.beq (Nat.mod k 2) 0) ((PT.uni d).get (Nat.div k 2)) ((PT.uni d).get (Nat.div k 2)) = _
    rw [PT.uni_get d]
    cases Nat.beq (Nat.mod k 2) 0 <;> rfl

theorem PT.setK_eq {β : Type} : ∀ (t : PT) (k : Nat) (a : AV) (f : PT → β), t.setK k a f = f (t.set k a)
  | .lf _, k, a, f => rfl
  | .nd l r, k, a, f => by
    show cond _ (l.setK (Nat.div k 2) a fun l => f (.nd l r)) (r.setK (Nat.div k 2) a fun r => f (.nd l r)) = f (cond _ (l.setK (Nat.div k 2) a fun l => id (.nd l r)) (r.setK (Nat.div k 2) a fun r => id (.nd l r)))
    rw [PT.setK_eq l, PT.setK_eq r, PT.setK_eq l, PT.setK_eq r]
    cases Nat.beq (Nat.mod k 2) 0 <;> rfl
theorem PT.set_nd (l r : PT) (k : Nat) (a : AV) : (PT.nd l r).set k a = cond (Nat.beq (Nat.mod k 2) 0) (.nd (l.set (Nat.div k 2) a) r) (.nd l (r.set (Nat.div k 2) a)) := by
  show cond _ (l.setK (Nat.div k 2) a fun l => id (PT.nd l r)) (r.setK (Nat.div k 2) a fun r => id (PT.nd l r)) = _
  rw [PT.setK_eq l, PT.setK_eq r]
  rfl
theorem PT.set_deep : ∀ {t : PT} {d k : Nat} {a : AV}, t.deep d → (t.set k a).deep d
  | .lf _, 0, k, a, h => trivial
  | .nd l r, d + 1, k, a, h => by
    rw [PT.set_nd]
    cases Nat.beq (Nat.mod k 2) 0
    · exact ⟨h.1, PT.set_deep h.2⟩
    · exact ⟨PT.set_deep h.1, h.2⟩
  | .lf _, d + 1, k, a, h => h.elim
  | .nd _ _, 0, k, a, h => h.elim
theorem beq_iff (x y : Nat) : Nat.beq x y = true ↔ x = y := ⟨Nat.eq_of_beq_eq_true, fun h => by rw [h]; exact Nat.beq_refl y⟩
theorem beq_off {x y : Nat} : Nat.beq x y = false ↔ x ≠ y := by
  constructor
  · intro h e
    rw [(beq_iff x y).2 e] at h; cases h
  · intro h
    cases hb : Nat.beq x y with
    | false => rfl
    | true => exact absurd ((beq_iff x y).1 hb) h
theorem PT.get_set : ∀ {t : PT} {d k j : Nat} {a : AV}, t.deep d → k < 2 ^ d → j < 2 ^ d → (t.set k a).get j = if k = j then a else t.get j
  | .lf _, 0, k, j, a, _, hk, hj => by
    rw [Nat.pow_zero] at hk hj
    rw [if_pos (by omega)]; rfl
  | .nd l r, d + 1, k, j, a, h, hk, hj => by
    rw [Nat.pow_succ] at hk hj
    have hk2 : Nat.div k 2 < 2 ^ d := by show k / 2 < _; omega
    have hj2 : Nat.div j 2 < 2 ^ d := by show j / 2 < _; omega
    have il := PT.get_set (t := l) (a := a) h.1 hk2 hj2
    have ir := PT.get_set (t := r) (a := a) h.2 hk2 hj2
    have gn : ∀ (x y : PT), (PT.nd x y).get j = cond (Nat.beq (Nat.mod j 2) 0) (x.get (Nat.div j 2)) (y.get (Nat.div j 2)) := fun _ _ => rfl
    have e1 : Nat.mod k 2 = k % 2 := rfl
    have e2 : Nat.mod j 2 = j % 2 := rfl
    have e3 : Nat.div k 2 = k / 2 := rfl
    have e4 : Nat.div j 2 = j / 2 := rfl
    rw [PT.set_nd, gn l r]
    rw [e3, e4] at il ir
    by_cases ck : k % 2 = 0
    · rw [(beq_iff _ _).2 (e1.trans ck), cond_true, gn]
      by_cases cj : j % 2 = 0
      · rw [(beq_iff _ _).2 (e2.trans cj), cond_true, cond_true, e3, e4, il]
        by_cases e : k = j
        · rw [if_pos e, if_pos (by omega)]
        · rw [if_neg e, if_neg (by omega)]
      · rw [beq_off.2 (fun h => cj (e2.symm.trans h)), cond_false, cond_false, if_neg (by omega)]
    · rw [beq_off.2 (fun h => ck (e1.symm.trans h)), cond_false, gn]
      by_cases cj : j % 2 = 0
      · rw [(beq_iff _ _).2 (e2.trans cj), cond_true, cond_true, if_neg (by omega)]
      · rw [beq_off.2 (fun h => cj (e2.symm.trans h)), cond_false, cond_false, e3, e4, ir]
        by_cases e : k = j
        · rw [if_pos e, if_pos (by omega)]
        · rw [if_neg e, if_neg (by omega)]
  | .lf _, d + 1, k, j, a, h, _, _ => h.elim
  | .nd _ _, 0, k, j, a, h, _, _ => h.elim
end Go.Rq

/- Square and multiply: a loop whose bit is told by a condition. -/
namespace Go.Rq
open Go

def sqB {A : Type} (tw su : A → A) (bc : Int → Bool) : Nat → A → A
  | 0, u => u
  | k + 1, u => sqB tw su bc k (bif bc (k : Int) then su (tw u) else tw u)

/-- The round's tree: a number that must not be negative, then the bit. -/
theorem sqB_law {A : Type} {top : Int} (htop : top < 9223372036854775808) (tw su : A → A) (bc : Int → Bool) (nd : Int → Bool) (hnd : ∀ z, 0 ≤ z → nd z = true) (rt : XS → Tree (AExit × XS)) (I : Int × A → XS) {l : List Nat} (hr : ∀ (z : Int) (out : A), Tree.but l 0 (rt (I (z, out))) =
    .br (decide (z ≥ 0))
      (.br (bc z)
        (.need (nd z) (.leaf (.normal, I (IntKind.i64.wrap (z - 1), su (tw out)))))
        (.need (nd z) (.leaf (.normal, I (IntKind.i64.wrap (z - 1), tw out)))))
      (.leaf (.exit 0, I (z, out)))) {R : A} {Q : AExit → XS → Prop} (hK : Q .normal (I (-1, R))) :
    ∀ d : Int × A, (-1 ≤ d.1 ∧ d.1 ≤ top ∧ sqB tw su bc (d.1 + 1).toNat d.2 = R) → (rt (I d)).holds (fun r => match r.1 with
      | .normal => ∃ j : Int × A, (-1 ≤ j.1 ∧ j.1 ≤ top ∧ sqB tw su bc (j.1 + 1).toNat j.2 = R) ∧ (j.1 + 1).toNat < (d.1 + 1).toNat ∧ r.2 = I j
      | .exit q => if q = 0 then Q .normal r.2 else Q (.exit q) r.2
      | .ret => Q .ret r.2) := by
  rintro ⟨z, out⟩ ⟨h0, h1, h2⟩
  apply Tree.holds_but (l := l) (i := 0)
  rw [hr]
  simp only at h0 h1 h2
  refine ⟨fun hz => ?_, fun hz => ?_⟩
  · have hz : 0 ≤ z := by simpa using hz
    have hn := hnd z hz
    have hw : IntKind.i64.wrap (z - 1) = z - 1 := wrapI (by omega) (by omega)
    have hk : (z + 1).toNat = z.toNat + 1 := by omega
    rw [hk] at h2
    simp only [sqB] at h2
    rw [show ((z.toNat : Nat) : Int) = z by omega] at h2
    have hk' : (z - 1 + 1).toNat = z.toNat := by omega
    refine ⟨fun hb => ⟨hn, ⟨z - 1, su (tw out)⟩, ⟨by simp only; omega, by simp only; omega, ?_⟩, ?_, ?_⟩, fun hb => ⟨hn, ⟨z - 1, tw out⟩, ⟨by simp only; omega, by simp only; omega, ?_⟩, ?_, ?_⟩⟩
    · rw [hb] at h2
      simp only [hk']
      exact h2
    · show (z - 1 + 1).toNat < (z + 1).toNat
      omega
    · rw [hw]
    · rw [hb] at h2
      simp only [hk']
      exact h2
    · show (z - 1 + 1).toNat < (z + 1).toNat
      omega
    · rw [hw]
  · have hz : z = -1 := by
      have : ¬ 0 ≤ z := by simpa using hz
      omega
    subst hz
    have h2 : out = R := h2
    show (if (0 : Nat) = 0 then Q .normal (I (-1, out)) else Q (.exit 0) (I (-1, out)))
    rw [if_pos rfl, h2]
    exact hK

/-! Reckoned out at each step. -/
noncomputable def frcU {β : Type} (x : BitVec 64) (f : BitVec 64 → β) : β := frcN x.toNat fun n => f (BitVec.ofNat 64 n)
theorem frcU_eq {β : Type} (x : BitVec 64) (f : BitVec 64 → β) : frcU x f = f x := by
  unfold frcU
  rw [frcN_eq, BitVec.ofNat_toNat, BitVec.setWidth_eq]
noncomputable def sqF {A : Type} (frc : A → (A → A) → A) (tw su : A → A) (bc : Int → Bool) : Nat → A → A
  | 0, u => u
  | k + 1, u => frc (tw u) fun v => bif bc (k : Int) then frc (su v) (sqF frc tw su bc k) else sqF frc tw su bc k v
theorem sqF_eq {A : Type} {frc : A → (A → A) → A} (hf : ∀ x f, frc x f = f x) (tw su : A → A) (bc : Int → Bool) : ∀ (k : Nat) (u : A), sqF frc tw su bc k u = sqB tw su bc k u
  | 0, u => rfl
  | k + 1, u => by
    simp only [sqF, sqB, hf]
    cases bc (k : Int)
    · simp only [cond_false]; exact sqF_eq hf tw su bc k _
    · simp only [cond_true]; exact sqF_eq hf tw su bc k _
/-- A bit of a word, as the programs ask for it. -/
def bitU (n : BitVec 64) (z : Int) : Bool := ((n >>> (Nat.min z.toNat 64)) &&& bitW true) == bitW true
def notNeg (z : Int) : Bool := decide (0 ≤ z) && true
theorem notNeg_ok (z : Int) (h : 0 ≤ z) : notNeg z = true := by simp [notNeg, h]
end Go.Rq
namespace Go.Rq
open Go
/-- A bit is a word. -/
theorem Tri.asU {P : Program} {F : Fr} {ds : List Deferred} {m : Nat} {c : Code} {x : XS} {K : AExit → XS → Prop} {i : Nat} {b : Bool} (hi : x.s.tm[i]? = some (.bit b)) (h : Tri P F ds m c (x.setT i (.u (bitW b))) K) : Tri P F ds m c x K := by
  intro ρ a w hs hm hf
  refine h ρ a w ⟨?_, hs.h, hs.ds⟩ hm hf
  obtain ⟨v, hv, hr⟩ := hs.tm.getD hi
  have h1 : Rv ρ (.u (bitW b)) v := by cases hr; exact .u _
  have h2 := hs.tm.set h1 i
  have h3 : a.tmps.toList.set i v = a.tmps.toList := by
    apply List.ext_getElem?
    intro j
    rw [List.getElem?_set]
    by_cases e : i = j
    · subst e
      rw [if_pos rfl]
      have := (List.getElem?_eq_some_iff.1 hv).1
      rw [if_pos this, hv]
    · rw [if_neg e]
  rw [h3] at h2
  exact h2
end Go.Rq
namespace Go.Rq
open Go
theorem setH_get (id : Nat) (cs : List AV) : ∀ (h : AH) (j : Nat), (setH h id cs).get j = if id = j then (match h.get j with
    | some B => some ⟨B.wr, B.ty, cs⟩
    | none => none) else h.get j
  | [], j => by simp [setH, AH.get]
  | (i, b) :: t, j => by
    simp only [setH]
    cases hb : Nat.beq i id with
    | true =>
      have e := Nat.eq_of_beq_eq_true hb
      subst e
      rw [cond_true]
      cases b with
      | none =>
        rw [AH.get_cons]
        by_cases h : i = j
        · rw [if_pos h, if_pos h]
        · rw [if_neg h, if_neg h]
      | some B =>
        simp only
        rw [AH.get_cons, AH.get_cons]
        by_cases h : i = j
        · rw [if_pos h, if_pos h, if_pos h]
        · rw [if_neg h, if_neg h, if_neg h]
    | false =>
      have e : i ≠ id := fun e => by subst e; rw [Nat.beq_refl] at hb; cases hb
      rw [cond_false, AH.get_cons, setH_get id cs t j, AH.get_cons]
      by_cases h : i = j
      · subst h
        rw [if_pos rfl, if_neg (fun h => e h.symm), if_pos rfl]
      · rw [if_neg h, if_neg h]

/-- A block's cells, told otherwise. -/
theorem RW.recell {F : Fr} {ρ : Ren} {h : AH} {w : World} (r : RW F ρ h w) {id : Nat} {B : Blk} (hB : h.get id = some B) (hce : B.cell = true) {cs : List AV} (hl : cs.length = B.cs.length) (hc : ∀ (i : Nat) (a c : AV) (x : Value), B.cs[i]? = some a → cs[i]? = some c → Rv ρ a x → Rv ρ c x) : RW F ρ (setH h id cs) w := by
  have back : ∀ j C, (setH h id cs).get j = some C → ∃ C0, h.get j = some C0 ∧ C0.wr = C.wr ∧ C0.ty = C.ty := by
    intro j C hj
    rw [setH_get] at hj
    by_cases e : id = j
    · subst e
      rw [if_pos rfl, hB] at hj
      simp at hj; subst hj
      exact ⟨B, hB, rfl, rfl⟩
    · rw [if_neg e] at hj
      exact ⟨C, hj, rfl, rfl⟩
  refine ⟨fun j C hj => ?_, fun j j' C C' b hj hj' hw hb hb' => ?_, r.fr, r.os, r.tape, r.out, r.gc⟩
  · rw [setH_get] at hj
    by_cases e : id = j
    · subst e
      rw [if_pos rfl, hB] at hj
      simp at hj; subst hj
      obtain ⟨b, o, h1, h2, ⟨xs, fr, h3, h4, h5, h6⟩, h7, h8⟩ := r.blkC (getC_mk hB hce)
      refine ⟨b, o, h1, h2, .inl ⟨xs, fr, h3, h4, by rw [hl]; exact h5, fun i c x hi hx => ?_⟩, h7, h8⟩
      have hlt : i < B.cs.length := by rw [← hl]; exact (List.getElem?_eq_some_iff.1 hi).1
      exact hc i B.cs[i] c x (List.getElem?_eq_getElem hlt) hi (h6 i _ x (List.getElem?_eq_getElem hlt) hx)
    · rw [if_neg e] at hj
      exact r.blk j C hj
  · obtain ⟨C0, h1, h2, _⟩ := back j C hj
    obtain ⟨C1, h3, h4, _⟩ := back j' C' hj'
    exact r.inj j j' C0 C1 b h1 h3 (by rw [h2]; exact hw) hb hb'

theorem Tri.asC {P : Program} {F : Fr} {ds : List Deferred} {m : Nat} {c : Code} {x : XS} {K : AExit → XS → Prop} {id : Nat} {B : Blk} (hB : x.s.h.get id = some B) {cs : List AV} (hl : cs.length = B.cs.length)
    (hc : ∀ (ρ : Ren) (i : Nat) (a c : AV) (x : Value), B.cs[i]? = some a → cs[i]? = some c → Rv ρ a x → Rv ρ c x) (h : Tri P F ds m c (x.setB id cs) K) (hce : B.cell = true := by rfl) : Tri P F ds m c x K := by
  intro ρ a w hs hm hf
  exact h ρ a w ⟨hs.tm, hs.h.recell hB hce hl (hc ρ), hs.ds⟩ hm hf
/-- An exact value told by another form. -/
theorem Rv.other {ρ : Ren} {a c : AV} {x v : Value} (h : Rv ρ a x) (ha : scal a = some v) (hc : scal c = some v) : Rv ρ c x := by
  rw [h.scal_eq ha]
  exact .of_scal hc
end Go.Rq

/- How many bits a number has. -/
namespace Go.Rq.Sm
def bl (n : Nat) : Nat := if n = 0 then 0 else n.log2 + 1

theorem bl_spec {n k : Nat} : bl n ≤ k ↔ n < 2 ^ k := by
  unfold bl
  split
  · rename_i h; subst h; simp; exact Nat.two_pow_pos k
  · rename_i h; rw [← Nat.log2_lt h]; omega
end Go.Rq.Sm

/- What the little curves' functions reckon, of the program and of the reference. -/
namespace Go.Rq.Sm
open Go.Rq

/-- Which of the two little suites. -/
inductive Su where
  | lit
  | mid
  deriving DecidableEq
def suP : Su → Nat
  | .lit => 786251
  | .mid => 1152921504606846223
def suB : Su → BitVec 64
  | .lit => 786251#64
  | .mid => 1152921504606846223#64
def suR : Su → BitVec 64
  | .lit => 65521#64
  | .mid => 72057594037927889#64
def suC : Su → BitVec 64
  | .lit => 12#64
  | .mid => 16#64
def suX : Su → BitVec 64
  | .lit => 9723#64
  | .mid => 613740293506734924#64
def suY : Su → BitVec 64
  | .lit => 164643#64
  | .mid => 666621259561003659#64
theorem suB_nat (s : Su) : (suB s).toNat = suP s := by cases s <;> rfl
theorem suP_pos (s : Su) : 0 < suP s := by cases s <;> decide
abbrev Lp : Type := BitVec 64 × BitVec 64 × Bool
abbrev Op2 : Type := Su → BitVec 64 → BitVec 64 → BitVec 64
abbrev Op1 : Type := Su → BitVec 64 → BitVec 64

/-! The program's. -/
def lMul (s : Su) (a b : BitVec 64) : BitVec 64 := BitVec.ofNat 64 (Nat.mod (Nat.mul a.toNat b.toNat) (suP s))
def lAdd (s : Su) (a b : BitVec 64) : BitVec 64 := (a + b) % suB s
def lSub (s : Su) (a b : BitVec 64) : BitVec 64 := (a + suB s - b) % suB s
def lrF (s : Su) (x : BitVec 64) : BitVec 64 := lAdd s (lMul s (lMul s x x) x) x
def onF (s : Su) (p : Lp) : Bool := bif p.2.2 then (bif p.1 == 0#64 then p.2.1 == 0#64 else false) else
  bif BitVec.ult p.1 (suB s) then (bif BitVec.ult p.2.1 (suB s) then lMul s p.2.1 p.2.1 == lrF s p.1 else false) else false
noncomputable def lPow (s : Su) (a n : BitVec 64) : BitVec 64 := sqF frcU (fun u => lMul s u u) (fun u => lMul s u a) (bitU n) (bl n.toNat) 1#64
noncomputable def lInv (s : Su) (x : BitVec 64) : BitVec 64 := lPow s x (suB s - 2#64)
noncomputable def lSlope (s : Su) (p q : Lp) : BitVec 64 × Bool := bif p.1 != q.1 then (lMul s (lSub s q.2.1 p.2.1) (lInv s (lSub s q.1 p.1)), true) else
  bif p.2.1 != q.2.1 then (0#64, false) else bif p.2.1 == 0#64 then (0#64, false) else
  (lMul s (lAdd s (lAdd s (lAdd s (lMul s p.1 p.1) (lMul s p.1 p.1)) (lMul s p.1 p.1)) 1#64) (lInv s (lAdd s p.2.1 p.2.1)), true)
noncomputable def frcLp {β : Type} (p : Lp) (f : Lp → β) : β := frcU p.1 fun x => frcU p.2.1 fun y => frcB p.2.2 fun z => f (x, y, z)
theorem frcLp_eq {β : Type} (p : Lp) (f : Lp → β) : frcLp p f = f p := by
  unfold frcLp
  rw [frcU_eq, frcU_eq, frcB_eq]
noncomputable def lSum (s : Su) (p q : Lp) : Lp := bif p.2.2 then q else bif q.2.2 then p else frcB (lSlope s p q).2 fun b => bif !b then (0#64, 0#64, true) else
  frcU (lSlope s p q).1 fun m => frcU (lSub s (lSub s (lMul s m m) p.1) q.1) fun x => (x, lSub s (lMul s m (lSub s p.1 x)) p.2.1, false)
def lp0 : Lp := (0#64, 0#64, true)
noncomputable def lTimes (s : Su) (p : Lp) (n : BitVec 64) : Lp := sqF frcLp (fun u => lSum s u u) (fun u => lSum s u p) (bitU n) (bl n.toNat) lp0
noncomputable def inF (s : Su) (p : Lp) : Bool := bif onF s p then (lTimes s p (suR s)).2.2 else false

/-! The reference's. -/
end Go.Rq.Sm
