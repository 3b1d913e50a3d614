/- The iterator that goes backward through a slice of numbers. -/
import Derived.Test.YtcboekjnibppdaaGreatDoorProg
import Derived.Test.YtcboekjnibppdaaGreatDoorRq32
import Derived.RangeFuncLeaves
import Derived.Shelf.Abstract
import Derived.WalkKit
import Derived.OwnWalkIn
import Derived.TacticsInMore
import Derived.LoopNIn
import Derived.LoopIn
import Derived.Test.YtcboekjnibppdaaGreatDoorRq10
import Derived.Test.YtcboekjnibppdaaGreatDoorRq30
import Derived.Test.YtcboekjnibppdaaGreatDoorRq31
import Derived.Test.YtcboekjnibppdaaGreatDoorRq09
namespace Go.Rq
open Go Go.Proofs Go.RowKit Go.Shelf

attribute [local go_sem] Oper.semAt_some

def iGet (i : Value) : Int := match i with
  | .int _ z => z
  | _ => 0

def row6 (cv : Nat → Nat → Value) (j : Nat) : Value := .agg #[cv j 0, cv j 1, cv j 2, cv j 3, cv j 4, cv j 5]

set_option maxRecDepth 100000 in
set_option maxHeartbeats 4000000 in
theorem back_seq (F : Fence) (n : Nat) (hf : F.fn 308) (hro : F.round = none) (hn : 1 ≤ n) (Bs len : Nat) (hl63 : len * 8 ≤ 140737488351232) (cv : Nat → Nat → Value) (Lies : World → Prop)
    (hL : ∀ W, Lies W → ∃ b off cap, W.cell? ⟨Bs, 0, none⟩ = some (.slice (some ⟨b, off, none⟩) len cap) ∧ ∀ j c, j < len → c < 6 → W.cell? ⟨b, off + j * 6 + c, none⟩ = some (cv j c)) :
    SeqAt F n Tryz.prog 308 #[.pointer (some ⟨Bs, 0, none⟩)] (fun k => #[.int .i64 ((len : Int) - 1 - k), row6 cv (len - 1 - k)]) Lies len := by
  intro l J W hLies hY h0
  refine callsIn_of_wp Tryz.func308 rfl hf ?_ hro
  have hnt : Tryz.f308.ntmps = 19 := rfl
  simp only [hnt, List.size_toArray, List.length_cons, List.length_nil, Nat.reduceAdd, Nat.reduceSub, Array.replicate_succ, Array.replicate_zero, List.push_toArray, List.append_toArray, List.nil_append, List.cons_append]
  obtain ⟨b, off, cap, hc0, he0⟩ := hL W (hLies _ _ h0)
  gi_wp2
  gi_loopw [3] (fun i wr => ∃ k : Nat, k ≤ len ∧ i = .int .i64 ((len : Int) - 1 - k) ∧ J k wr) (fun i _ => (iGet i + 1).toNat)
  case atStart =>
    refine ⟨0, Nat.zero_le _, ?_, h0⟩
    simp
  case round =>
    obtain ⟨k, hk, rfl, hJs⟩ := hrel
    obtain ⟨b, off, cap, hc, he⟩ := hL wr (hLies _ _ hJs)
    by_cases hlt : k < len
    · obtain ⟨fn, tmps, assign, body, hy, hR⟩ := hY k wr hJs hlt
      unfold row6 at hy
      have e0 := he (len - 1 - k) 0 (by omega) (by omega)
      have e1 := he (len - 1 - k) 1 (by omega) (by omega)
      have e2 := he (len - 1 - k) 2 (by omega) (by omega)
      have e3 := he (len - 1 - k) 3 (by omega) (by omega)
      have e4 := he (len - 1 - k) 4 (by omega) (by omega)
      have e5 := he (len - 1 - k) 5 (by omega) (by omega)
      rw [Nat.add_zero] at e0
      gi_wp2
      refine hR.mono ?_
      rintro e W3 ⟨rfl, hJ3⟩
      gi_wp2
      go_roundw
      case rel =>
        refine ⟨k + 1, by omega, ?_, hJ3⟩
        rw [show (len : Int) - 1 - k - 1 = (len : Int) - 1 - ((k + 1 : Nat) : Int) by omega]
      case measure =>
        simp only [iGet]
        omega
    · obtain rfl : k = len := by omega
      gi_wp2
      go_end0
      exact ⟨⟨_, rfl⟩, hJs⟩
end Go.Rq

/- A polynomial's value: what is read of the coefficients, backward. -/
namespace Go.Rq
open Go Go.Proofs Go.RowKit Go.Shelf

attribute [local go_sem] Oper.semAt_some

set_option maxHeartbeats 1000000 in
theorem bw_in (F : Fence) (n : Nat) (hf : F.fn 266) (hro : F.round = none) (a : Option Addr) (len cap : Nat) (w : World) :
    CallsIn F n Tryz.prog 266 #[.slice a len cap] w fun e w' => e = .returned (.func (.func 308) #[] #[.pointer (some ⟨w.heap.size, 0, none⟩)]) ∧ w' = w.alloc (.cells #[.slice a len cap] 27) := by
  refine callsIn_of_wp Tryz.func266 rfl hf ?_ hro
  have hnt : Tryz.f266.ntmps = 4 := rfl
  simp only [hnt, List.size_toArray, List.length_cons, List.length_nil, Nat.reduceAdd, Nat.reduceSub, Array.replicate_succ, Array.replicate_zero, List.push_toArray, List.append_toArray, List.nil_append, List.cons_append]
  gi_wp2
  go_ret
  exact ⟨rfl, rfl⟩

/-- Is it a slice? -/
def isSlc : AV → Bool
  | .slc _ _ _ _ => true
  | .own _ _ _ _ => true
  | .v (.slice none 0 0) => true
  | _ => false
theorem isSlc_spec {ρ : Ren} {a : AV} {v : Value} (h : isSlc a = true) (hv : Rv ρ a v) : ∃ b len cap, v = .slice b len cap := by
  unfold isSlc at h
  split at h
  · cases hv; exact ⟨_, _, _, rfl⟩
  · cases hv <;> exact ⟨_, _, _, rfl⟩
  · cases hv; exact ⟨_, _, _, rfl⟩
  · cases h

def bwL (args : List AV) (z : Nat) : Option (Bool × AV × Blk) := match args with
  | [a] => match isSlc a with
    | true => some (true, .fn (.func 308) [] [.ptr z 0], ⟨true, 27, [a]⟩)
    | false => none
  | _ => none
theorem bwL_ok : LayOk PR 266 bwL := by
  refine ⟨fun F ρ args xs h z r B w hg hx hw hz => ?_⟩
  unfold bwL at hg
  split at hg
  · rename_i a
    split at hg
    · rename_i hs
      simp only [Option.some.injEq, Prod.mk.injEq, true_and] at hg
      obtain ⟨rfl, rfl⟩ := hg
      obtain ⟨v, ys, rfl, hv, hys⟩ := hx.uncons
      obtain rfl := hys.unnil
      obtain ⟨b, len, cap, rfl⟩ := isSlc_spec hs hv
      have hc := callsIn_wide.1 (bw_in Fence.wide 0 trivial rfl b len cap w)
      refine Calls.mono hc ?_
      rintro e w' ⟨rfl, rfl⟩
      have hle := Ren.le_upd (b := w.heap.size) (n := 1) hz
      refine ⟨_, ρ.upd z w.heap.size 1, rfl, hle, fun j hj => Ren.upd_ne ρ hj, ?_, ?_⟩
      · refine .fn (by simp) (fun i a x h => by simp at h) (by simp) (fun i a x h1 h2 => ?_)
        match i with
        | 0 =>
          simp at h1 h2
          subst h1; subst h2
          exact Rv.ptrU
        | i + 1 => simp at h1
      · have := hw.allocP hz true 27 [a] [.slice b len cap] (by simp) (fun i q x h1 h2 => by
          match i with
          | 0 => simp at h1 h2; subst h1; subst h2; exact hv
          | i + 1 => simp at h1)
        simpa using this
    · cases hg
  · cases hg
end Go.Rq

/- A polynomial's value: the run. -/
namespace Go.Rq
open Go Go.Proofs Go.RowKit

/-- A function of three, under a condition. -/
def fnP3 {α γ δ β : Type} (A : Cod α) (C : Cod γ) (D : Cod δ) (B : Cod β) (ok : α → γ → δ → Bool) (F : α → γ → δ → β) : List AV → Option (Bool × AV)
  | [a, c, d] => match A.dec a, C.dec c, D.dec d with
    | some x, some y, some z => some (ok x y z, B.enc (F x y z))
    | _, _, _ => none
  | _ => none

/-- The parts of a function that ranges over an iterator. -/
structure RP where
  a : Code
  b : Code
  c : Code
  d : Code
  asg : Code
  bd : Code
  id : Nat
  g : Operand
  ps : Array Tmp
def partsR : Code → RP
  | .seq a (.seq b (.seq (.seq c (.block id (.rangeFunc g ps asg bd))) d)) => ⟨a, b, c, d, asg, bd, id, g, ps⟩
  | _ => ⟨.skip, .skip, .skip, .skip, .skip, .skip, 0, .tmp 0, #[]⟩
def xget : Tree (AExit × XS) → XS
  | .leaf r => r.2
  | .need _ t => xget t
  | .br _ t _ => xget t
  | .same _ _ t => xget t
  | .fail => ⟨⟨[], [], false⟩, 0⟩

def kS : Cod Int := (cInt .i64).agg
abbrev OpS : Type := Int → W6 → W6 → W6
abbrev OkS : Type := Int → W6 → W6 → Bool
def eV (kA kM : OkS) (A M : OpS) : Env := envD eqsT [(263, fnP3 kS c6.agg c6.agg c6.agg kA A), (264, fnP3 kS c6.agg c6.agg c6.agg kM M)] [] [(266, bwL)] [] [] false []
@[irreducible] noncomputable def vP : RP := partsR (bodyOf PR 207)
section
variable (kA kM : OkS) (A M : OpS)
@[irreducible] noncomputable def vA (s : Int) (S : SA) (cap : Nat) (h0 : AH) (x : W6) : XS := xget (exec PR (eV kA kM A M) [] (fun _ => none) 10 vP.a ⟨⟨[kS.enc s, S.at 0 cap, c6.agg.enc x] ++ undefs 19, h0, true⟩, 1⟩).strict
@[irreducible] noncomputable def vB (s : Int) (S : SA) (cap : Nat) (h0 : AH) (x : W6) : XS := xget (exec PR (eV kA kM A M) [] (fun _ => none) 10 vP.b (vA kA kM A M s S cap h0 x)).strict
@[irreducible] noncomputable def vC (s : Int) (S : SA) (cap : Nat) (h0 : AH) (x : W6) : XS := xget (exec PR (eV kA kM A M) [] (fun _ => none) 10 vP.c (vB kA kM A M s S cap h0 x)).strict
/-- What lies between two rounds. -/
def vSt (s : Int) (S : SA) (cap : Nat) (x o : W6) : AH := [(1, some ⟨true, 259, (cInt .i64).enc s⟩), (4097, some ⟨true, 31, c6.enc x⟩), (8193, some ⟨true, 31, c6.enc zeroW⟩), (12289, some ⟨true, 31, c6.enc o⟩), (20481, some ⟨true, 27, [S.at 0 cap]⟩)]
def vTm (s : Int) (S : SA) (cap : Nat) (x : W6) : List AV := [kS.enc s, S.at 0 cap, c6.agg.enc x, .ptr 1 0, .v undef, .ptr 4097 0, .ptr 8193 0, .ptr 12289 0, .v undef, .v undef, S.at 0 cap, .fn (.func 308) [] [.ptr 20481 0]] ++ undefs 10
@[irreducible] noncomputable def vY (s : Int) (S : SA) (cap : Nat) (x o : W6) (i : Int) (c : W6) : XS := xget (exec PR (eV kA kM A M) [] (fun _ => none) 10 vP.asg ⟨⟨setAll (vTm s S cap x) vP.ps.toList [.v (.int .i64 i), c6.agg.enc c], vSt s S cap x o, true⟩, 24577⟩).strict
@[irreducible] noncomputable def vZ (s : Int) (S : SA) (cap : Nat) (x o : W6) (i : Int) (c : W6) : XS := xget (exec PR (eV kA kM A M) [] (fun _ => none) 10 vP.bd (vY kA kM A M s S cap x o i c))
@[irreducible] noncomputable def vW (s : Int) (S : SA) (cap : Nat) (x o : W6) : XS := xget (exec PR (eV kA kM A M) [] (fun _ => none) 10 vP.d ⟨⟨vTm s S cap x, vSt s S cap x o, true⟩, 24577⟩).strict
/-- All blocks of a heap hold cells. -/
def cellsB : AH → Bool
  | [] => true
  | (_, none) :: t => cellsB t
  | (_, some B) :: t => B.cell && cellsB t
def okBk (n : Nat) : Option Blk → Bool
  | some B => allLt n B.cs
  | none => true
/-- A heap's blocks lie in another one. -/
def inH2 (n : Nat) : AH → AH → Prop
  | [], _ => True
  | (i, b) :: t, h => AH.get h i = b ∧ okBk n b = true ∧ inH2 n t h

set_option maxRecDepth 1000000 in
theorem v_a (s : Int) (S : SA) (cap : Nat) (h0 : AH) (x : W6) (hS : S ≠ .nil) : (exec PR (eV kA kM A M) [] (fun _ => none) 10 vP.a ⟨⟨[kS.enc s, S.at 0 cap, c6.agg.enc x] ++ undefs 19, h0, true⟩, 1⟩).strict = .leaf (.normal, vA kA kM A M s S cap h0 x) := by
  cases S with
  | nil => exact absurd rfl hS
  | slc n => kernel_rfl
  | own es n => kernel_rfl
set_option maxRecDepth 1000000 in
theorem v_b (s : Int) (S : SA) (cap : Nat) (h0 : AH) (x : W6) (hS : S ≠ .nil) : (exec PR (eV kA kM A M) [] (fun _ => none) 10 vP.b (vA kA kM A M s S cap h0 x)).strict = .leaf (.normal, vB kA kM A M s S cap h0 x) := by
  cases S with
  | nil => exact absurd rfl hS
  | slc n => kernel_rfl
  | own es n => kernel_rfl
set_option maxRecDepth 1000000 in
theorem v_c (s : Int) (S : SA) (cap : Nat) (h0 : AH) (x : W6) (hS : S ≠ .nil) : (exec PR (eV kA kM A M) [] (fun _ => none) 10 vP.c (vB kA kM A M s S cap h0 x)).strict = .leaf (.normal, vC kA kM A M s S cap h0 x) := by
  cases S with
  | nil => exact absurd rfl hS
  | slc n => kernel_rfl
  | own es n => kernel_rfl
set_option maxRecDepth 1000000 in
theorem v_ctm (s : Int) (S : SA) (cap : Nat) (h0 : AH) (x : W6) (hS : S ≠ .nil) : (vC kA kM A M s S cap h0 x).s.tm = vTm s S cap x ∧ (vC kA kM A M s S cap h0 x).n = 24577 := by
  cases S with
  | nil => exact absurd rfl hS
  | slc n => exact ⟨by kernel_rfl, by kernel_rfl⟩
  | own es n => exact ⟨by kernel_rfl, by kernel_rfl⟩
set_option maxRecDepth 1000000 in
theorem v_ch (s : Int) (S : SA) (cap : Nat) (h0 : AH) (x : W6) (hS : S ≠ .nil) : inH2 24577 (vSt s S cap x zeroW) (vC kA kM A M s S cap h0 x).s.h := by
  cases S with
  | nil => exact absurd rfl hS
  | slc n => exact ⟨by kernel_rfl, by kernel_rfl, by kernel_rfl, by kernel_rfl, by kernel_rfl, by kernel_rfl, by kernel_rfl, by kernel_rfl, by kernel_rfl, by kernel_rfl, trivial⟩
  | own es n => exact ⟨by kernel_rfl, by kernel_rfl, by kernel_rfl, by kernel_rfl, by kernel_rfl, by kernel_rfl, by kernel_rfl, by kernel_rfl, by kernel_rfl, by kernel_rfl, trivial⟩
set_option maxRecDepth 1000000 in
theorem v_y (s : Int) (S : SA) (cap : Nat) (x o : W6) (i : Int) (c : W6) (hS : S ≠ .nil) : (exec PR (eV kA kM A M) [] (fun _ => none) 10 vP.asg ⟨⟨setAll (vTm s S cap x) vP.ps.toList [.v (.int .i64 i), c6.agg.enc c], vSt s S cap x o, true⟩, 24577⟩).strict = .leaf (.normal, vY kA kM A M s S cap x o i c) := by
  cases S with
  | nil => exact absurd rfl hS
  | slc n => kernel_rfl
  | own es n => kernel_rfl
set_option maxRecDepth 1000000 in
theorem v_yc (s : Int) (S : SA) (cap : Nat) (x o : W6) (i : Int) (c : W6) (hS : S ≠ .nil) : cellsB (vY kA kM A M s S cap x o i c).s.h = true := by
  cases S with
  | nil => exact absurd rfl hS
  | slc n => kernel_rfl
  | own es n => kernel_rfl
set_option maxRecDepth 1000000 in
theorem v_z (s : Int) (S : SA) (cap : Nat) (x o : W6) (i : Int) (c : W6) (hS : S ≠ .nil) : Tree.but [0] 0 (exec PR (eV kA kM A M) [] (fun _ => none) 10 vP.bd (vY kA kM A M s S cap x o i c)) =
    .need (kA s (M s o x) c && (kM s o x && true)) (.leaf (.normal, vZ kA kM A M s S cap x o i c)) := by
  cases S with
  | nil => exact absurd rfl hS
  | slc n => kernel_rfl
  | own es n => kernel_rfl
set_option maxRecDepth 1000000 in
theorem v_zh (s : Int) (S : SA) (cap : Nat) (x o : W6) (i : Int) (c : W6) (hS : S ≠ .nil) : inH2 24577 (vSt s S cap x (A s (M s o x) c)) (vZ kA kM A M s S cap x o i c).s.h := by
  cases S with
  | nil => exact absurd rfl hS
  | slc n => exact ⟨by kernel_rfl, by kernel_rfl, by kernel_rfl, by kernel_rfl, by kernel_rfl, by kernel_rfl, by kernel_rfl, by kernel_rfl, by kernel_rfl, by kernel_rfl, trivial⟩
  | own es n => exact ⟨by kernel_rfl, by kernel_rfl, by kernel_rfl, by kernel_rfl, by kernel_rfl, by kernel_rfl, by kernel_rfl, by kernel_rfl, by kernel_rfl, by kernel_rfl, trivial⟩
set_option maxRecDepth 1000000 in
theorem v_w (s : Int) (S : SA) (cap : Nat) (x o : W6) (hS : S ≠ .nil) : (exec PR (eV kA kM A M) [] (fun _ => none) 10 vP.d ⟨⟨vTm s S cap x, vSt s S cap x o, true⟩, 24577⟩).strict = .leaf (.ret, vW kA kM A M s S cap x o) := by
  cases S with
  | nil => exact absurd rfl hS
  | slc n => kernel_rfl
  | own es n => kernel_rfl
set_option maxRecDepth 1000000 in
theorem v_wc (s : Int) (S : SA) (cap : Nat) (x o : W6) (hS : S ≠ .nil) : cellsB (vW kA kM A M s S cap x o).s.h = true := by
  cases S with
  | nil => exact absurd rfl hS
  | slc n => kernel_rfl
  | own es n => kernel_rfl
set_option maxRecDepth 1000000 in
theorem v_wr (s : Int) (S : SA) (cap : Nat) (x o : W6) (hS : S ≠ .nil) : resAll PR (vW kA kM A M s S cap x o).s.tm (vW kA kM A M s S cap x o).s.h Tryz.f207.results.toList = some [c6.agg.enc o] := by
  cases S with
  | nil => exact absurd rfl hS
  | slc n => kernel_rfl
  | own es n => kernel_rfl
end
end Go.Rq

/- A polynomial's value: the contract. -/
namespace Go.Rq
open Go Go.Proofs Go.RowKit

theorem cellsB_spec : ∀ {h : AH}, cellsB h = true → cellsH h
  | [], _, id, B, e => by simp [AH.get] at e
  | (i, b) :: t, hc, id, B, e => by
    rw [AH.get_cons] at e
    cases b with
    | none =>
      simp only [cellsB] at hc
      split at e
      · cases e
      · exact cellsB_spec hc id B e
    | some C =>
      simp only [cellsB, Bool.and_eq_true] at hc
      split at e
      · simp at e; subst e; exact hc.1
      · exact cellsB_spec hc.2 id B e
theorem inH2_spec {n : Nat} {h : AH} : ∀ {l : AH}, inH2 n l h → ∀ id B, l.get id = some B → h.get id = some B ∧ allLt n B.cs = true
  | [], _, id, B, e => by simp [AH.get] at e
  | (i, b) :: t, ⟨h1, h2, h3⟩, id, B, e => by
    rw [AH.get_cons] at e
    split at e
    · rename_i hi
      subst hi; subst e
      exact ⟨h1, h2⟩
    · exact inH2_spec h3 id B e

/-- The values, from the last coefficient on; and whether all that is asked holds. -/
def valF (A M : OpS) (s : Int) (x : W6) : List W6 → W6
  | [] => zeroW
  | c :: t => A s (M s (valF A M s x t) x) c
def valOk (kA kM : OkS) (A M : OpS) (s : Int) (x : W6) : List W6 → Bool
  | [] => true
  | c :: t => valOk kA kM A M s x t && (kM s (valF A M s x t) x && kA s (M s (valF A M s x t) x) c)

theorem drop_cons {l : List W6} {k : Nat} (h : k < l.length) : l.drop (l.length - (k + 1)) = l.getD (l.length - 1 - k) zeroW :: l.drop (l.length - k) := by
  have e : l.length - (k + 1) < l.length := by omega
  rw [List.drop_eq_getElem_cons e, show l.length - (k + 1) + 1 = l.length - k by omega]
  congr 1
  rw [List.getD_eq_getElem?_getD, show l.length - 1 - k = l.length - (k + 1) by omega, List.getElem?_eq_getElem e]
  rfl
theorem valOk_at {kA kM : OkS} {A M : OpS} {s : Int} {x : W6} {l : List W6} (h : valOk kA kM A M s x l = true) : ∀ j, valOk kA kM A M s x (l.drop j) = true := by
  induction l with
  | nil => intro j; simpa using h
  | cons c t ih =>
    intro j
    simp only [valOk, Bool.and_eq_true] at h
    cases j with
    | zero => simp only [List.drop_zero, valOk, Bool.and_eq_true]; exact h
    | succ j => exact ih h.1 j

theorem encL_get {α : Type} {C : CC α} : ∀ (l : List α) (j c : Nat) (d : α), j < l.length → c < C.n → (encL C l)[j * C.n + c]? = (C.enc (l.getD j d))[c]?
  | [], j, c, d, h, _ => by simp at h
  | x :: t, 0, c, d, h, hc => by
    simp only [encL, Nat.zero_mul, Nat.zero_add]
    rw [List.getElem?_append_left (by rw [C.len]; exact hc)]
    rfl
  | x :: t, j + 1, c, d, h, hc => by
    simp only [encL]
    rw [List.getElem?_append_right (by rw [C.len, Nat.add_mul]; omega), C.len, show (j + 1) * C.n + c - C.n = j * C.n + c by rw [Nat.add_mul]; omega, encL_get t j c d (by simpa using h) hc]
    rfl

def cellV (l : List W6) (j c : Nat) : Value := (c6.val (l.getD j zeroW)).getD c undef
theorem row6_val (l : List W6) (j : Nat) : row6 (cellV l) j = c6.agg.val (l.getD j zeroW) := rfl
theorem c6_at (x : W6) (c : Nat) (hc : c < 6) (a : AV) (h : (c6.enc x)[c]? = some a) {ρ : Ren} {u : Value} (hu : Rv ρ a u) : u = (c6.val x).getD c undef := by
  have e : c = 0 ∨ c = 1 ∨ c = 2 ∨ c = 3 ∨ c = 4 ∨ c = 5 := by omega
  rcases e with rfl | rfl | rfl | rfl | rfl | rfl <;> (simp [c6] at h; subst h; cases hu; rfl)

theorem get_key {id : Nat} {B : Blk} : ∀ {h : AH}, h.get id = some B → id ∈ h.map (·.1)
  | [], e => by simp [AH.get] at e
  | (i, b) :: t, e => by
    rw [AH.get_cons] at e
    split at e
    · rename_i hi; simp [hi]
    · simp only [List.map_cons, List.mem_cons]; exact .inr (get_key e)
theorem cell_is {w : World} {b off : Nat} {xs : Array Value} {ty : TypeId} {fr : Nat × Nat} {v : Value} (hb : w.heap[b]? = some (.cells xs ty fr)) (hv : xs[off]? = some v) : w.cell? ⟨b, off, none⟩ = some v := by
  unfold World.cell?
  simp only [hb]
  exact hv

set_option maxRecDepth 1000000 in
/-- A slice that is handed, whose cells are known in all later worlds. -/
theorem value_calls {kA kM : OkS} {A M : OpS} (hA : CallOk PR 263 (fnP3 kS c6.agg c6.agg c6.agg kA A)) (hM : CallOk PR 264 (fnP3 kS c6.agg c6.agg c6.agg kM M))
    {W : World} (hg : GW W) {X : Hd} {v : Value} (hX : HandS W X v) {S : SA} (hS : S ≠ .nil) (hXs : X.s = S) {l : List W6} (hXc : X.cs = encL c6 l) (hl : l.length = S.len) (hlen : l.length * 8 ≤ 140737488351232)
    (s : Int) (x : W6) (hok : valOk kA kM A M s x l = true) :
    Calls PR 207 #[kS.val s, v, c6.agg.val x] W (fun e w' => e = .returned (c6.agg.val (valF A M s x l)) ∧ Below W.heap.size W w') := by
  have hE : EnvOk PR (eV kA kM A M) := envD_ok eqsT_ok (TabPOk.cons hA (TabPOk.cons hM TabPOk.nil)) TabHOk.nil
    (TabLOk.cons (enters_of (fn := Tryz.f266) (by kernel_rfl) (by kernel_rfl) (by kernel_rfl)) bwL_ok TabLOk.nil) TabDOk.nil
  have hW := hRW hg (w := W) (l := [X]) (fun y hy => by simp only [List.mem_singleton] at hy; subst hy; exact ⟨_, hX⟩)
  have hheap : hHeap 0 [X] = hpS 0 S X.t (encL c6 l) := by
    rw [← hXs, ← hXc]
    show hpS 0 X.s X.t X.cs ++ [] = _
    rw [List.append_nil]
  rw [hheap] at hW
  have r1 : Rv (hRen [X]) (S.at 0 X.cap) v := by have := hRen_at (l := [X]) (j := 0) rfl hX; rw [hXs] at this; exact this
  have hx : Rvs (hRen [X]) [kS.enc s, S.at 0 X.cap, c6.agg.enc x] [kS.val s, v, c6.agg.val x] := .cons (.of_flat (kS.h1 s)) (.cons r1 (.cons (.of_flat (c6.agg.h1 x)) .nil))
  obtain ⟨b0, xs0, fr0, q1, q2, q3, q4, q5⟩ := hX.blk (by rw [hXs]; exact hS)
  have stepO : ∀ k, k < l.length → valF A M s x (l.drop (l.length - (k + 1))) = A s (M s (valF A M s x (l.drop (l.length - k))) x) (l.getD (l.length - 1 - k) zeroW) := fun k hk => by rw [drop_cons hk]; rfl
  have stepK : ∀ k, k < l.length → (kA s (M s (valF A M s x (l.drop (l.length - k))) x) (l.getD (l.length - 1 - k) zeroW) && (kM s (valF A M s x (l.drop (l.length - k))) x && true)) = true := fun k hk => by
    have := valOk_at hok (l.length - (k + 1))
    rw [drop_cons hk] at this
    simp only [valOk, Bool.and_eq_true] at this
    simp only [this.2.1, this.2.2, Bool.and_true]
  have hcall := range_calls hE mixed (lf := 10) (f := 207) (fn := Tryz.f207) (ca := vP.a) (cb := vP.b) (cc := vP.c) (cd := vP.d) (id := vP.id) (g := vP.g) (ps := vP.ps) (asg := vP.asg) (bd := vP.bd) (gf := 308) (N := l.length)
    (by kernel_rfl) (by kernel_rfl) (by kernel_rfl) (by kernel_rfl) (by kernel_rfl) (by kernel_rfl) (by kernel_rfl) (by kernel_rfl) (by kernel_rfl) (by kernel_rfl)
    (args := [kS.enc s, S.at 0 X.cap, c6.agg.enc x]) (h0 := hpS 0 S X.t (encL c6 l)) (n0 := 1) (xa := vA kA kM A M s S X.cap (hpS 0 S X.t (encL c6 l)) x) (xb := vB kA kM A M s S X.cap (hpS 0 S X.t (encL c6 l)) x) (xc := vC kA kM A M s S X.cap (hpS 0 S X.t (encL c6 l)) x)
    (tm := vTm s S X.cap x) (n1 := 24577) (st := fun k => vSt s S X.cap x (valF A M s x (l.drop (l.length - k)))) (es := fun k => [.v (.int .i64 ((l.length : Int) - 1 - k)), c6.agg.enc (l.getD (l.length - 1 - k) zeroW)])
    (ya := fun k => vY kA kM A M s S X.cap x (valF A M s x (l.drop (l.length - k))) ((l.length : Int) - 1 - k) (l.getD (l.length - 1 - k) zeroW)) (rv := c6.agg.val (valF A M s x l))
    (Tree.holds_strict (by rw [show Tryz.f207.ntmps - [kS.enc s, S.at 0 X.cap, c6.agg.enc x].length = 19 from rfl, v_a kA kM A M s S X.cap _ x hS]; rfl)) (Tree.holds_strict (by rw [v_b kA kM A M s S X.cap _ x hS]; rfl)) (Tree.holds_strict (by rw [v_c kA kM A M s S X.cap _ x hS]; rfl))
    (v_ctm kA kM A M s S X.cap _ x hS).1 (v_ctm kA kM A M s S X.cap _ x hS).2 (fun id B hB => by
      have e : l.drop (l.length - 0) = [] := by simp
      simp only [e] at hB
      exact (inH2_spec (v_ch kA kM A M s S X.cap _ x hS) id B hB).1)
    (fun k => cellsB_spec (by cases S with
      | nil => exact absurd rfl hS
      | slc n => rfl
      | own es n => rfl)) (fun k id B hB => ?lt) (fun k hk => cellsB_spec (v_yc kA kM A M s S X.cap x _ _ _ hS))
    (fun k hk => Tree.holds_strict (by rw [v_y kA kM A M s S X.cap x _ _ _ hS]; rfl))
    (fun k hk => Tree.holds_but (l := [0]) (i := 0) (by
      rw [v_z kA kM A M s S X.cap x _ _ _ hS]
      refine ⟨stepK k hk, rfl, fun id B hB => ?_⟩
      simp only [stepO k hk] at hB
      exact inH2_spec (v_zh kA kM A M s S X.cap x _ _ _ hS) id B hB))
    (Tree.holds_strict (by
      have e : l.drop (l.length - l.length) = l := by simp
      simp only [e]
      rw [v_w kA kM A M s S X.cap x _ hS]
      exact ⟨.inl rfl, cellsB_spec (v_wc kA kM A M s S X.cap x _ hS), _, v_wr kA kM A M s S X.cap x _ hS, c6.agg.h1 _⟩))
    hx hW (fun id hid => hRen_none id (by simpa using hid))
    (callFunc_run (enters_of (fn := Tryz.f308) (by kernel_rfl) (by kernel_rfl) (by kernel_rfl)))
    ?it
  case lt =>
    have : id ∈ [1, 4097, 8193, 12289, 20481] := get_key hB
    simp at this
    omega
  case it =>
    intro ρ1 a w1 hs hp
    have hgv : vP.g = .tmp 11 := by kernel_rfl
    have hev := look_ok hs.tm (.tmp 11)
    have hlk : look (vTm s S X.cap x) (.tmp 11) = .fn (.func 308) [] [.ptr 20481 0] := rfl
    rw [show (⟨vTm s S X.cap x, vSt s S X.cap x (valF A M s x (l.drop (l.length - 0))), true⟩ : St).tm = vTm s S X.cap x from rfl, hlk] at hev
    obtain ⟨xs, ys, e1, e2, e3⟩ := hev.fn_iff
    obtain ⟨p, zs, e4, e5, e6⟩ := e3.uncons
    have e2 : xs = #[] := by
      have := e2.unnil
      exact Array.toList_eq_nil_iff.1 this
    have e6 := e6.unnil
    subst e6
    obtain ⟨Bs, hBs, hpv⟩ : ∃ Bs, ρ1 20481 = some Bs ∧ p = .pointer (some ⟨Bs, ρ1.base 20481 + 0, none⟩) := by
      cases e5 with
      | ptr hb => exact ⟨_, hb, rfl⟩
    have box : ∀ {F : Fr} {k : Nat} {ρ' : Ren} {W' : World}, RW F ρ' (vSt s S X.cap x (valF A M s x (l.drop (l.length - k)))) W' → ∃ b xs1 fr1, ρ' 20481 = some b ∧ ρ'.base 20481 = 0 ∧ W'.heap[b]? = some (.cells xs1 27 fr1) ∧ ∃ x0, xs1[0]? = some x0 ∧ Rv ρ' (S.at 0 X.cap) x0 := by
      intro F k ρ' W' r
      obtain ⟨b, o', g1, g2, ⟨xs1, fr1, rfl, g3, g4, g5⟩, g6, g7⟩ := r.blkC (id := 20481) (B := ⟨true, 27, [S.at 0 X.cap]⟩) (getC_mk rfl (by cases S <;> first | rfl | exact absurd rfl hS))
      have g0 := (g3 rfl).2
      rw [g0] at g4 g5
      simp only [List.length_cons, List.length_nil, Nat.zero_add] at g4
      have hx0 : xs1[0]? = some (xs1[0]'(by omega)) := Array.getElem?_eq_getElem (by omega)
      exact ⟨b, xs1, fr1, g1, g0, g2, _, hx0, g5 0 _ _ rfl (by rw [Nat.zero_add]; exact hx0)⟩
    have hb0 : ρ1.base 20481 = 0 := by
      obtain ⟨_, _, _, _, h, _⟩ := box (k := 0) hs.h
      exact h
    rw [hb0, Nat.zero_add] at hpv
    have hlb : ys = #[.pointer (some ⟨Bs, 0, none⟩)] := by
      apply Array.ext'
      rw [e4, hpv]
    refine ⟨#[.pointer (some ⟨Bs, 0, none⟩)], fun k => #[.int .i64 ((l.length : Int) - 1 - k), row6 (cellV l) (l.length - 1 - k)],
      fun W' => ∃ b off cap, W'.cell? ⟨Bs, 0, none⟩ = some (.slice (some ⟨b, off, none⟩) l.length cap) ∧ ∀ j c, j < l.length → c < 6 → W'.cell? ⟨b, off + j * 6 + c, none⟩ = some (cellV l j c),
      ?_, fun k hk => ?_, fun k hk => ?_, ?_, fun k ρ' W' r he => ?_⟩
    · rw [hgv, e1, e2, hlb]
    · rw [show vP.ps.size = 2 by kernel_rfl]; rfl
    · exact .cons (.v _) (.cons (by rw [row6_val]; exact .of_flat (c6.agg.h1 _)) .nil)
    · exact back_seq Fence.wide 2 trivial rfl (by omega) Bs l.length hlen (cellV l) _ (fun W' h => h)
    · obtain ⟨b, xs1, fr1, h1, h2, h3, x0, h4, h5⟩ := box r
      have hbB : b = Bs := by
        have := (he 20481 (by omega)).f
        rw [h1, hBs] at this
        exact Option.some.inj this
      subst hbB
      have hz : ρ1 0 = some b0 := (hp 0 (by omega)).f.trans q1
      have hz' : ρ' 0 = some b0 := (he 0 (by omega)).f.trans hz
      have hzb : ρ'.base 0 = X.base := (((he 0 (by omega)).cells b0 hz).2).trans ((hp 0 (by omega)).cells b0 q1).2
      have hW0 : W'.heap[b0]? = some (.cells xs0 X.t fr0) := r.fr b0 _ q2
      have slice : ∃ cap', x0 = .slice (some ⟨b0, X.base, none⟩) l.length cap' := by
        rw [hl]
        cases S with
        | nil => exact absurd rfl hS
        | slc n =>
          simp only [SA.at] at h5
          cases h5 with
          | slc hb =>
            rw [hz'] at hb; simp at hb; subst hb
            rw [hzb]
            exact ⟨_, rfl⟩
        | own es n =>
          simp only [SA.at] at h5
          cases h5 with
          | own hb g0 _ _ _ =>
            rw [hz'] at hb; simp at hb; subst hb
            rw [hzb] at g0
            rw [g0, Nat.zero_mul]
            exact ⟨_, rfl⟩
          | ownE _ hk => exact absurd hk (Nat.lt_irrefl 0)
      obtain ⟨cap', rfl⟩ := slice
      refine ⟨b0, X.base, cap', cell_is h3 h4, fun j c hj hc => ?_⟩
      have hlen6 : X.cs.length = 6 * l.length := by rw [hXc, encL_len]; rfl
      have hin : X.base + (j * 6 + c) < xs0.size := by omega
      have hu : xs0[X.base + (j * 6 + c)]? = some (xs0[X.base + (j * 6 + c)]'hin) := Array.getElem?_eq_getElem hin
      rw [show X.base + j * 6 + c = X.base + (j * 6 + c) by omega]
      refine cell_is hW0 (hu.trans (congrArg some ?_))
      have hgt : (encL c6 l)[j * 6 + c]? = (c6.enc (l.getD j zeroW))[c]? := encL_get (C := c6) l j c zeroW hj hc
      have hce : (c6.enc (l.getD j zeroW)).length = 6 := rfl
      have hca : (c6.enc (l.getD j zeroW))[c]? = some ((c6.enc (l.getD j zeroW))[c]'(by omega)) := List.getElem?_eq_getElem (by omega)
      exact c6_at _ c hc _ hca (q5 ρ' (j * 6 + c) _ _ (by rw [hXc, hgt]; exact hca) hu)
  exact Calls.mono hcall (by
    rintro e w' ⟨ρ', h', rfl, hr⟩
    exact ⟨rfl, hr.to_below⟩)

def notNil : SA → Bool
  | .nil => false
  | _ => true
def valG (kA kM : OkS) (A M : OpS) (args : List AV) (h : AH) : Option (Bool × AV × AH) := match args with
  | [a, b, c] => match kS.dec a, readS b h, c6.agg.dec c with
    | some s, some (S, cs), some x => match decL c6 S.len cs with
      | some l => some (notNil S && (Nat.ble (l.length * 8) 140737488351232 && valOk kA kM A M s x l), c6.agg.enc (valF A M s x l), [])
      | none => none
    | _, _, _ => none
  | _ => none

theorem valG_key {kA kM : OkS} {A M : OpS} {args : List AV} {h : AH} {o : Bool × AV × AH} (hg : valG kA kM A M args h = some o) : ∃ a b c s S cs x l, args = [a, b, c] ∧ kS.dec a = some s ∧ readS b h = some (S, cs) ∧ c6.agg.dec c = some x ∧ decL c6 S.len cs = some l ∧
    o = (notNil S && (Nat.ble (l.length * 8) 140737488351232 && valOk kA kM A M s x l), c6.agg.enc (valF A M s x l), []) := by
  unfold valG at hg
  split at hg
  · rename_i a b c
    split at hg
    · rename_i s S cs x h1 h2 h3
      split at hg
      · rename_i l h4
        simp only [Option.some.injEq] at hg
        exact ⟨a, b, c, s, S, cs, x, l, rfl, h1, h2, h3, h4, hg.symm⟩
      · cases hg
    · cases hg
  · cases hg

theorem valG_ok {kA kM : OkS} {A M : OpS} (hA : CallOk PR 263 (fnP3 kS c6.agg c6.agg c6.agg kA A)) (hM : CallOk PR 264 (fnP3 kS c6.agg c6.agg c6.agg kM M)) :
    HeapOk PR 207 (valG kA kM A M) := by
  have again : ∀ {args : List AV} {h h' : AH} {o : Bool × AV × AH}, valG kA kM A M args h = some o → (∀ i, i ∈ idsOf args → ∀ B, h.get i = some B → h'.get i = some B) → valG kA kM A M args h' = some o := by
    intro args h h' o hg hh
    obtain ⟨a, b, c, s, S, cs, x, l, rfl, h1, h2, h3, h4, rfl⟩ := valG_key hg
    have h2' := readS_congr (a := b) (by simp) hh h2
    simp only [valG, h1, h2', h3, h4]
  refine ⟨?_, fun args h h' x hle hg => again hg (fun i _ B hB => hle i B hB), fun ρ args xs z b h x hx hz hg => again hg (fun i hi B hB => by
      rw [AH.get_cons, if_neg (fun e => hx.ids_ne hz i hi e.symm)] at hB; exact hB), fun args h c' r ups hg => ?_, fun args h h' x hh hg => again hg hh⟩
  · intro F ρ args xs h r ups w hg hx hw
    obtain ⟨a, b, c, s, S, cs, x, l, rfl, h1, h2, h3, h4, ho⟩ := valG_key hg
    simp only [Prod.mk.injEq] at ho
    obtain ⟨hok, rfl, rfl⟩ := ho
    have hok := hok.symm
    simp only [Bool.and_eq_true] at hok
    obtain ⟨k1, k2, k3⟩ := hok
    have k2 := Nat.le_of_ble_eq_true k2
    obtain ⟨u, ys, rfl, hu, hys⟩ := hx.uncons
    obtain ⟨v, zs, rfl, hv, hzs⟩ := hys.uncons
    obtain ⟨y, us, rfl, hy, hus⟩ := hzs.uncons
    obtain rfl := hus.unnil
    have e1 := kS.h2 ρ a u s h1 hu
    have e3 := c6.agg.h2 ρ c y x h3 hy
    subst e1; subst e3
    obtain ⟨X, x1, x2, x3⟩ := hand_of hw h2 h4 hv
    have hS : S ≠ .nil := by
      rintro rfl; cases k1
    refine Calls.mono (value_calls hA hM hw.gw x3 hS x1 x2 (decL_len h4) k2 s x k3) ?_
    rintro e w' ⟨rfl, hb⟩
    exact ⟨_, rfl, .of_flat (c6.agg.h1 _), hw.below hb⟩
  · obtain ⟨a, b, c, s, S, cs, x, l, rfl, h1, h2, h3, h4, ho⟩ := valG_key hg
    simp only [Prod.mk.injEq] at ho
    obtain ⟨_, _, rfl⟩ := ho
    simp

/-! Out of functions that are gone through. -/
def opOk (g : List AV → Option (Bool × AV)) : OkS := fun s a b => match g [kS.enc s, c6.agg.enc a, c6.agg.enc b] with
  | some (true, r) => (c6.agg.dec r).isSome
  | _ => false
def opF (g : List AV → Option (Bool × AV)) : OpS := fun s a b => match g [kS.enc s, c6.agg.enc a, c6.agg.enc b] with
  | some (_, r) => (c6.agg.dec r).getD zeroW
  | none => zeroW
theorem op_ok {f : Nat} {g : List AV → Option (Bool × AV)} (hn : Enters PR f) (h : PureOk PR f g) : CallOk PR f (fnP3 kS c6.agg c6.agg c6.agg (opOk g) (opF g)) := by
  refine .inl ⟨hn, fun ρ args xs r hg hx w hw => ?_⟩
  unfold fnP3 at hg
  split at hg
  · rename_i a c d
    split at hg
    · rename_i s x y h1 h2 h3
      simp only [Option.some.injEq, Prod.mk.injEq] at hg
      obtain ⟨hok, rfl⟩ := hg
      obtain ⟨u, ys, rfl, hu, hys⟩ := hx.uncons
      obtain ⟨v, zs, rfl, hv, hzs⟩ := hys.uncons
      obtain ⟨t, us, rfl, ht, hus⟩ := hzs.uncons
      obtain rfl := hus.unnil
      have e1 := kS.h2 ρ a u s h1 hu
      have e2 := c6.agg.h2 ρ c v x h2 hv
      have e3 := c6.agg.h2 ρ d t y h3 ht
      subst e1; subst e2; subst e3
      unfold opOk at hok
      split at hok
      · rename_i r hr
        obtain ⟨z, hz⟩ := Option.isSome_iff_exists.1 hok
        have := h ρ _ [kS.val s, c6.agg.val x, c6.agg.val y] r hr (.cons (.of_flat (kS.h1 s)) (.cons (.of_flat (c6.agg.h1 x)) (.cons (.of_flat (c6.agg.h1 y)) .nil))) w hw
        refine Calls.mono this ?_
        rintro e w' ⟨q, rfl, hq, hb⟩
        have hqv := c6.agg.h2 ρ r q z hz hq
        have hF : opF g s x y = z := by simp [opF, hr, hz]
        refine ⟨q, rfl, ?_, hb⟩
        rw [hF, hqv]
        exact .of_flat (c6.agg.h1 z)
      · cases hok
    · cases hg
  · cases hg
theorem val_ent : Enters PR 207 := enters_of (fn := Tryz.f207) (by kernel_rfl) (by kernel_rfl) (by kernel_rfl)
end Go.Rq

/- An empty row with room. -/
namespace Go.Rq
open Go Go.Proofs Go.RowKit

/-- What a row without cells is grown to, by ten: an empty one with room. -/
def growL (e : TypeId) (es : Nat) (args : List AV) (z : Nat) : Option (Bool × AV × Blk) := match args with
  | [.v (.slice none 0 0), .v (.int .i64 (.ofNat 10))] => some (true, .own z es 0 0, ⟨true, e, []⟩)
  | _ => none

structure GP where
  a : Code
  b : Code
  c : Code
  d : Code
  e : Code
  i5 : Nat
  o5 : Array Oper
def partsG : Code → GP
  | .seq a (.seq b (.seq (.seq c (.seq d (.cond _ (.region i o false) .skip))) e)) => ⟨a, b, c, d, e, i, o⟩
  | _ => ⟨.skip, .skip, .skip, .skip, .skip, 0, #[]⟩
@[irreducible] noncomputable def gP : GP := partsG (bodyOf PR 209)
def xgetG : Tree (AExit × XS) → XS
  | .leaf r => r.2
  | .need _ t => xgetG t
  | .br _ t _ => xgetG t
  | .same _ _ t => xgetG t
  | .fail => ⟨⟨[], [], false⟩, 0⟩
def stG : Option St → St
  | some s => s
  | none => ⟨[], [], false⟩
noncomputable def gE : Env := envOf [] []
theorem gE_ok : EnvOk PR gE := envOf_ok EqsOk.nil TabPOk.nil
@[irreducible] noncomputable def g0 : XS := ⟨⟨[.v (.slice none 0 0), .v (.int .i64 10)] ++ undefs 25, [], true⟩, 0⟩
@[irreducible] noncomputable def ga : XS := xgetG (exec PR gE [] (fun _ => none) 2 gP.a g0).strict
@[irreducible] noncomputable def gb : XS := xgetG (exec PR gE [] (fun _ => none) 2 gP.b ga).strict
@[irreducible] noncomputable def gc : XS := xgetG (exec PR gE [] (fun _ => none) 2 gP.c gb).strict
@[irreducible] noncomputable def gd : XS := xgetG (exec PR gE [] (fun _ => none) 2 gP.d gc).strict
@[irreducible] noncomputable def gs1 : St := stG (runL PR gE (fun _ => none) gd.n gP.o5 [0, 1, 2, 3, 4] gd.s)
@[irreducible] noncomputable def gs2 : St := ⟨gs1.tm.set 22 (.own 18 17 0 10), [(18, some ⟨true, 37, []⟩)], true⟩
@[irreducible] noncomputable def gs3 : St := stG (runL PR gE (fun _ => none) gd.n gP.o5 [6, 7, 8, 9] gs2)
@[irreducible] noncomputable def ge : XS := xgetG (exec PR gE [] (fun _ => none) 2 gP.e ⟨gs3, 23⟩).strict

theorem g_a : (exec PR gE [] (fun _ => none) 2 gP.a g0).strict = .leaf (.normal, ga) := by kernel_rfl
theorem g_b : (exec PR gE [] (fun _ => none) 2 gP.b ga).strict = .leaf (.normal, gb) := by kernel_rfl
theorem g_c : (exec PR gE [] (fun _ => none) 2 gP.c gb).strict = .leaf (.normal, gc) := by kernel_rfl
theorem g_d : (exec PR gE [] (fun _ => none) 2 gP.d gc).strict = .leaf (.normal, gd) := by kernel_rfl
theorem g_s1 : runL PR gE (fun _ => none) gd.n gP.o5 [0, 1, 2, 3, 4] gd.s = some gs1 := by kernel_rfl
theorem g_s3 : runL PR gE (fun _ => none) gd.n gP.o5 [6, 7, 8, 9] gs2 = some gs3 := by kernel_rfl
theorem g_e : (exec PR gE [] (fun _ => none) 2 gP.e ⟨gs3, 23⟩).strict = .leaf (.ret, ge) := by kernel_rfl
theorem g_n : gd.n = 13 := by kernel_rfl
theorem g_k1 : gs1.ok = true := by kernel_rfl
theorem g_k3 : gs3.ok = true := by kernel_rfl
theorem g_cnd : look gd.s.tm (.tmp 16) = .v (.bool true) := by kernel_rfl
theorem g_h : gs1.h = [] := by kernel_rfl
theorem g_t20 : look gs1.tm (.tmp 20) = .v (.slice none 0 0) := by kernel_rfl
theorem g_t21 : look gs1.tm (.tmp 21) = .v (.int .i64 10) := by kernel_rfl
theorem g_size : gP.o5.size = 10 := by kernel_rfl
theorem g_res : resAll PR ge.s.tm ge.s.h Tryz.f209.results.toList = some [.own 18 17 0 0] := by kernel_rfl
theorem g_blk : ge.s.h.get 18 = some ⟨true, 37, []⟩ := by kernel_rfl
theorem g_body : bodyOf PR 209 = .seq gP.a (.seq gP.b (.seq (.seq gP.c (.seq gP.d (.cond (.tmp 16) (.region gP.i5 gP.o5 false) .skip))) gP.e)) := by kernel_rfl
def opAp : Oper → Op := fun o => o.op
def isAp (o : Oper) : Bool := match o.op, o.dst, o.guard with
  | .call ⟨.builtin .append, args, tys⟩, some 22, none => match args.toList, tys.toList with
    | [.tmp 20, .tmp 21], [a, b] => Nat.beq a 22 && Nat.beq b 3
    | _, _ => false
  | _, _, _ => false
theorem isAp_spec {o : Oper} (h : isAp o = true) : o.dst = some 22 ∧ o.guard = none ∧ ∃ c, o.op = .call c ∧ c.callee = .builtin .append ∧ c.args = #[.tmp 20, .tmp 21] ∧ c.argTypes = #[22, 3] := by
  unfold isAp at h
  split at h
  · rename_i args tys h1 h2 h3
    split at h
    · rename_i a b ha hb
      simp only [Bool.and_eq_true] at h
      refine ⟨h2, h3, _, h1, rfl, ?_, ?_⟩
      · apply Array.ext'; simpa using ha
      · apply Array.ext'
        rw [hb, Nat.eq_of_beq_eq_true h.1, Nat.eq_of_beq_eq_true h.2]
    · cases h
  · cases h
theorem g_o5 : (match gP.o5.toList[5]? with | some o => isAp o | none => false) = true := by kernel_rfl
theorem g_u : PR.underlying 22 = some (.slice 37) := by kernel_rfl
theorem g_ui : PR.underlying 3 = some (.int .i64) := by kernel_rfl
noncomputable def gInfo : Option (Nat × Nat × Nat) := match PR.info? 37 with
  | some i => match i.zero with
    | some z => some (i.size, i.bytes, z.cells.size)
    | none => none
  | none => none
theorem g_info : gInfo = some (17, 136, 17) := by kernel_rfl
theorem g_codes : codeOk gE gP.a = true ∧ codeOk gE gP.b = true ∧ codeOk gE gP.c = true ∧ codeOk gE gP.d = true ∧ codeOk gE gP.e = true := ⟨by kernel_rfl, by kernel_rfl, by kernel_rfl, by kernel_rfl, by kernel_rfl⟩
theorem g_g0 : g0.n = 0 ∧ g0.s = ⟨[.v (.slice none 0 0), .v (.int .i64 10)] ++ undefs 25, [], true⟩ := ⟨by kernel_rfl, by kernel_rfl⟩
theorem g_s2 : gs2 = ⟨gs1.tm.set 22 (.own 18 17 0 10), [(18, some ⟨true, 37, []⟩)], true⟩ := by kernel_rfl
theorem g_dh : gd.s.ok = true ∧ gd.s.h = [] := ⟨by kernel_rfl, by kernel_rfl⟩

theorem appends {F0 : Fr} {w : World} {ρ : Ren} (r : RW F0 ρ [] w) (ty : TypeId) (hf : ρ 18 = none) : ∃ v w' ρ', (Builtin.append_ #[22, 3] ty #[.slice none 0 0, .int .i64 10]).run PR w = .ok v w' ∧ ρ.le ρ' ∧ (∀ j, j ≠ 18 → ρ' j = ρ j) ∧ Rv ρ' (.own 18 17 0 10) v ∧ RW F0 ρ' [(18, some ⟨true, 37, []⟩)] w' := by
  have hi := g_info
  unfold gInfo at hi
  split at hi
  · rename_i i hinfo
    split at hi
    · rename_i z hz
      simp only [Option.some.injEq, Prod.mk.injEq] at hi
      obtain ⟨h1, h2, h3⟩ := hi
      have hfit : Builtin.nextslicecap (0 + 10) 0 * i.bytes ≤ 281474976710656 := by
        rw [h2]; decide
      have hr := run_append_zeros (P := PR) w 22 3 ty 37 .i64 i z g_u g_ui hinfo hz none 0 0 [] (by simp [Builtin.firstCells]) .i64 10 (by rw [h1]; decide) (by decide) (by decide) (by rw [h2]; decide) hfit
      have hge := grownCap_ge w 10 0 37
      have hcm := grownCap_le_maxLen w 10 0 37 (by decide)
      obtain ⟨cells, hcells⟩ : ∃ cs, cs = ((#[] : Array Value) ++ Builtin.zeroCells z.cells 10 ++ Builtin.zeroCells z.cells (grownCap w 10 0 37 - 10)) := ⟨_, rfl⟩
      have hsize : cells.size = grownCap w 10 0 37 * 17 := by
        rw [hcells]
        simp only [Array.size_append, size_zeroCells, h3]
        simp only [List.size_toArray, List.length_nil, Nat.zero_add]
        omega
      have r2 := (r.drawn (w.drawn + 1)).allocP hf true 37 [] cells.toList (by simp) (fun i a x ha => by simp at ha)
      refine ⟨.slice (some ⟨w.heap.size, 0, none⟩) 10 (grownCap w 10 0 37), w.drew.alloc (.cells cells 37), ρ.upd 18 w.heap.size cells.toList.length, ?_, Ren.le_upd hf, fun j hj => Ren.upd_ne ρ hj, ?_, ?_⟩
      · rw [hcells]
        simpa using hr
      · have := Rv.own (ρ := ρ.upd 18 w.heap.size cells.toList.length) (id := 18) (es := 17) (k := 0) (len := 10) (b := w.heap.size) (cap := grownCap w 10 0 37)
          (Ren.upd_same _ _ _ _) (Ren.upd_base _ _ _ _) (by rw [Ren.upd_cells]; simpa using hsize.symm) (by omega) hcm
        simpa using this
      · have e : cells.toList.toArray = cells := by simp
        rw [e] at r2
        exact r2
    · cases hi
  · cases hi
theorem grow_run {w : World} (hg : GW w) : Calls PR 209 #[.slice none 0 0, .int .i64 10] w (fun e w' => ∃ v ρ', e = .returned v ∧ Rv ρ' (.own 18 17 0 0) v ∧ RW (frameOf w) ρ' [(18, some ⟨true, 37, []⟩)] w') := by
  have hb : Tryz.f209.body = some (.seq gP.a (.seq gP.b (.seq (.seq gP.c (.seq gP.d (.cond (.tmp 16) (.region gP.i5 gP.o5 false) .skip))) gP.e))) := by
    rw [← g_body]; kernel_rfl
  refine calls_of_wp Tryz.func209 hb ?_
  obtain ⟨c1, c2, c3, c4, c5⟩ := g_codes
  have hs : Sim (frameOf w) [] Ren.empty g0.s { tmps := #[.slice none 0 0, .int .i64 10] ++ Array.replicate (Tryz.f209.ntmps - 2) undef, defers := [] } w := by
    rw [g_g0.2]
    refine ⟨?_, RW.init w _ hg, rfl⟩
    have := (Rvs.cons (ρ := Ren.empty) (Rv.v (.slice none 0 0)) (.cons (.v (.int .i64 10)) .nil)).append (undefs_eq (ρ := Ren.empty) 25)
    simpa [show Tryz.f209.ntmps = 27 from rfl] using this
  have one : ∀ {c : Code} {x y : XS} {ρ : Ren} {a : Act} {w1 : World} {Q : Exit → Act → World → Prop}, codeOk gE c = true → (exec PR gE [] (fun _ => none) 2 c x).strict = .leaf (.normal, y) → Sim (frameOf w) [] ρ x.s a w1 → (∀ id, x.n ≤ id → ρ id = none) →
      (∀ ρ' a' w', Sim (frameOf w) [] ρ' y.s a' w' → (∀ id, y.n ≤ id → ρ' id = none) → Q .normal a' w') → c.wp PR Q a w1 := by
    intro c x y ρ a w1 Q hok he hs hf hQ
    refine wp_mono (exec_sound gE_ok mixed (m := 0) c x (fun e z => (e, z) = (.normal, y)) hok (tabOk_none _) (Tree.holds_strict (by rw [he]; rfl)) ρ a w1 hs (Nat.zero_le _) hf) ?_
    rintro e a' w' ⟨e', z, ρ', hk, he', hs', -, hf', -⟩
    simp only [Prod.mk.injEq] at hk
    obtain ⟨rfl, rfl⟩ := hk
    cases e <;> simp only [AExit.is] at he'
    exact hQ ρ' a' w' hs' hf'
  refine wp_seq (one c1 g_a hs (fun _ _ => rfl) fun ρ1 a1 w1 s1 f1 => ?_)
  refine wp_seq (one c2 g_b s1 f1 fun ρ2 a2 w2 s2 f2 => ?_)
  refine wp_seq (wp_seq (one c3 g_c s2 f2 fun ρ3 a3 w3 s3 f3 => ?_))
  refine wp_seq (one c4 g_d s3 f3 fun ρ4 a4 w4 s4 f4 => ?_)
  have hcv : a4.eval (.tmp 16) = .bool true := by
    have := look_ok s4.tm (.tmp 16)
    rw [g_cnd] at this
    generalize a4.eval (.tmp 16) = q at this
    cases this; rfl
  refine wp_cond_true hcv ?_
  obtain ⟨o, ho, hap⟩ : ∃ o, gP.o5[5]? = some o ∧ isAp o = true := by
    have h5 := g_o5
    cases ho : gP.o5.toList[5]? with
    | none => rw [ho] at h5; cases h5
    | some o => rw [ho] at h5; exact ⟨o, by simpa using ho, h5⟩
  obtain ⟨hd, hgd, c, hop, hc1, hc2, hc3⟩ := isAp_spec hap
  refine region_mid gE_ok (x := gd) (i := 5) ho hgd (l2 := [6, 7, 8, 9]) (by rw [g_size]; rfl) g_s1 g_k1 g_s3 g_k3 s4 f4 (fun a' w' ρ' hle hf' hs' => ?_) (fun a' w' ρ' hle hf' hs' => ?_)
  · have h18 : ∀ id, 18 ≤ id → ρ' id = none := fun id hid => hf' id (by rw [g_n]; exact hid)
    have hr0 := hs'.h
    rw [g_h] at hr0
    obtain ⟨v, w2, ρ2, e1, e2, e3, e4, e5⟩ := appends hr0 o.type (h18 18 (Nat.le_refl _))
    have ev20 : a'.eval (.tmp 20) = .slice none 0 0 := by
      have := look_ok hs'.tm (.tmp 20)
      rw [g_t20] at this
      generalize a'.eval (.tmp 20) = q at this
      cases this; rfl
    have ev21 : a'.eval (.tmp 21) = .int .i64 10 := by
      have := look_ok hs'.tm (.tmp 21)
      rw [g_t21] at this
      generalize a'.eval (.tmp 21) = q at this
      cases this; rfl
    refine ⟨v, w2, ρ2, ?_, e2, fun id hid => ?_, ?_⟩
    · have hm : c.args.map a'.eval = #[.slice none 0 0, .int .i64 10] := by rw [hc2]; simp [ev20, ev21]
      rw [← hm, ← hc3] at e1
      simp only [execOp, hop, Sem.run_bind, resolve, hc1, Sem.run_pure, Result.andThen_ok, invoke, builtin, e1]
    · have hid : 13 + 1 * 6 ≤ id := by rw [g_n] at hid; exact hid
      rw [e3 id (by omega)]
      exact h18 id (by omega)
    · rw [g_s2, hd]
      refine ⟨(hs'.tm.mono e2).put e4 (some 22), e5, by rw [Act.put_defers']; exact hs'.ds⟩
  · have hf5 : ∀ id, 23 ≤ id → ρ' id = none := fun id hid => hf' id (by rw [g_n, g_size]; exact hid)
    have hd := exec_sound gE_ok mixed (m := 0) gP.e ⟨gs3, 23⟩ (fun e z => (e, z) = (.ret, ge)) c5 (tabOk_none _) (Tree.holds_strict (by rw [g_e]; rfl)) ρ' a' w' hs' (Nat.zero_le _) hf5
    refine wp_mono hd ?_
    rintro e a6 w6 ⟨e', z, ρ6, hk, he', hs6, -, -, -⟩
    simp only [Prod.mk.injEq] at hk
    obtain ⟨rfl, rfl⟩ := hk
    cases e <;> simp only [AExit.is] at he'
    obtain ⟨vs, k1, k2⟩ := results_run hs6 g_res
    obtain ⟨v, us, rfl, hv, hu⟩ := k2.uncons
    obtain rfl := hu.unnil
    have hres : (results Tryz.f209 a6.tmps).run PR w6 = .ok v w6 := by
      unfold results
      simp only [Sem.run_bind]
      rw [Array.mapM_eq_mapM_toList]
      simp only [Sem.run_map]
      have e1 : (Tryz.f209.results.toList.mapM (fun (x : ResultVar) => (match x with
          | .tmp t => pure (a6.tmps.getD t undef)
          | .cell a t => do loadVar t (← asAddr (a6.tmps.getD a undef)) : Sem Value))).run PR w6 = .ok [v] w6 := k1
      erw [e1]
      simp only [Result.andThen_ok, Sem.run_pure]
      rfl
    exact ⟨hs6.ds, v, hres, v, ρ6, rfl, hv, hs6.h.sub (fun id B hB => by
      rw [AH.get_cons] at hB
      split at hB
      · rename_i h; subst h; rw [g_blk]; exact hB
      · simp [AH.get] at hB)⟩
theorem grow_ok : LayOk PR 209 (growL 37 17) := by
  refine ⟨fun F ρ args xs h z r B w hg hx hw hz => ?_⟩
  unfold growL at hg
  split at hg
  · simp only [Option.some.injEq, Prod.mk.injEq, true_and] at hg
    obtain ⟨rfl, rfl⟩ := hg
    obtain ⟨v1, ys, rfl, hv1, hys⟩ := hx.uncons
    obtain ⟨v2, zs, rfl, hv2, hzs⟩ := hys.uncons
    obtain rfl := hzs.unnil
    cases hv1
    cases hv2
    refine Calls.mono (grow_run hw.gw) ?_
    rintro e w' ⟨u, ρ', rfl, hrv, hrw⟩
    have hget : AH.getC [(18, some ⟨true, 37, []⟩)] 18 = some ⟨true, 37, []⟩ := rfl
    obtain ⟨b, o, p1, p2, ⟨cx, fr, rfl, p3, p4, p5⟩, p6, p7⟩ := hrw.blkC hget
    have pz := (p3 rfl).2
    rw [(p3 rfl).1] at p2
    have hnew : w.heap[b]? = none := p6 rfl
    have hF : F.blocks b = none := by
      cases hb : F.blocks b with
      | none => rfl
      | some o => have := hw.fr b o hb; rw [hnew] at this; cases this
    refine ⟨u, ρ.upd z b cx.size, rfl, Ren.le_upd hz, fun j hj => Ren.upd_ne ρ hj, ?_, ?_⟩
    · cases hrv with
      | own q1 q2 q3 q4 q5 =>
        rw [p1] at q1; simp at q1; subst q1
        exact .own (Ren.upd_same _ _ _ _) (Ren.upd_base _ _ _ _) (by rw [Ren.upd_cells]; simpa [count] using q3.trans p7.symm) q4 q5
      | ownE _ hk => exact absurd hk (Nat.lt_irrefl 0)
    · refine (hw.below hrw.to_below).adopt hz hF (fun j B hj e => ?_) 37 [] p2 (by simp) (fun σ j a v ha hv => by simp at ha)
      obtain ⟨b', o', q1, q2, _⟩ := hw.blk j B hj
      rw [q1] at e; simp at e; subst e
      rw [hnew] at q2; cases q2
  · cases hg
theorem grow_ent : Enters PR 209 := enters_of (fn := Tryz.f209) (by kernel_rfl) (by kernel_rfl) (by kernel_rfl)
end Go.Rq

/- A closed law's functions, each gone through where it is called. Written by a program of ours. -/
namespace Go.Rq
open Go Go.Proofs

/-! reliquary/little.Order -/
noncomputable def e202 : Env := envD eqsT [(171, g171)] [] [] [] [] false []
theorem e202_ok : EnvOk PR e202 := envD_ok eqsT_ok (TabPOk.cons g171_ok TabPOk.nil) TabHOk.nil TabLOk.nil TabDOk.nil
theorem cx202 : Ctx PR e202 [] (fun _ => none) 2000 202 := ctx_of e202_ok mixed (fn := Go.Proofs.Tryz.f202) (by kernel_rfl) (by kernel_rfl) (by kernel_rfl) (tabOk_none _)
theorem n202 : Enters PR 202 := enters_of (fn := Go.Proofs.Tryz.f202) (by kernel_rfl) (by kernel_rfl) (by kernel_rfl)
noncomputable def g202 : List AV → Option (Bool × AV) := (inlineC PR e202 4 2000 202)
theorem g202_ok : CallOk PR 202 g202 := (.inl ⟨n202, inlineC_ok cx202 rfl rfl⟩)

/-! reliquary/suite.order -/
noncomputable def e123 : Env := envD eqsT [(16, (fn1 kU c6.agg ofW)), (202, g202)] [] [] [] [] false []
theorem e123_ok : EnvOk PR e123 := envD_ok eqsT_ok (TabPOk.cons of_ok (TabPOk.cons g202_ok TabPOk.nil)) TabHOk.nil TabLOk.nil TabDOk.nil
theorem cx123 : Ctx PR e123 [] (fun _ => none) 2000 123 := ctx_of e123_ok mixed (fn := Go.Proofs.Tryz.f123) (by kernel_rfl) (by kernel_rfl) (by kernel_rfl) (tabOk_none _)
theorem n123 : Enters PR 123 := enters_of (fn := Go.Proofs.Tryz.f123) (by kernel_rfl) (by kernel_rfl) (by kernel_rfl)
noncomputable def g123 : List AV → Option (Bool × AV) := (inlineC PR e123 4 2000 123)
theorem g123_ok : CallOk PR 123 g123 := (.inl ⟨n123, inlineC_ok cx123 rfl rfl⟩)

/-! reliquary/suite.scalars -/
noncomputable def e197 : Env := envD eqsT [(98, (fn2 c6.agg c6.agg (kInt .i64) fun a b => chainV (cmpL a b) 0)), (104, g104), (123, g123)] [] [(179, (layP kMd 291 cFa 0 modS))] [] [] false []
theorem e197_ok : EnvOk PR e197 := envD_ok eqsT_ok (TabPOk.cons cmp_ok (TabPOk.cons g104_ok (TabPOk.cons g123_ok TabPOk.nil))) TabHOk.nil (TabLOk.cons nw_ent newS_okL TabLOk.nil) TabDOk.nil
theorem cx197 : Ctx PR e197 [] (fun _ => none) 2000 197 := ctx_of e197_ok mixed (fn := Go.Proofs.Tryz.f197) (by kernel_rfl) (by kernel_rfl) (by kernel_rfl) (tabOk_none _)
theorem n197 : Enters PR 197 := enters_of (fn := Go.Proofs.Tryz.f197) (by kernel_rfl) (by kernel_rfl) (by kernel_rfl)
noncomputable def g197 : List AV → AH → Nat → Option (Bool × AV × AH) := deepC PR e197 5 2000 197 4096 true
theorem g197_ok : ActOk PR 4096 197 g197 := deepC_ok cx197 rfl rfl

/-! reliquary/suite.Sub$1 -/
noncomputable def e195 : Env := envD eqsT [] [(196, (rdp 291 cFa (mc2 c6.agg c6.agg) c6.agg (fun m x => qsubW m x.1 x.2)))] [] [] [] false [196]
theorem e195_ok : EnvOk PR e195 := envD_ok eqsT_ok TabPOk.nil (TabHOk.cons qsub_ent qsub_ok TabHOk.nil) TabLOk.nil TabDOk.nil
theorem cx195 : Ctx PR e195 [] (fun _ => none) 2000 195 := ctx_of e195_ok mixed (fn := Go.Proofs.Tryz.f195) (by kernel_rfl) (by kernel_rfl) (by kernel_rfl) (tabOk_none _)
theorem n195 : Enters PR 195 := enters_of (fn := Go.Proofs.Tryz.f195) (by kernel_rfl) (by kernel_rfl) (by kernel_rfl)
noncomputable def g195 : List AV → AH → Nat → Option (Bool × AV × AH) := deepC PR e195 4 2000 195 4096 true
theorem g195_ok : ActOk PR 4096 195 g195 := deepC_ok cx195 rfl rfl

/-! reliquary/suite.Mul$1 -/
noncomputable def e199 : Env := envD eqsT [] [(200, (rdp 291 cFa (mc2 c6.agg c6.agg) c6.agg (fun m x => qmulW m x.1 x.2)))] [] [] [] false [200]
theorem e199_ok : EnvOk PR e199 := envD_ok eqsT_ok TabPOk.nil (TabHOk.cons qmul_ent qmul_ok TabHOk.nil) TabLOk.nil TabDOk.nil
theorem cx199 : Ctx PR e199 [] (fun _ => none) 2000 199 := ctx_of e199_ok mixed (fn := Go.Proofs.Tryz.f199) (by kernel_rfl) (by kernel_rfl) (by kernel_rfl) (tabOk_none _)
theorem n199 : Enters PR 199 := enters_of (fn := Go.Proofs.Tryz.f199) (by kernel_rfl) (by kernel_rfl) (by kernel_rfl)
noncomputable def g199 : List AV → AH → Nat → Option (Bool × AV × AH) := deepC PR e199 4 2000 199 4096 true
theorem g199_ok : ActOk PR 4096 199 g199 := deepC_ok cx199 rfl rfl

/-! reliquary/suite.Add$1 -/
noncomputable def e254 : Env := envD eqsT [] [(176, (rdp 291 cFa (mc2 c6.agg c6.agg) c6.agg (fun m x => qaddW m x.1 x.2)))] [] [] [] false [176]
theorem e254_ok : EnvOk PR e254 := envD_ok eqsT_ok TabPOk.nil (TabHOk.cons qadd_ent qadd_ok TabHOk.nil) TabLOk.nil TabDOk.nil
theorem cx254 : Ctx PR e254 [] (fun _ => none) 2000 254 := ctx_of e254_ok mixed (fn := Go.Proofs.Tryz.f254) (by kernel_rfl) (by kernel_rfl) (by kernel_rfl) (tabOk_none _)
theorem n254 : Enters PR 254 := enters_of (fn := Go.Proofs.Tryz.f254) (by kernel_rfl) (by kernel_rfl) (by kernel_rfl)
noncomputable def g254 : List AV → AH → Nat → Option (Bool × AV × AH) := deepC PR e254 4 2000 254 4096 true
theorem g254_ok : ActOk PR 4096 254 g254 := deepC_ok cx254 rfl rfl

/-! reliquary/suite.done -/
noncomputable def e194 : Env := envD eqsT [] [] [] [(197, g197), (195, g195), (199, g199), (254, g254)] [] false [197, 195, 199, 254]
theorem e194_ok : EnvOk PR e194 := envD_ok eqsT_ok TabPOk.nil TabHOk.nil TabLOk.nil (TabDOk.cons n197 g197_ok (TabDOk.cons n195 g195_ok (TabDOk.cons n199 g199_ok (TabDOk.cons n254 g254_ok TabDOk.nil))))
theorem cx194 : Ctx PR e194 [] (fun _ => none) 2000 194 := ctx_of e194_ok mixed (fn := Go.Proofs.Tryz.f194) (by kernel_rfl) (by kernel_rfl) (by kernel_rfl) (tabOk_none _)
theorem n194 : Enters PR 194 := enters_of (fn := Go.Proofs.Tryz.f194) (by kernel_rfl) (by kernel_rfl) (by kernel_rfl)
noncomputable def g194 : List AV → AH → Nat → Option (Bool × AV × AH) := deepC PR e194 5 2000 194 4096 true
theorem g194_ok : ActOk PR 4096 194 g194 := deepC_ok cx194 rfl rfl

/-! reliquary/suite.Add -/
noncomputable def e191 : Env := envD eqsT [] [] [] [(194, g194)] [] false [194]
theorem e191_ok : EnvOk PR e191 := envD_ok eqsT_ok TabPOk.nil TabHOk.nil TabLOk.nil (TabDOk.cons n194 g194_ok TabDOk.nil)
theorem cx191 : Ctx PR e191 [] (fun _ => none) 2000 191 := ctx_of e191_ok mixed (fn := Go.Proofs.Tryz.f191) (by kernel_rfl) (by kernel_rfl) (by kernel_rfl) (tabOk_none _)
theorem n191 : Enters PR 191 := enters_of (fn := Go.Proofs.Tryz.f191) (by kernel_rfl) (by kernel_rfl) (by kernel_rfl)
noncomputable def g191 : List AV → Option (Bool × AV) := (inlineC PR e191 4 2000 191)
theorem g191_ok : CallOk PR 191 g191 := (.inl ⟨n191, inlineC_ok cx191 rfl rfl⟩)

/-! (reliquary/share.field).add -/
noncomputable def e263 : Env := envD eqsT [(191, g191)] [] [] [] [] false []
theorem e263_ok : EnvOk PR e263 := envD_ok eqsT_ok (TabPOk.cons g191_ok TabPOk.nil) TabHOk.nil TabLOk.nil TabDOk.nil
theorem cx263 : Ctx PR e263 [] (fun _ => none) 2000 263 := ctx_of e263_ok mixed (fn := Go.Proofs.Tryz.f263) (by kernel_rfl) (by kernel_rfl) (by kernel_rfl) (tabOk_none _)
theorem n263 : Enters PR 263 := enters_of (fn := Go.Proofs.Tryz.f263) (by kernel_rfl) (by kernel_rfl) (by kernel_rfl)
noncomputable def g263 : List AV → Option (Bool × AV) := (inlineC PR e263 5 2000 263)
theorem g263_ok : CallOk PR 263 g263 := (.inl ⟨n263, inlineC_ok cx263 rfl rfl⟩)

/-! reliquary/suite.Mul -/
noncomputable def e122 : Env := envD eqsT [] [] [] [(194, g194)] [] false [194]
theorem e122_ok : EnvOk PR e122 := envD_ok eqsT_ok TabPOk.nil TabHOk.nil TabLOk.nil (TabDOk.cons n194 g194_ok TabDOk.nil)
theorem cx122 : Ctx PR e122 [] (fun _ => none) 2000 122 := ctx_of e122_ok mixed (fn := Go.Proofs.Tryz.f122) (by kernel_rfl) (by kernel_rfl) (by kernel_rfl) (tabOk_none _)
theorem n122 : Enters PR 122 := enters_of (fn := Go.Proofs.Tryz.f122) (by kernel_rfl) (by kernel_rfl) (by kernel_rfl)
noncomputable def g122 : List AV → Option (Bool × AV) := (inlineC PR e122 4 2000 122)
theorem g122_ok : CallOk PR 122 g122 := (.inl ⟨n122, inlineC_ok cx122 rfl rfl⟩)

/-! (reliquary/share.field).mul -/
noncomputable def e264 : Env := envD eqsT [(122, g122)] [] [] [] [] false []
theorem e264_ok : EnvOk PR e264 := envD_ok eqsT_ok (TabPOk.cons g122_ok TabPOk.nil) TabHOk.nil TabLOk.nil TabDOk.nil
theorem cx264 : Ctx PR e264 [] (fun _ => none) 2000 264 := ctx_of e264_ok mixed (fn := Go.Proofs.Tryz.f264) (by kernel_rfl) (by kernel_rfl) (by kernel_rfl) (tabOk_none _)
theorem n264 : Enters PR 264 := enters_of (fn := Go.Proofs.Tryz.f264) (by kernel_rfl) (by kernel_rfl) (by kernel_rfl)
noncomputable def g264 : List AV → Option (Bool × AV) := (inlineC PR e264 5 2000 264)
theorem g264_ok : CallOk PR 264 g264 := (.inl ⟨n264, inlineC_ok cx264 rfl rfl⟩)

/-! reliquary/little.Gen -/
noncomputable def e103 : Env := envD eqsT [(171, g171)] [] [] [] [] false []
theorem e103_ok : EnvOk PR e103 := envD_ok eqsT_ok (TabPOk.cons g171_ok TabPOk.nil) TabHOk.nil TabLOk.nil TabDOk.nil
theorem cx103 : Ctx PR e103 [] (fun _ => none) 2000 103 := ctx_of e103_ok mixed (fn := Go.Proofs.Tryz.f103) (by kernel_rfl) (by kernel_rfl) (by kernel_rfl) (tabOk_none _)
theorem n103 : Enters PR 103 := enters_of (fn := Go.Proofs.Tryz.f103) (by kernel_rfl) (by kernel_rfl) (by kernel_rfl)
noncomputable def g103 : List AV → Option (Bool × AV) := (inlineC PR e103 4 2000 103)
theorem g103_ok : CallOk PR 103 g103 := (.inl ⟨n103, inlineC_ok cx103 rfl rfl⟩)

/-! reliquary/suite.Gen -/
noncomputable def e23 : Env := envD eqsT [(103, g103)] [] [] [] [] false []
theorem e23_ok : EnvOk PR e23 := envD_ok eqsT_ok (TabPOk.cons g103_ok TabPOk.nil) TabHOk.nil TabLOk.nil TabDOk.nil
theorem cx23 : Ctx PR e23 [] (fun _ => none) 2000 23 := ctx_of e23_ok mixed (fn := Go.Proofs.Tryz.f23) (by kernel_rfl) (by kernel_rfl) (by kernel_rfl) (tabOk_none _)
theorem n23 : Enters PR 23 := enters_of (fn := Go.Proofs.Tryz.f23) (by kernel_rfl) (by kernel_rfl) (by kernel_rfl)
noncomputable def g23 : List AV → Option (Bool × AV) := (inlineC PR e23 5 2000 23)
theorem g23_ok : CallOk PR 23 g23 := (.inl ⟨n23, inlineC_ok cx23 rfl rfl⟩)

/-! reliquary/modulus.Base -/
noncomputable def e181 : Env := envD eqsT [] [] [] [] [] false []
theorem e181_ok : EnvOk PR e181 := envD_ok eqsT_ok TabPOk.nil TabHOk.nil TabLOk.nil TabDOk.nil
theorem cx181 : Ctx PR e181 [] (fun _ => none) 2000 181 := ctx_of e181_ok mixed (fn := Go.Proofs.Tryz.f181) (by kernel_rfl) (by kernel_rfl) (by kernel_rfl) (tabOk_none _)
theorem n181 : Enters PR 181 := enters_of (fn := Go.Proofs.Tryz.f181) (by kernel_rfl) (by kernel_rfl) (by kernel_rfl)
noncomputable def g181 : List AV → Option (Bool × AV) := (inlineC PR e181 1 2000 181)
theorem g181_ok : CallOk PR 181 g181 := (.inl ⟨n181, inlineC_ok cx181 rfl rfl⟩)

/-! reliquary/curve.below -/
noncomputable def e275 : Env := envD eqsT [(98, (fn2 c6.agg c6.agg (kInt .i64) fun a b => chainV (cmpL a b) 0)), (181, g181)] [] [] [] [] false []
theorem e275_ok : EnvOk PR e275 := envD_ok eqsT_ok (TabPOk.cons cmp_ok (TabPOk.cons g181_ok TabPOk.nil)) TabHOk.nil TabLOk.nil TabDOk.nil
theorem cx275 : Ctx PR e275 [] (fun _ => none) 2000 275 := ctx_of e275_ok mixed (fn := Go.Proofs.Tryz.f275) (by kernel_rfl) (by kernel_rfl) (by kernel_rfl) (tabOk_none _)
theorem n275 : Enters PR 275 := enters_of (fn := Go.Proofs.Tryz.f275) (by kernel_rfl) (by kernel_rfl) (by kernel_rfl)
noncomputable def g275 : List AV → Option (Bool × AV) := (inlineC PR e275 3 2000 275)
theorem g275_ok : CallOk PR 275 g275 := (.inl ⟨n275, inlineC_ok cx275 rfl rfl⟩)

/-! reliquary/curve.below1 -/
noncomputable def e226 : Env := envD eqsT [(275, g275)] [] [] [] [] false []
theorem e226_ok : EnvOk PR e226 := envD_ok eqsT_ok (TabPOk.cons g275_ok TabPOk.nil) TabHOk.nil TabLOk.nil TabDOk.nil
theorem cx226 : Ctx PR e226 [] (fun _ => none) 2000 226 := ctx_of e226_ok mixed (fn := Go.Proofs.Tryz.f226) (by kernel_rfl) (by kernel_rfl) (by kernel_rfl) (tabOk_none _)
theorem n226 : Enters PR 226 := enters_of (fn := Go.Proofs.Tryz.f226) (by kernel_rfl) (by kernel_rfl) (by kernel_rfl)
noncomputable def g226 : List AV → Option (Bool × AV) := (inlineC PR e226 4 2000 226)
theorem g226_ok : CallOk PR 226 g226 := (.inl ⟨n226, inlineC_ok cx226 rfl rfl⟩)

/-! reliquary/mont.One -/
noncomputable def e280 : Env := envD eqsT [] [] [] [] [] false []
theorem e280_ok : EnvOk PR e280 := envD_ok eqsT_ok TabPOk.nil TabHOk.nil TabLOk.nil TabDOk.nil
theorem cx280 : Ctx PR e280 [] (fun _ => none) 2000 280 := ctx_of e280_ok mixed (fn := Go.Proofs.Tryz.f280) (by kernel_rfl) (by kernel_rfl) (by kernel_rfl) (tabOk_none _)
theorem n280 : Enters PR 280 := enters_of (fn := Go.Proofs.Tryz.f280) (by kernel_rfl) (by kernel_rfl) (by kernel_rfl)
noncomputable def g280 : List AV → Option (Bool × AV) := (inlineC PR e280 1 2000 280)
theorem g280_ok : CallOk PR 280 g280 := (.inl ⟨n280, inlineC_ok cx280 rfl rfl⟩)

/-! reliquary/mont.prime -/
noncomputable def e316 : Env := envD eqsT [] [] [] [] [] false []
theorem e316_ok : EnvOk PR e316 := envD_ok eqsT_ok TabPOk.nil TabHOk.nil TabLOk.nil TabDOk.nil
theorem cx316 : Ctx PR e316 [] (fun _ => none) 2000 316 := ctx_of e316_ok mixed (fn := Go.Proofs.Tryz.f316) (by kernel_rfl) (by kernel_rfl) (by kernel_rfl) (tabOk_none _)
theorem n316 : Enters PR 316 := enters_of (fn := Go.Proofs.Tryz.f316) (by kernel_rfl) (by kernel_rfl) (by kernel_rfl)
noncomputable def g316 : List AV → Option (Bool × AV) := (inlineC PR e316 1 2000 316)
theorem g316_ok : CallOk PR 316 g316 := (.inl ⟨n316, inlineC_ok cx316 rfl rfl⟩)

/-! reliquary/mont.less -/
noncomputable def e315 : Env := envD eqsT [(301, (fn3 kU kU kBit kUB sub64)), (316, g316)] [] [] [] [] false []
theorem e315_ok : EnvOk PR e315 := envD_ok eqsT_ok (TabPOk.cons sub64_ok (TabPOk.cons g316_ok TabPOk.nil)) TabHOk.nil TabLOk.nil TabDOk.nil
theorem cx315 : Ctx PR e315 [] (fun _ => none) 2000 315 := ctx_of e315_ok mixed (fn := Go.Proofs.Tryz.f315) (by kernel_rfl) (by kernel_rfl) (by kernel_rfl) (tabOk_none _)
theorem n315 : Enters PR 315 := enters_of (fn := Go.Proofs.Tryz.f315) (by kernel_rfl) (by kernel_rfl) (by kernel_rfl)
noncomputable def g315 : List AV → Option (Bool × AV) := (inlineC PR e315 5 2000 315)
theorem g315_ok : CallOk PR 315 g315 := (.inl ⟨n315, inlineC_ok cx315 rfl rfl⟩)

/-! reliquary/mont.Mul -/
noncomputable def e278 : Env := envD eqsT [(287, (fn2 kU kU kUU mul64)), (288, (fn3 kU kU kBit kUB add64)), (315, g315), (316, g316)] [] [] [] [] false []
theorem e278_ok : EnvOk PR e278 := envD_ok eqsT_ok (TabPOk.cons mul64_ok (TabPOk.cons add64_ok (TabPOk.cons g315_ok (TabPOk.cons g316_ok TabPOk.nil)))) TabHOk.nil TabLOk.nil TabDOk.nil
theorem cx278 : Ctx PR e278 [] (fun _ => none) 2000 278 := ctx_of e278_ok mixed (fn := Go.Proofs.Tryz.f278) (by kernel_rfl) (by kernel_rfl) (by kernel_rfl) (tabOk_none _)
theorem n278 : Enters PR 278 := enters_of (fn := Go.Proofs.Tryz.f278) (by kernel_rfl) (by kernel_rfl) (by kernel_rfl)
noncomputable def g278 : List AV → Option (Bool × AV) := (inlineC PR e278 8 2000 278)
theorem g278_ok : CallOk PR 278 g278 := (.inl ⟨n278, inlineC_ok cx278 rfl rfl⟩)

/-! reliquary/mont.wide -/
noncomputable def e318 : Env := envD eqsT [] [] [] [] [] false []
theorem e318_ok : EnvOk PR e318 := envD_ok eqsT_ok TabPOk.nil TabHOk.nil TabLOk.nil TabDOk.nil
theorem cx318 : Ctx PR e318 [] (fun _ => none) 2000 318 := ctx_of e318_ok mixed (fn := Go.Proofs.Tryz.f318) (by kernel_rfl) (by kernel_rfl) (by kernel_rfl) (tabOk_none _)
theorem n318 : Enters PR 318 := enters_of (fn := Go.Proofs.Tryz.f318) (by kernel_rfl) (by kernel_rfl) (by kernel_rfl)
noncomputable def g318 : List AV → Option (Bool × AV) := (inlineC PR e318 1 2000 318)
theorem g318_ok : CallOk PR 318 g318 := (.inl ⟨n318, inlineC_ok cx318 rfl rfl⟩)

/-! reliquary/mont.To -/
noncomputable def e281 : Env := envD eqsT [(278, g278), (318, g318)] [] [] [] [] false []
theorem e281_ok : EnvOk PR e281 := envD_ok eqsT_ok (TabPOk.cons g278_ok (TabPOk.cons g318_ok TabPOk.nil)) TabHOk.nil TabLOk.nil TabDOk.nil
theorem cx281 : Ctx PR e281 [] (fun _ => none) 2000 281 := ctx_of e281_ok mixed (fn := Go.Proofs.Tryz.f281) (by kernel_rfl) (by kernel_rfl) (by kernel_rfl) (tabOk_none _)
theorem n281 : Enters PR 281 := enters_of (fn := Go.Proofs.Tryz.f281) (by kernel_rfl) (by kernel_rfl) (by kernel_rfl)
noncomputable def g281 : List AV → Option (Bool × AV) := (inlineC PR e281 3 2000 281)
theorem g281_ok : CallOk PR 281 g281 := (.inl ⟨n281, inlineC_ok cx281 rfl rfl⟩)

/-! reliquary/mont.Add -/
noncomputable def e276 : Env := envD eqsT [(288, (fn3 kU kU kBit kUB add64)), (315, g315)] [] [] [] [] false []
theorem e276_ok : EnvOk PR e276 := envD_ok eqsT_ok (TabPOk.cons add64_ok (TabPOk.cons g315_ok TabPOk.nil)) TabHOk.nil TabLOk.nil TabDOk.nil
theorem cx276 : Ctx PR e276 [] (fun _ => none) 2000 276 := ctx_of e276_ok mixed (fn := Go.Proofs.Tryz.f276) (by kernel_rfl) (by kernel_rfl) (by kernel_rfl) (tabOk_none _)
theorem n276 : Enters PR 276 := enters_of (fn := Go.Proofs.Tryz.f276) (by kernel_rfl) (by kernel_rfl) (by kernel_rfl)
noncomputable def g276 : List AV → Option (Bool × AV) := (inlineC PR e276 5 2000 276)
theorem g276_ok : CallOk PR 276 g276 := (.inl ⟨n276, inlineC_ok cx276 rfl rfl⟩)

/-! reliquary/mont.Sub -/
noncomputable def e277 : Env := envD eqsT [(288, (fn3 kU kU kBit kUB add64)), (301, (fn3 kU kU kBit kUB sub64)), (316, g316)] [] [] [] [] false []
theorem e277_ok : EnvOk PR e277 := envD_ok eqsT_ok (TabPOk.cons add64_ok (TabPOk.cons sub64_ok (TabPOk.cons g316_ok TabPOk.nil))) TabHOk.nil TabLOk.nil TabDOk.nil
theorem cx277 : Ctx PR e277 [] (fun _ => none) 2000 277 := ctx_of e277_ok mixed (fn := Go.Proofs.Tryz.f277) (by kernel_rfl) (by kernel_rfl) (by kernel_rfl) (tabOk_none _)
theorem n277 : Enters PR 277 := enters_of (fn := Go.Proofs.Tryz.f277) (by kernel_rfl) (by kernel_rfl) (by kernel_rfl)
noncomputable def g277 : List AV → Option (Bool × AV) := (inlineC PR e277 6 2000 277)
theorem g277_ok : CallOk PR 277 g277 := (.inl ⟨n277, inlineC_ok cx277 rfl rfl⟩)

/-! reliquary/mont.Pow -/
noncomputable def e317 : Env := envD eqsT [(278, g278), (280, g280)] [] [] [] [] false []
theorem e317_ok : EnvOk PR e317 := envD_ok eqsT_ok (TabPOk.cons g278_ok (TabPOk.cons g280_ok TabPOk.nil)) TabHOk.nil TabLOk.nil TabDOk.nil
theorem cx317 : Ctx PR e317 [] (fun _ => none) 2000 317 := ctx_of e317_ok mixed (fn := Go.Proofs.Tryz.f317) (by kernel_rfl) (by kernel_rfl) (by kernel_rfl) (tabOk_none _)
theorem n317 : Enters PR 317 := enters_of (fn := Go.Proofs.Tryz.f317) (by kernel_rfl) (by kernel_rfl) (by kernel_rfl)
noncomputable def g317 : List AV → Option (Bool × AV) := (inlineC PR e317 5 2000 317)
theorem g317_ok : CallOk PR 317 g317 := (.inl ⟨n317, inlineC_ok cx317 rfl rfl⟩)

/-! reliquary/mont.Inv -/
noncomputable def e279 : Env := envD eqsT [(317, g317)] [] [] [] [] false []
theorem e279_ok : EnvOk PR e279 := envD_ok eqsT_ok (TabPOk.cons g317_ok TabPOk.nil) TabHOk.nil TabLOk.nil TabDOk.nil
theorem cx279 : Ctx PR e279 [] (fun _ => none) 2000 279 := ctx_of e279_ok mixed (fn := Go.Proofs.Tryz.f279) (by kernel_rfl) (by kernel_rfl) (by kernel_rfl) (tabOk_none _)
theorem n279 : Enters PR 279 := enters_of (fn := Go.Proofs.Tryz.f279) (by kernel_rfl) (by kernel_rfl) (by kernel_rfl)
noncomputable def g279 : List AV → Option (Bool × AV) := (inlineC PR e279 3 2000 279)
theorem g279_ok : CallOk PR 279 g279 := (.inl ⟨n279, inlineC_ok cx279 rfl rfl⟩)

/-! reliquary/curve.first -/
noncomputable def e227 : Env := envD eqsT [(16, (fn1 kU c6.agg ofW)), (280, g280), (281, g281)] [] [] [] [] false []
theorem e227_ok : EnvOk PR e227 := envD_ok eqsT_ok (TabPOk.cons of_ok (TabPOk.cons g280_ok (TabPOk.cons g281_ok TabPOk.nil))) TabHOk.nil TabLOk.nil TabDOk.nil
theorem cx227 : Ctx PR e227 [] (fun _ => none) 2000 227 := ctx_of e227_ok mixed (fn := Go.Proofs.Tryz.f227) (by kernel_rfl) (by kernel_rfl) (by kernel_rfl) (tabOk_none _)
theorem n227 : Enters PR 227 := enters_of (fn := Go.Proofs.Tryz.f227) (by kernel_rfl) (by kernel_rfl) (by kernel_rfl)
noncomputable def g227 : List AV → AH → Nat → Option (Bool × AV × AH) := deepC PR e227 3 2000 227 4096 true
theorem g227_ok : ActOk PR 4096 227 g227 := deepC_ok cx227 rfl rfl

/-! (reliquary/curve.field[reliquary/mont.El]).on -/
noncomputable def e282 : Env := envA eqsT [(278, g278), (276, g276)] [] [] [] [] [] true []
theorem e282_ok : EnvOk PR e282 := envA_ok eqsT_ok (TabPOk.cons g278_ok (TabPOk.cons g276_ok TabPOk.nil)) TabHOk.nil TabLOk.nil TabAOk.nil
theorem cx282 : Ctx PR e282 [] (fun _ => none) 2000 282 := ctx_of e282_ok mixed (fn := Go.Proofs.Tryz.f282) (by kernel_rfl) (by kernel_rfl) (by kernel_rfl) (tabOk_none _)
theorem n282 : Enters PR 282 := enters_of (fn := Go.Proofs.Tryz.f282) (by kernel_rfl) (by kernel_rfl) (by kernel_rfl)
noncomputable def g282 : List AV → AH → Nat → Option (Bool × AV × AH) := deepC PR e282 6 2000 282 4096 true
theorem g282_ok : ActOk PR 4096 282 g282 := deepC_ok cx282 rfl rfl

/-! (reliquary/curve.field[reliquary/mont.El]).in -/
noncomputable def e228 : Env := envD eqsT [] [] [] [(282, g282)] [] false [282]
theorem e228_ok : EnvOk PR e228 := envD_ok eqsT_ok TabPOk.nil TabHOk.nil TabLOk.nil (TabDOk.cons n282 g282_ok TabDOk.nil)
theorem cx228 : Ctx PR e228 [] (fun _ => none) 2000 228 := ctx_of e228_ok mixed (fn := Go.Proofs.Tryz.f228) (by kernel_rfl) (by kernel_rfl) (by kernel_rfl) (tabOk_none _)
theorem n228 : Enters PR 228 := enters_of (fn := Go.Proofs.Tryz.f228) (by kernel_rfl) (by kernel_rfl) (by kernel_rfl)
noncomputable def g228 : List AV → AH → Nat → Option (Bool × AV × AH) := deepC PR e228 5 2000 228 4096 true
theorem g228_ok : ActOk PR 4096 228 g228 := deepC_ok cx228 rfl rfl

/-! reliquary/curve.in1 -/
noncomputable def e229 : Env := envD eqsT [(281, g281)] [] [] [] [] false []
theorem e229_ok : EnvOk PR e229 := envD_ok eqsT_ok (TabPOk.cons g281_ok TabPOk.nil) TabHOk.nil TabLOk.nil TabDOk.nil
theorem cx229 : Ctx PR e229 [] (fun _ => none) 2000 229 := ctx_of e229_ok mixed (fn := Go.Proofs.Tryz.f229) (by kernel_rfl) (by kernel_rfl) (by kernel_rfl) (tabOk_none _)
theorem n229 : Enters PR 229 := enters_of (fn := Go.Proofs.Tryz.f229) (by kernel_rfl) (by kernel_rfl) (by kernel_rfl)
noncomputable def g229 : List AV → Option (Bool × AV) := (inlineC PR e229 4 2000 229)
theorem g229_ok : CallOk PR 229 g229 := (.inl ⟨n229, inlineC_ok cx229 rfl rfl⟩)

/-! reliquary/curve.In1 -/
noncomputable def e168 : Env := envD eqsT [(226, g226), (229, g229)] [] [] [(227, g227), (228, g228)] [] false [227, 228]
theorem e168_ok : EnvOk PR e168 := envD_ok eqsT_ok (TabPOk.cons g226_ok (TabPOk.cons g229_ok TabPOk.nil)) TabHOk.nil TabLOk.nil (TabDOk.cons n227 g227_ok (TabDOk.cons n228 g228_ok TabDOk.nil))
theorem cx168 : Ctx PR e168 [] (fun _ => none) 2000 168 := ctx_of e168_ok mixed (fn := Go.Proofs.Tryz.f168) (by kernel_rfl) (by kernel_rfl) (by kernel_rfl) (tabOk_none _)
theorem n168 : Enters PR 168 := enters_of (fn := Go.Proofs.Tryz.f168) (by kernel_rfl) (by kernel_rfl) (by kernel_rfl)
end Go.Rq
