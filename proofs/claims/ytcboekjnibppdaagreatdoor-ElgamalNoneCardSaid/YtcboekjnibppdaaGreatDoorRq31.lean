/- Functions that hand back constant bytes. Written by a program of ours. -/
import Derived.Test.YtcboekjnibppdaaGreatDoorRq29
import Derived.Test.YtcboekjnibppdaaGreatDoorRq09
import Derived.Test.YtcboekjnibppdaaGreatDoorRq28
import Derived.Test.YtcboekjnibppdaaGreatDoorRows
import Derived.Test.YtcboekjnibppdaaGreatDoorRq12
import Derived.OpenShut
import Derived.MakeChecks
import Derived.ChangeArms
namespace Go.Rq
open Go Go.Proofs
theorem tx21_ent : Enters PR 27 := enters_of (fn := Tryz.f27) (by kernel_rfl) (by kernel_rfl) (by kernel_rfl)
def tx21 : List AV → Nat → Option (Bool × AV × Blk) := layK 5 ⟨false, 5, [.v (.int .u8 119), .v (.int .u8 111), .v (.int .u8 114), .v (.int .u8 100), .v (.int .u8 115)]⟩
theorem tx21_ok : LayOk PR 27 tx21 :=
  layK_ok (fn := Tryz.f27) (t := 55) (e := 5) Tryz.func27 rfl ⟨rfl, rfl, rfl⟩ ⟨rfl, rfl, rfl⟩ ⟨rfl, rfl, rfl⟩ ⟨rfl, rfl, rfl⟩ rfl rfl (by kernel_rfl) (by kernel_rfl) (fun z => by kernel_rfl)
theorem tx24_ent : Enters PR 42 := enters_of (fn := Tryz.f42) (by kernel_rfl) (by kernel_rfl) (by kernel_rfl)
def tx24 : List AV → Nat → Option (Bool × AV × Blk) := layK 1 ⟨false, 5, [.v (.int .u8 109)]⟩
theorem tx24_ok : LayOk PR 42 tx24 :=
  layK_ok (fn := Tryz.f42) (t := 55) (e := 5) Tryz.func42 rfl ⟨rfl, rfl, rfl⟩ ⟨rfl, rfl, rfl⟩ ⟨rfl, rfl, rfl⟩ ⟨rfl, rfl, rfl⟩ rfl rfl (by kernel_rfl) (by kernel_rfl) (fun z => by kernel_rfl)
theorem tx26_ent : Enters PR 56 := enters_of (fn := Tryz.f56) (by kernel_rfl) (by kernel_rfl) (by kernel_rfl)
def tx26 : List AV → Nat → Option (Bool × AV × Blk) := layK 6 ⟨false, 5, [.v (.int .u8 115), .v (.int .u8 101), .v (.int .u8 99), .v (.int .u8 114), .v (.int .u8 101), .v (.int .u8 116)]⟩
theorem tx26_ok : LayOk PR 56 tx26 :=
  layK_ok (fn := Tryz.f56) (t := 55) (e := 5) Tryz.func56 rfl ⟨rfl, rfl, rfl⟩ ⟨rfl, rfl, rfl⟩ ⟨rfl, rfl, rfl⟩ ⟨rfl, rfl, rfl⟩ rfl rfl (by kernel_rfl) (by kernel_rfl) (fun z => by kernel_rfl)
end Go.Rq

/- Multiples of points of the little curves: tables. -/
namespace Go.Rq
open Go Go.Proofs

/-- A multiple: the suite, the point, the number, what comes. -/
structure TmE where
  s : Su
  x : Nat
  y : Nat
  z : Bool
  n : Nat
  rx : Nat
  ry : Nat
  rz : Bool
def TmE.p (e : TmE) : Lp := (BitVec.ofNat 64 e.x, BitVec.ofNat 64 e.y, e.z)
def TmE.r (e : TmE) : Lp := (BitVec.ofNat 64 e.rx, BitVec.ofNat 64 e.ry, e.rz)
def TmE.fact (e : TmE) : Prop := lTimes e.s e.p (BitVec.ofNat 64 e.n) = e.r
def eqSu : Su → Su → Bool
  | .lit, .lit => true
  | .mid, .mid => true
  | _, _ => false
theorem eqSu_ok {a b : Su} (h : eqSu a b = true) : a = b := by cases a <;> cases b <;> first | rfl | cases h
def eqU (a : BitVec 64) (n : Nat) : Bool := Nat.beq a.toNat (BitVec.ofNat 64 n).toNat
theorem eqU_ok {a : BitVec 64} {n : Nat} (h : eqU a n = true) : a = BitVec.ofNat 64 n := BitVec.eq_of_toNat_eq (Nat.eq_of_beq_eq_true h)
def eqBl (a b : Bool) : Bool := bif a then b else !b
theorem eqBl_ok {a b : Bool} (h : eqBl a b = true) : a = b := by cases a <;> cases b <;> first | rfl | cases h
def lookTm : List TmE → Su → Lp → BitVec 64 → Option Lp
  | [], _, _, _ => none
  | e :: t, s, p, n => bif eqU p.1 e.x then (bif eqU n e.n then (bif eqU p.2.1 e.y && (eqBl p.2.2 e.z && eqSu s e.s) then some e.r else lookTm t s p n) else lookTm t s p n) else lookTm t s p n
def TmOk (T : List TmE) : Prop := ∀ e ∈ T, e.fact
theorem TmOk.nil : TmOk [] := fun _ h => by cases h
theorem TmOk.cons {e : TmE} {T : List TmE} (h : e.fact) (t : TmOk T) : TmOk (e :: T) := fun d hd => by
  rcases List.mem_cons.1 hd with rfl | hd
  · exact h
  · exact t d hd
theorem lookTm_ok : ∀ {T : List TmE} {s : Su} {p : Lp} {n : BitVec 64} {r : Lp}, TmOk T → lookTm T s p n = some r → lTimes s p n = r
  | [], _, _, _, _, _, h => by cases h
  | e :: t, s, p, n, r, ok, h => by
    have rest : lookTm t s p n = some r → lTimes s p n = r := lookTm_ok (fun d hd => ok d (List.mem_cons_of_mem _ hd))
    simp only [lookTm] at h
    cases h1 : eqU p.1 e.x with
    | false => rw [h1] at h; exact rest h
    | true =>
      cases h2 : eqU n e.n with
      | false => rw [h1, h2] at h; exact rest h
      | true =>
        cases h3 : (eqU p.2.1 e.y && (eqBl p.2.2 e.z && eqSu s e.s)) with
        | false => rw [h1, h2, h3] at h; exact rest h
        | true =>
          rw [h1, h2, h3] at h
          simp only [cond_true, Option.some.injEq] at h
          simp only [Bool.and_eq_true] at h3
          obtain ⟨h3, h4, h5⟩ := h3
          have hp : p = e.p := by
            obtain ⟨a, b, c⟩ := p
            show (a, b, c) = _
            unfold TmE.p
            rw [← eqU_ok h1, ← eqU_ok h3, ← eqBl_ok h4]
          rw [hp, eqU_ok h2, eqSu_ok h5, ← h]
          exact ok e (List.mem_cons_self)
noncomputable def lTimesT (T : List TmE) (s : Su) (p : Lp) (n : BitVec 64) : Lp := match lookTm T s p n with
  | some r => r
  | none => lTimes s p n
theorem lTimesT_eq {T : List TmE} (h : TmOk T) : lTimesT T = lTimes := by
  funext s p n
  unfold lTimesT
  split
  · rename_i r hr; exact (lookTm_ok h hr).symm
  · rfl
noncomputable def inFT (T : List TmE) (s : Su) (p : Lp) : Bool := bif onF s p then (lTimesT T s p (suR s)).2.2 else false
theorem inFT_eq {T : List TmE} (h : TmOk T) : inFT T = inF := by
  funext s p
  unfold inFT inF
  rw [lTimesT_eq h]
end Go.Rq

/- Multiples of points of the little curves, each reckoned once. Written by a program of ours. -/
namespace Go.Rq
open Go Go.Proofs
def tme0 : TmE := ⟨.lit, 0, 0, true, 65521, 0, 0, true⟩
theorem tmf0 : lTimes tme0.s tme0.p (BitVec.ofNat 64 tme0.n) = tme0.r := by kernel_rfl
def tme1 : TmE := ⟨.lit, 105173, 146613, false, 65521, 0, 0, true⟩
theorem tmf1 : lTimes tme1.s tme1.p (BitVec.ofNat 64 tme1.n) = tme1.r := by kernel_rfl
def tme2 : TmE := ⟨.lit, 130057, 19027, false, 32762, 713167, 269914, false⟩
theorem tmf2 : lTimes tme2.s tme2.p (BitVec.ofNat 64 tme2.n) = tme2.r := by kernel_rfl
def tme3 : TmE := ⟨.lit, 130057, 19027, false, 56416, 277420, 58723, false⟩
theorem tmf3 : lTimes tme3.s tme3.p (BitVec.ofNat 64 tme3.n) = tme3.r := by kernel_rfl
def tme4 : TmE := ⟨.lit, 130057, 19027, false, 65521, 0, 0, true⟩
theorem tmf4 : lTimes tme4.s tme4.p (BitVec.ofNat 64 tme4.n) = tme4.r := by kernel_rfl
def tme5 : TmE := ⟨.lit, 140810, 235378, false, 65521, 0, 0, true⟩
theorem tmf5 : lTimes tme5.s tme5.p (BitVec.ofNat 64 tme5.n) = tme5.r := by kernel_rfl
def tme6 : TmE := ⟨.lit, 147226, 705633, false, 29779, 478730, 483919, false⟩
theorem tmf6 : lTimes tme6.s tme6.p (BitVec.ofNat 64 tme6.n) = tme6.r := by kernel_rfl
def tme7 : TmE := ⟨.lit, 147226, 705633, false, 35055, 557953, 176593, false⟩
theorem tmf7 : lTimes tme7.s tme7.p (BitVec.ofNat 64 tme7.n) = tme7.r := by kernel_rfl
def tme8 : TmE := ⟨.lit, 147226, 705633, false, 65521, 0, 0, true⟩
theorem tmf8 : lTimes tme8.s tme8.p (BitVec.ofNat 64 tme8.n) = tme8.r := by kernel_rfl
def tme9 : TmE := ⟨.lit, 153016, 525695, false, 65521, 0, 0, true⟩
theorem tmf9 : lTimes tme9.s tme9.p (BitVec.ofNat 64 tme9.n) = tme9.r := by kernel_rfl
def tme10 : TmE := ⟨.lit, 153326, 600359, false, 65521, 0, 0, true⟩
theorem tmf10 : lTimes tme10.s tme10.p (BitVec.ofNat 64 tme10.n) = tme10.r := by kernel_rfl
def tme11 : TmE := ⟨.lit, 170245, 463505, false, 22386, 509266, 468647, false⟩
theorem tmf11 : lTimes tme11.s tme11.p (BitVec.ofNat 64 tme11.n) = tme11.r := by kernel_rfl
def tme12 : TmE := ⟨.lit, 170245, 463505, false, 65521, 0, 0, true⟩
theorem tmf12 : lTimes tme12.s tme12.p (BitVec.ofNat 64 tme12.n) = tme12.r := by kernel_rfl
def tme13 : TmE := ⟨.lit, 175939, 21521, false, 65521, 0, 0, true⟩
theorem tmf13 : lTimes tme13.s tme13.p (BitVec.ofNat 64 tme13.n) = tme13.r := by kernel_rfl
def tme14 : TmE := ⟨.lit, 204070, 349018, false, 65521, 0, 0, true⟩
theorem tmf14 : lTimes tme14.s tme14.p (BitVec.ofNat 64 tme14.n) = tme14.r := by kernel_rfl
def tme15 : TmE := ⟨.lit, 204070, 437233, false, 2, 391242, 222284, false⟩
theorem tmf15 : lTimes tme15.s tme15.p (BitVec.ofNat 64 tme15.n) = tme15.r := by kernel_rfl
def tme16 : TmE := ⟨.lit, 204070, 437233, false, 65520, 204070, 349018, false⟩
theorem tmf16 : lTimes tme16.s tme16.p (BitVec.ofNat 64 tme16.n) = tme16.r := by kernel_rfl
def tme17 : TmE := ⟨.lit, 204070, 437233, false, 65521, 0, 0, true⟩
theorem tmf17 : lTimes tme17.s tme17.p (BitVec.ofNat 64 tme17.n) = tme17.r := by kernel_rfl
def tme18 : TmE := ⟨.lit, 208957, 682018, false, 65521, 0, 0, true⟩
theorem tmf18 : lTimes tme18.s tme18.p (BitVec.ofNat 64 tme18.n) = tme18.r := by kernel_rfl
def tme19 : TmE := ⟨.lit, 235929, 424835, false, 15108, 702853, 204003, false⟩
theorem tmf19 : lTimes tme19.s tme19.p (BitVec.ofNat 64 tme19.n) = tme19.r := by kernel_rfl
def tme20 : TmE := ⟨.lit, 235929, 424835, false, 29300, 553651, 584596, false⟩
theorem tmf20 : lTimes tme20.s tme20.p (BitVec.ofNat 64 tme20.n) = tme20.r := by kernel_rfl
def tme21 : TmE := ⟨.lit, 235929, 424835, false, 29779, 28117, 447582, false⟩
theorem tmf21 : lTimes tme21.s tme21.p (BitVec.ofNat 64 tme21.n) = tme21.r := by kernel_rfl
def tme22 : TmE := ⟨.lit, 235929, 424835, false, 65521, 0, 0, true⟩
theorem tmf22 : lTimes tme22.s tme22.p (BitVec.ofNat 64 tme22.n) = tme22.r := by kernel_rfl
def tme23 : TmE := ⟨.lit, 235929, 424835, false, 7, 140810, 235378, false⟩
theorem tmf23 : lTimes tme23.s tme23.p (BitVec.ofNat 64 tme23.n) = tme23.r := by kernel_rfl
def tme24 : TmE := ⟨.lit, 252037, 744619, false, 65521, 0, 0, true⟩
theorem tmf24 : lTimes tme24.s tme24.p (BitVec.ofNat 64 tme24.n) = tme24.r := by kernel_rfl
def tme25 : TmE := ⟨.lit, 256841, 141975, false, 65521, 0, 0, true⟩
theorem tmf25 : lTimes tme25.s tme25.p (BitVec.ofNat 64 tme25.n) = tme25.r := by kernel_rfl
def tme26 : TmE := ⟨.lit, 261290, 279259, false, 65521, 0, 0, true⟩
theorem tmf26 : lTimes tme26.s tme26.p (BitVec.ofNat 64 tme26.n) = tme26.r := by kernel_rfl
def tme27 : TmE := ⟨.lit, 270624, 438177, false, 65521, 0, 0, true⟩
theorem tmf27 : lTimes tme27.s tme27.p (BitVec.ofNat 64 tme27.n) = tme27.r := by kernel_rfl
def tme28 : TmE := ⟨.lit, 277420, 58723, false, 65521, 0, 0, true⟩
theorem tmf28 : lTimes tme28.s tme28.p (BitVec.ofNat 64 tme28.n) = tme28.r := by kernel_rfl
def tme29 : TmE := ⟨.lit, 28117, 447582, false, 65521, 0, 0, true⟩
theorem tmf29 : lTimes tme29.s tme29.p (BitVec.ofNat 64 tme29.n) = tme29.r := by kernel_rfl
def tme30 : TmE := ⟨.lit, 286073, 714627, false, 11286, 321628, 316416, false⟩
theorem tmf30 : lTimes tme30.s tme30.p (BitVec.ofNat 64 tme30.n) = tme30.r := by kernel_rfl
def tme31 : TmE := ⟨.lit, 286073, 714627, false, 29779, 341328, 97573, false⟩
theorem tmf31 : lTimes tme31.s tme31.p (BitVec.ofNat 64 tme31.n) = tme31.r := by kernel_rfl
def tme32 : TmE := ⟨.lit, 286073, 714627, false, 65521, 0, 0, true⟩
theorem tmf32 : lTimes tme32.s tme32.p (BitVec.ofNat 64 tme32.n) = tme32.r := by kernel_rfl
def tme33 : TmE := ⟨.lit, 286906, 586801, false, 65521, 0, 0, true⟩
theorem tmf33 : lTimes tme33.s tme33.p (BitVec.ofNat 64 tme33.n) = tme33.r := by kernel_rfl
def tme34 : TmE := ⟨.lit, 303211, 2018, false, 65521, 0, 0, true⟩
theorem tmf34 : lTimes tme34.s tme34.p (BitVec.ofNat 64 tme34.n) = tme34.r := by kernel_rfl
def tme35 : TmE := ⟨.lit, 321628, 316416, false, 65521, 0, 0, true⟩
theorem tmf35 : lTimes tme35.s tme35.p (BitVec.ofNat 64 tme35.n) = tme35.r := by kernel_rfl
def tme36 : TmE := ⟨.lit, 322017, 440776, false, 65521, 0, 0, true⟩
theorem tmf36 : lTimes tme36.s tme36.p (BitVec.ofNat 64 tme36.n) = tme36.r := by kernel_rfl
def tme37 : TmE := ⟨.lit, 323563, 250526, false, 12, 680769, 739834, false⟩
theorem tmf37 : lTimes tme37.s tme37.p (BitVec.ofNat 64 tme37.n) = tme37.r := by kernel_rfl
def tme38 : TmE := ⟨.lit, 341328, 688678, false, 65521, 0, 0, true⟩
theorem tmf38 : lTimes tme38.s tme38.p (BitVec.ofNat 64 tme38.n) = tme38.r := by kernel_rfl
def tme39 : TmE := ⟨.lit, 341328, 97573, false, 65521, 0, 0, true⟩
theorem tmf39 : lTimes tme39.s tme39.p (BitVec.ofNat 64 tme39.n) = tme39.r := by kernel_rfl
def tme40 : TmE := ⟨.lit, 353886, 568673, false, 65521, 0, 0, true⟩
theorem tmf40 : lTimes tme40.s tme40.p (BitVec.ofNat 64 tme40.n) = tme40.r := by kernel_rfl
def tme41 : TmE := ⟨.lit, 356054, 760697, false, 25385, 546898, 482057, false⟩
theorem tmf41 : lTimes tme41.s tme41.p (BitVec.ofNat 64 tme41.n) = tme41.r := by kernel_rfl
def tme42 : TmE := ⟨.lit, 356054, 760697, false, 58251, 475120, 644981, false⟩
theorem tmf42 : lTimes tme42.s tme42.p (BitVec.ofNat 64 tme42.n) = tme42.r := by kernel_rfl
def tme43 : TmE := ⟨.lit, 356054, 760697, false, 65521, 0, 0, true⟩
theorem tmf43 : lTimes tme43.s tme43.p (BitVec.ofNat 64 tme43.n) = tme43.r := by kernel_rfl
def tme44 : TmE := ⟨.lit, 365041, 601663, false, 27788, 713821, 484714, false⟩
theorem tmf44 : lTimes tme44.s tme44.p (BitVec.ofNat 64 tme44.n) = tme44.r := by kernel_rfl
def tme45 : TmE := ⟨.lit, 365041, 601663, false, 65521, 0, 0, true⟩
theorem tmf45 : lTimes tme45.s tme45.p (BitVec.ofNat 64 tme45.n) = tme45.r := by kernel_rfl
def tme46 : TmE := ⟨.lit, 38773, 537271, false, 65521, 0, 0, true⟩
theorem tmf46 : lTimes tme46.s tme46.p (BitVec.ofNat 64 tme46.n) = tme46.r := by kernel_rfl
def tme47 : TmE := ⟨.lit, 389245, 497882, false, 65521, 0, 0, true⟩
theorem tmf47 : lTimes tme47.s tme47.p (BitVec.ofNat 64 tme47.n) = tme47.r := by kernel_rfl
def tme48 : TmE := ⟨.lit, 391242, 222284, false, 65521, 0, 0, true⟩
theorem tmf48 : lTimes tme48.s tme48.p (BitVec.ofNat 64 tme48.n) = tme48.r := by kernel_rfl
def tme49 : TmE := ⟨.lit, 392206, 702527, false, 65521, 0, 0, true⟩
theorem tmf49 : lTimes tme49.s tme49.p (BitVec.ofNat 64 tme49.n) = tme49.r := by kernel_rfl
def tme50 : TmE := ⟨.lit, 412975, 657130, false, 29779, 633554, 325863, false⟩
theorem tmf50 : lTimes tme50.s tme50.p (BitVec.ofNat 64 tme50.n) = tme50.r := by kernel_rfl
def tme51 : TmE := ⟨.lit, 412975, 657130, false, 56416, 353886, 568673, false⟩
theorem tmf51 : lTimes tme51.s tme51.p (BitVec.ofNat 64 tme51.n) = tme51.r := by kernel_rfl
def tme52 : TmE := ⟨.lit, 412975, 657130, false, 65521, 0, 0, true⟩
theorem tmf52 : lTimes tme52.s tme52.p (BitVec.ofNat 64 tme52.n) = tme52.r := by kernel_rfl
def tme53 : TmE := ⟨.lit, 422498, 773562, false, 65521, 0, 0, true⟩
theorem tmf53 : lTimes tme53.s tme53.p (BitVec.ofNat 64 tme53.n) = tme53.r := by kernel_rfl
def tme54 : TmE := ⟨.lit, 423115, 686522, false, 65521, 0, 0, true⟩
theorem tmf54 : lTimes tme54.s tme54.p (BitVec.ofNat 64 tme54.n) = tme54.r := by kernel_rfl
def tme55 : TmE := ⟨.lit, 430200, 459979, false, 1, 430200, 459979, false⟩
theorem tmf55 : lTimes tme55.s tme55.p (BitVec.ofNat 64 tme55.n) = tme55.r := by kernel_rfl
def tme56 : TmE := ⟨.lit, 430200, 459979, false, 2, 443689, 173377, false⟩
theorem tmf56 : lTimes tme56.s tme56.p (BitVec.ofNat 64 tme56.n) = tme56.r := by kernel_rfl
def tme57 : TmE := ⟨.lit, 430200, 459979, false, 65521, 0, 0, true⟩
theorem tmf57 : lTimes tme57.s tme57.p (BitVec.ofNat 64 tme57.n) = tme57.r := by kernel_rfl
def tme58 : TmE := ⟨.lit, 443689, 173377, false, 65521, 0, 0, true⟩
theorem tmf58 : lTimes tme58.s tme58.p (BitVec.ofNat 64 tme58.n) = tme58.r := by kernel_rfl
def tme59 : TmE := ⟨.lit, 459524, 603534, false, 65521, 0, 0, true⟩
theorem tmf59 : lTimes tme59.s tme59.p (BitVec.ofNat 64 tme59.n) = tme59.r := by kernel_rfl
def tme60 : TmE := ⟨.lit, 475120, 644981, false, 65521, 0, 0, true⟩
theorem tmf60 : lTimes tme60.s tme60.p (BitVec.ofNat 64 tme60.n) = tme60.r := by kernel_rfl
def tme61 : TmE := ⟨.lit, 478730, 483919, false, 65521, 0, 0, true⟩
theorem tmf61 : lTimes tme61.s tme61.p (BitVec.ofNat 64 tme61.n) = tme61.r := by kernel_rfl
def tme62 : TmE := ⟨.lit, 48058, 784049, false, 65521, 0, 0, true⟩
theorem tmf62 : lTimes tme62.s tme62.p (BitVec.ofNat 64 tme62.n) = tme62.r := by kernel_rfl
def tme63 : TmE := ⟨.lit, 489586, 45225, false, 65521, 0, 0, true⟩
theorem tmf63 : lTimes tme63.s tme63.p (BitVec.ofNat 64 tme63.n) = tme63.r := by kernel_rfl
def tme64 : TmE := ⟨.lit, 489674, 271737, false, 14, 619533, 604678, false⟩
theorem tmf64 : lTimes tme64.s tme64.p (BitVec.ofNat 64 tme64.n) = tme64.r := by kernel_rfl
def tme65 : TmE := ⟨.lit, 489674, 271737, false, 3, 153016, 525695, false⟩
theorem tmf65 : lTimes tme65.s tme65.p (BitVec.ofNat 64 tme65.n) = tme65.r := by kernel_rfl
def tme66 : TmE := ⟨.lit, 489674, 271737, false, 32126, 260878, 102694, false⟩
theorem tmf66 : lTimes tme66.s tme66.p (BitVec.ofNat 64 tme66.n) = tme66.r := by kernel_rfl
def tme67 : TmE := ⟨.lit, 489674, 271737, false, 5, 140810, 235378, false⟩
theorem tmf67 : lTimes tme67.s tme67.p (BitVec.ofNat 64 tme67.n) = tme67.r := by kernel_rfl
def tme68 : TmE := ⟨.lit, 489674, 271737, false, 58205, 336908, 783545, false⟩
theorem tmf68 : lTimes tme68.s tme68.p (BitVec.ofNat 64 tme68.n) = tme68.r := by kernel_rfl
def tme69 : TmE := ⟨.lit, 489674, 271737, false, 65521, 0, 0, true⟩
theorem tmf69 : lTimes tme69.s tme69.p (BitVec.ofNat 64 tme69.n) = tme69.r := by kernel_rfl
def tme70 : TmE := ⟨.lit, 489674, 271737, false, 8, 130057, 19027, false⟩
theorem tmf70 : lTimes tme70.s tme70.p (BitVec.ofNat 64 tme70.n) = tme70.r := by kernel_rfl
def tme71 : TmE := ⟨.lit, 493506, 522768, false, 65521, 0, 0, true⟩
theorem tmf71 : lTimes tme71.s tme71.p (BitVec.ofNat 64 tme71.n) = tme71.r := by kernel_rfl
def tme72 : TmE := ⟨.lit, 499998, 779270, false, 65521, 0, 0, true⟩
theorem tmf72 : lTimes tme72.s tme72.p (BitVec.ofNat 64 tme72.n) = tme72.r := by kernel_rfl
def tme73 : TmE := ⟨.lit, 506386, 538862, false, 65521, 0, 0, true⟩
theorem tmf73 : lTimes tme73.s tme73.p (BitVec.ofNat 64 tme73.n) = tme73.r := by kernel_rfl
def tme74 : TmE := ⟨.lit, 509266, 468647, false, 65521, 0, 0, true⟩
theorem tmf74 : lTimes tme74.s tme74.p (BitVec.ofNat 64 tme74.n) = tme74.r := by kernel_rfl
def tme75 : TmE := ⟨.lit, 541098, 305250, false, 65521, 0, 0, true⟩
theorem tmf75 : lTimes tme75.s tme75.p (BitVec.ofNat 64 tme75.n) = tme75.r := by kernel_rfl
def tme76 : TmE := ⟨.lit, 546898, 482057, false, 65521, 0, 0, true⟩
theorem tmf76 : lTimes tme76.s tme76.p (BitVec.ofNat 64 tme76.n) = tme76.r := by kernel_rfl
def tme77 : TmE := ⟨.lit, 549656, 255746, false, 65521, 0, 0, true⟩
theorem tmf77 : lTimes tme77.s tme77.p (BitVec.ofNat 64 tme77.n) = tme77.r := by kernel_rfl
def tme78 : TmE := ⟨.lit, 550481, 169591, false, 65521, 0, 0, true⟩
theorem tmf78 : lTimes tme78.s tme78.p (BitVec.ofNat 64 tme78.n) = tme78.r := by kernel_rfl
def tme79 : TmE := ⟨.lit, 550481, 616660, false, 0, 0, 0, true⟩
theorem tmf79 : lTimes tme79.s tme79.p (BitVec.ofNat 64 tme79.n) = tme79.r := by kernel_rfl
def tme80 : TmE := ⟨.lit, 550481, 616660, false, 65519, 493506, 522768, false⟩
theorem tmf80 : lTimes tme80.s tme80.p (BitVec.ofNat 64 tme80.n) = tme80.r := by kernel_rfl
def tme81 : TmE := ⟨.lit, 550481, 616660, false, 65520, 550481, 169591, false⟩
theorem tmf81 : lTimes tme81.s tme81.p (BitVec.ofNat 64 tme81.n) = tme81.r := by kernel_rfl
def tme82 : TmE := ⟨.lit, 550481, 616660, false, 65521, 0, 0, true⟩
theorem tmf82 : lTimes tme82.s tme82.p (BitVec.ofNat 64 tme82.n) = tme82.r := by kernel_rfl
def tme83 : TmE := ⟨.lit, 553651, 584596, false, 65521, 0, 0, true⟩
theorem tmf83 : lTimes tme83.s tme83.p (BitVec.ofNat 64 tme83.n) = tme83.r := by kernel_rfl
def tme84 : TmE := ⟨.lit, 556628, 352363, false, 65521, 0, 0, true⟩
theorem tmf84 : lTimes tme84.s tme84.p (BitVec.ofNat 64 tme84.n) = tme84.r := by kernel_rfl
def tme85 : TmE := ⟨.lit, 557953, 176593, false, 65521, 0, 0, true⟩
theorem tmf85 : lTimes tme85.s tme85.p (BitVec.ofNat 64 tme85.n) = tme85.r := by kernel_rfl
def tme86 : TmE := ⟨.lit, 560293, 2755, false, 53204, 392206, 702527, false⟩
theorem tmf86 : lTimes tme86.s tme86.p (BitVec.ofNat 64 tme86.n) = tme86.r := by kernel_rfl
def tme87 : TmE := ⟨.lit, 560293, 2755, false, 65521, 0, 0, true⟩
theorem tmf87 : lTimes tme87.s tme87.p (BitVec.ofNat 64 tme87.n) = tme87.r := by kernel_rfl
def tme88 : TmE := ⟨.lit, 565298, 276951, false, 65521, 0, 0, true⟩
theorem tmf88 : lTimes tme88.s tme88.p (BitVec.ofNat 64 tme88.n) = tme88.r := by kernel_rfl
def tme89 : TmE := ⟨.lit, 565298, 509300, false, 1, 565298, 509300, false⟩
theorem tmf89 : lTimes tme89.s tme89.p (BitVec.ofNat 64 tme89.n) = tme89.r := by kernel_rfl
def tme90 : TmE := ⟨.lit, 565298, 509300, false, 2, 593257, 606584, false⟩
theorem tmf90 : lTimes tme90.s tme90.p (BitVec.ofNat 64 tme90.n) = tme90.r := by kernel_rfl
def tme91 : TmE := ⟨.lit, 565298, 509300, false, 3, 303211, 2018, false⟩
theorem tmf91 : lTimes tme91.s tme91.p (BitVec.ofNat 64 tme91.n) = tme91.r := by kernel_rfl
def tme92 : TmE := ⟨.lit, 565298, 509300, false, 65520, 565298, 276951, false⟩
theorem tmf92 : lTimes tme92.s tme92.p (BitVec.ofNat 64 tme92.n) = tme92.r := by kernel_rfl
def tme93 : TmE := ⟨.lit, 565298, 509300, false, 65521, 0, 0, true⟩
theorem tmf93 : lTimes tme93.s tme93.p (BitVec.ofNat 64 tme93.n) = tme93.r := by kernel_rfl
def tme94 : TmE := ⟨.lit, 567343, 554274, false, 65521, 0, 0, true⟩
theorem tmf94 : lTimes tme94.s tme94.p (BitVec.ofNat 64 tme94.n) = tme94.r := by kernel_rfl
def tme95 : TmE := ⟨.lit, 579413, 397235, false, 65521, 0, 0, true⟩
theorem tmf95 : lTimes tme95.s tme95.p (BitVec.ofNat 64 tme95.n) = tme95.r := by kernel_rfl
def tme96 : TmE := ⟨.lit, 586190, 70127, false, 65521, 0, 0, true⟩
theorem tmf96 : lTimes tme96.s tme96.p (BitVec.ofNat 64 tme96.n) = tme96.r := by kernel_rfl
def tme97 : TmE := ⟨.lit, 593257, 606584, false, 65521, 0, 0, true⟩
theorem tmf97 : lTimes tme97.s tme97.p (BitVec.ofNat 64 tme97.n) = tme97.r := by kernel_rfl
def tme98 : TmE := ⟨.lit, 594312, 255989, false, 65521, 0, 0, true⟩
theorem tmf98 : lTimes tme98.s tme98.p (BitVec.ofNat 64 tme98.n) = tme98.r := by kernel_rfl
def tme99 : TmE := ⟨.lit, 619533, 604678, false, 32760, 286906, 586801, false⟩
theorem tmf99 : lTimes tme99.s tme99.p (BitVec.ofNat 64 tme99.n) = tme99.r := by kernel_rfl
def tme100 : TmE := ⟨.lit, 619533, 604678, false, 35055, 579413, 397235, false⟩
theorem tmf100 : lTimes tme100.s tme100.p (BitVec.ofNat 64 tme100.n) = tme100.r := by kernel_rfl
def tme101 : TmE := ⟨.lit, 619533, 604678, false, 65521, 0, 0, true⟩
theorem tmf101 : lTimes tme101.s tme101.p (BitVec.ofNat 64 tme101.n) = tme101.r := by kernel_rfl
def tme102 : TmE := ⟨.lit, 62469, 6668, false, 61529, 567343, 554274, false⟩
theorem tmf102 : lTimes tme102.s tme102.p (BitVec.ofNat 64 tme102.n) = tme102.r := by kernel_rfl
def tme103 : TmE := ⟨.lit, 62469, 6668, false, 65521, 0, 0, true⟩
theorem tmf103 : lTimes tme103.s tme103.p (BitVec.ofNat 64 tme103.n) = tme103.r := by kernel_rfl
def tme104 : TmE := ⟨.lit, 633554, 325863, false, 65521, 0, 0, true⟩
theorem tmf104 : lTimes tme104.s tme104.p (BitVec.ofNat 64 tme104.n) = tme104.r := by kernel_rfl
def tme105 : TmE := ⟨.lit, 634788, 564763, false, 65521, 0, 0, true⟩
theorem tmf105 : lTimes tme105.s tme105.p (BitVec.ofNat 64 tme105.n) = tme105.r := by kernel_rfl
def tme106 : TmE := ⟨.lit, 660824, 97105, false, 65521, 0, 0, true⟩
theorem tmf106 : lTimes tme106.s tme106.p (BitVec.ofNat 64 tme106.n) = tme106.r := by kernel_rfl
def tme107 : TmE := ⟨.lit, 680769, 739834, false, 0, 0, 0, true⟩
theorem tmf107 : lTimes tme107.s tme107.p (BitVec.ofNat 64 tme107.n) = tme107.r := by kernel_rfl
def tme108 : TmE := ⟨.lit, 680769, 739834, false, 1, 680769, 739834, false⟩
theorem tmf108 : lTimes tme108.s tme108.p (BitVec.ofNat 64 tme108.n) = tme108.r := by kernel_rfl
def tme109 : TmE := ⟨.lit, 680769, 739834, false, 10, 365041, 601663, false⟩
theorem tmf109 : lTimes tme109.s tme109.p (BitVec.ofNat 64 tme109.n) = tme109.r := by kernel_rfl
def tme110 : TmE := ⟨.lit, 680769, 739834, false, 14640, 126455, 263256, false⟩
theorem tmf110 : lTimes tme110.s tme110.p (BitVec.ofNat 64 tme110.n) = tme110.r := by kernel_rfl
def tme111 : TmE := ⟨.lit, 680769, 739834, false, 15805, 193204, 606846, false⟩
theorem tmf111 : lTimes tme111.s tme111.p (BitVec.ofNat 64 tme111.n) = tme111.r := by kernel_rfl
def tme112 : TmE := ⟨.lit, 680769, 739834, false, 2, 560293, 2755, false⟩
theorem tmf112 : lTimes tme112.s tme112.p (BitVec.ofNat 64 tme112.n) = tme112.r := by kernel_rfl
def tme113 : TmE := ⟨.lit, 680769, 739834, false, 3, 586190, 70127, false⟩
theorem tmf113 : lTimes tme113.s tme113.p (BitVec.ofNat 64 tme113.n) = tme113.r := by kernel_rfl
def tme114 : TmE := ⟨.lit, 680769, 739834, false, 4, 270624, 438177, false⟩
theorem tmf114 : lTimes tme114.s tme114.p (BitVec.ofNat 64 tme114.n) = tme114.r := by kernel_rfl
def tme115 : TmE := ⟨.lit, 680769, 739834, false, 40896, 365261, 748921, false⟩
theorem tmf115 : lTimes tme115.s tme115.p (BitVec.ofNat 64 tme115.n) = tme115.r := by kernel_rfl
def tme116 : TmE := ⟨.lit, 680769, 739834, false, 45570, 462799, 151264, false⟩
theorem tmf116 : lTimes tme116.s tme116.p (BitVec.ofNat 64 tme116.n) = tme116.r := by kernel_rfl
def tme117 : TmE := ⟨.lit, 680769, 739834, false, 46662, 74992, 159469, false⟩
theorem tmf117 : lTimes tme117.s tme117.p (BitVec.ofNat 64 tme117.n) = tme117.r := by kernel_rfl
def tme118 : TmE := ⟨.lit, 680769, 739834, false, 5, 62469, 6668, false⟩
theorem tmf118 : lTimes tme118.s tme118.p (BitVec.ofNat 64 tme118.n) = tme118.r := by kernel_rfl
def tme119 : TmE := ⟨.lit, 680769, 739834, false, 57900, 35601, 741133, false⟩
theorem tmf119 : lTimes tme119.s tme119.p (BitVec.ofNat 64 tme119.n) = tme119.r := by kernel_rfl
def tml0 : List TmE := [tme0, tme1, tme2, tme3, tme4, tme5, tme6, tme7, tme8, tme9, tme10, tme11, tme12, tme13, tme14, tme15, tme16, tme17, tme18, tme19, tme20, tme21, tme22, tme23, tme24, tme25, tme26, tme27, tme28, tme29, tme30, tme31, tme32, tme33, tme34, tme35, tme36, tme37, tme38, tme39, tme40, tme41, tme42, tme43, tme44, tme45, tme46, tme47, tme48, tme49, tme50, tme51, tme52, tme53, tme54, tme55, tme56, tme57, tme58, tme59, tme60, tme61, tme62, tme63, tme64, tme65, tme66, tme67, tme68, tme69, tme70, tme71, tme72, tme73, tme74, tme75, tme76, tme77, tme78, tme79, tme80, tme81, tme82, tme83, tme84, tme85, tme86, tme87, tme88, tme89, tme90, tme91, tme92, tme93, tme94, tme95, tme96, tme97, tme98, tme99, tme100, tme101, tme102, tme103, tme104, tme105, tme106, tme107, tme108, tme109, tme110, tme111, tme112, tme113, tme114, tme115, tme116, tme117, tme118, tme119]
theorem tml0_ok : TmOk tml0 := (TmOk.cons tmf0 (TmOk.cons tmf1 (TmOk.cons tmf2 (TmOk.cons tmf3 (TmOk.cons tmf4 (TmOk.cons tmf5 (TmOk.cons tmf6 (TmOk.cons tmf7 (TmOk.cons tmf8 (TmOk.cons tmf9 (TmOk.cons tmf10 (TmOk.cons tmf11 (TmOk.cons tmf12 (TmOk.cons tmf13 (TmOk.cons tmf14 (TmOk.cons tmf15 (TmOk.cons tmf16 (TmOk.cons tmf17 (TmOk.cons tmf18 (TmOk.cons tmf19 (TmOk.cons tmf20 (TmOk.cons tmf21 (TmOk.cons tmf22 (TmOk.cons tmf23 (TmOk.cons tmf24 (TmOk.cons tmf25 (TmOk.cons tmf26 (TmOk.cons tmf27 (TmOk.cons tmf28 (TmOk.cons tmf29 (TmOk.cons tmf30 (TmOk.cons tmf31 (TmOk.cons tmf32 (TmOk.cons tmf33 (TmOk.cons tmf34 (TmOk.cons tmf35 (TmOk.cons tmf36 (TmOk.cons tmf37 (TmOk.cons tmf38 (TmOk.cons tmf39 (TmOk.cons tmf40 (TmOk.cons tmf41 (TmOk.cons tmf42 (TmOk.cons tmf43 (TmOk.cons tmf44 (TmOk.cons tmf45 (TmOk.cons tmf46 (TmOk.cons tmf47 (TmOk.cons tmf48 (TmOk.cons tmf49 (TmOk.cons tmf50 (TmOk.cons tmf51 (TmOk.cons tmf52 (TmOk.cons tmf53 (TmOk.cons tmf54 (TmOk.cons tmf55 (TmOk.cons tmf56 (TmOk.cons tmf57 (TmOk.cons tmf58 (TmOk.cons tmf59 (TmOk.cons tmf60 (TmOk.cons tmf61 (TmOk.cons tmf62 (TmOk.cons tmf63 (TmOk.cons tmf64 (TmOk.cons tmf65 (TmOk.cons tmf66 (TmOk.cons tmf67 (TmOk.cons tmf68 (TmOk.cons tmf69 (TmOk.cons tmf70 (TmOk.cons tmf71 (TmOk.cons tmf72 (TmOk.cons tmf73 (TmOk.cons tmf74 (TmOk.cons tmf75 (TmOk.cons tmf76 (TmOk.cons tmf77 (TmOk.cons tmf78 (TmOk.cons tmf79 (TmOk.cons tmf80 (TmOk.cons tmf81 (TmOk.cons tmf82 (TmOk.cons tmf83 (TmOk.cons tmf84 (TmOk.cons tmf85 (TmOk.cons tmf86 (TmOk.cons tmf87 (TmOk.cons tmf88 (TmOk.cons tmf89 (TmOk.cons tmf90 (TmOk.cons tmf91 (TmOk.cons tmf92 (TmOk.cons tmf93 (TmOk.cons tmf94 (TmOk.cons tmf95 (TmOk.cons tmf96 (TmOk.cons tmf97 (TmOk.cons tmf98 (TmOk.cons tmf99 (TmOk.cons tmf100 (TmOk.cons tmf101 (TmOk.cons tmf102 (TmOk.cons tmf103 (TmOk.cons tmf104 (TmOk.cons tmf105 (TmOk.cons tmf106 (TmOk.cons tmf107 (TmOk.cons tmf108 (TmOk.cons tmf109 (TmOk.cons tmf110 (TmOk.cons tmf111 (TmOk.cons tmf112 (TmOk.cons tmf113 (TmOk.cons tmf114 (TmOk.cons tmf115 (TmOk.cons tmf116 (TmOk.cons tmf117 (TmOk.cons tmf118 (TmOk.cons tmf119 TmOk.nil))))))))))))))))))))))))))))))))))))))))))))))))))))))))))))))))))))))))))))))))))))))))))))))))))))))))))))))))))))))))
end Go.Rq

/- Multiples of points of the little curves, each reckoned once. Written by a program of ours. -/
namespace Go.Rq
open Go Go.Proofs
def tme120 : TmE := ⟨.lit, 680769, 739834, false, 6, 48058, 784049, false⟩
theorem tmf120 : lTimes tme120.s tme120.p (BitVec.ofNat 64 tme120.n) = tme120.r := by kernel_rfl
def tme121 : TmE := ⟨.lit, 680769, 739834, false, 62339, 252037, 744619, false⟩
theorem tmf121 : lTimes tme121.s tme121.p (BitVec.ofNat 64 tme121.n) = tme121.r := by kernel_rfl
def tme122 : TmE := ⟨.lit, 680769, 739834, false, 62348, 107345, 181099, false⟩
theorem tmf122 : lTimes tme122.s tme122.p (BitVec.ofNat 64 tme122.n) = tme122.r := by kernel_rfl
def tme123 : TmE := ⟨.lit, 680769, 739834, false, 65521, 0, 0, true⟩
theorem tmf123 : lTimes tme123.s tme123.p (BitVec.ofNat 64 tme123.n) = tme123.r := by kernel_rfl
def tme124 : TmE := ⟨.lit, 680769, 739834, false, 7, 356054, 760697, false⟩
theorem tmf124 : lTimes tme124.s tme124.p (BitVec.ofNat 64 tme124.n) = tme124.r := by kernel_rfl
def tme125 : TmE := ⟨.lit, 680769, 739834, false, 9, 594312, 255989, false⟩
theorem tmf125 : lTimes tme125.s tme125.p (BitVec.ofNat 64 tme125.n) = tme125.r := by kernel_rfl
def tme126 : TmE := ⟨.lit, 68846, 540238, false, 65521, 0, 0, true⟩
theorem tmf126 : lTimes tme126.s tme126.p (BitVec.ofNat 64 tme126.n) = tme126.r := by kernel_rfl
def tme127 : TmE := ⟨.lit, 694355, 613208, false, 65521, 0, 0, true⟩
theorem tmf127 : lTimes tme127.s tme127.p (BitVec.ofNat 64 tme127.n) = tme127.r := by kernel_rfl
def tme128 : TmE := ⟨.lit, 702853, 204003, false, 65521, 0, 0, true⟩
theorem tmf128 : lTimes tme128.s tme128.p (BitVec.ofNat 64 tme128.n) = tme128.r := by kernel_rfl
def tme129 : TmE := ⟨.lit, 713167, 269914, false, 65521, 0, 0, true⟩
theorem tmf129 : lTimes tme129.s tme129.p (BitVec.ofNat 64 tme129.n) = tme129.r := by kernel_rfl
def tme130 : TmE := ⟨.lit, 713821, 484714, false, 65521, 0, 0, true⟩
theorem tmf130 : lTimes tme130.s tme130.p (BitVec.ofNat 64 tme130.n) = tme130.r := by kernel_rfl
def tme131 : TmE := ⟨.lit, 729085, 626936, false, 2, 256841, 141975, false⟩
theorem tmf131 : lTimes tme131.s tme131.p (BitVec.ofNat 64 tme131.n) = tme131.r := by kernel_rfl
def tme132 : TmE := ⟨.lit, 729085, 626936, false, 3, 489586, 45225, false⟩
theorem tmf132 : lTimes tme132.s tme132.p (BitVec.ofNat 64 tme132.n) = tme132.r := by kernel_rfl
def tme133 : TmE := ⟨.lit, 729085, 626936, false, 65521, 0, 0, true⟩
theorem tmf133 : lTimes tme133.s tme133.p (BitVec.ofNat 64 tme133.n) = tme133.r := by kernel_rfl
def tme134 : TmE := ⟨.lit, 87085, 323855, false, 65521, 0, 0, true⟩
theorem tmf134 : lTimes tme134.s tme134.p (BitVec.ofNat 64 tme134.n) = tme134.r := by kernel_rfl
def tme135 : TmE := ⟨.lit, 90220, 338230, false, 2, 556628, 352363, false⟩
theorem tmf135 : lTimes tme135.s tme135.p (BitVec.ofNat 64 tme135.n) = tme135.r := by kernel_rfl
def tme136 : TmE := ⟨.lit, 90220, 338230, false, 3, 153326, 600359, false⟩
theorem tmf136 : lTimes tme136.s tme136.p (BitVec.ofNat 64 tme136.n) = tme136.r := by kernel_rfl
def tme137 : TmE := ⟨.lit, 90220, 338230, false, 65521, 0, 0, true⟩
theorem tmf137 : lTimes tme137.s tme137.p (BitVec.ofNat 64 tme137.n) = tme137.r := by kernel_rfl
def tme138 : TmE := ⟨.lit, 9723, 164643, false, 0, 0, 0, true⟩
theorem tmf138 : lTimes tme138.s tme138.p (BitVec.ofNat 64 tme138.n) = tme138.r := by kernel_rfl
def tme139 : TmE := ⟨.lit, 9723, 164643, false, 1, 9723, 164643, false⟩
theorem tmf139 : lTimes tme139.s tme139.p (BitVec.ofNat 64 tme139.n) = tme139.r := by kernel_rfl
def tme140 : TmE := ⟨.lit, 9723, 164643, false, 11, 286073, 714627, false⟩
theorem tmf140 : lTimes tme140.s tme140.p (BitVec.ofNat 64 tme140.n) = tme140.r := by kernel_rfl
def tme141 : TmE := ⟨.lit, 9723, 164643, false, 12, 459524, 603534, false⟩
theorem tmf141 : lTimes tme141.s tme141.p (BitVec.ofNat 64 tme141.n) = tme141.r := by kernel_rfl
def tme142 : TmE := ⟨.lit, 9723, 164643, false, 13, 549656, 255746, false⟩
theorem tmf142 : lTimes tme142.s tme142.p (BitVec.ofNat 64 tme142.n) = tme142.r := by kernel_rfl
def tme143 : TmE := ⟨.lit, 9723, 164643, false, 14, 147226, 705633, false⟩
theorem tmf143 : lTimes tme143.s tme143.p (BitVec.ofNat 64 tme143.n) = tme143.r := by kernel_rfl
def tme144 : TmE := ⟨.lit, 9723, 164643, false, 15, 38773, 537271, false⟩
theorem tmf144 : lTimes tme144.s tme144.p (BitVec.ofNat 64 tme144.n) = tme144.r := by kernel_rfl
def tme145 : TmE := ⟨.lit, 9723, 164643, false, 15465, 123750, 757844, false⟩
theorem tmf145 : lTimes tme145.s tme145.p (BitVec.ofNat 64 tme145.n) = tme145.r := by kernel_rfl
def tme146 : TmE := ⟨.lit, 9723, 164643, false, 17, 389245, 497882, false⟩
theorem tmf146 : lTimes tme146.s tme146.p (BitVec.ofNat 64 tme146.n) = tme146.r := by kernel_rfl
def tme147 : TmE := ⟨.lit, 9723, 164643, false, 17860, 35312, 73755, false⟩
theorem tmf147 : lTimes tme147.s tme147.p (BitVec.ofNat 64 tme147.n) = tme147.r := by kernel_rfl
def tme148 : TmE := ⟨.lit, 9723, 164643, false, 2, 422498, 773562, false⟩
theorem tmf148 : lTimes tme148.s tme148.p (BitVec.ofNat 64 tme148.n) = tme148.r := by kernel_rfl
def tme149 : TmE := ⟨.lit, 9723, 164643, false, 22, 565298, 509300, false⟩
theorem tmf149 : lTimes tme149.s tme149.p (BitVec.ofNat 64 tme149.n) = tme149.r := by kernel_rfl
def tme150 : TmE := ⟨.lit, 9723, 164643, false, 27, 550481, 616660, false⟩
theorem tmf150 : lTimes tme150.s tme150.p (BitVec.ofNat 64 tme150.n) = tme150.r := by kernel_rfl
def tme151 : TmE := ⟨.lit, 9723, 164643, false, 3, 261290, 279259, false⟩
theorem tmf151 : lTimes tme151.s tme151.p (BitVec.ofNat 64 tme151.n) = tme151.r := by kernel_rfl
def tme152 : TmE := ⟨.lit, 9723, 164643, false, 32, 204070, 437233, false⟩
theorem tmf152 : lTimes tme152.s tme152.p (BitVec.ofNat 64 tme152.n) = tme152.r := by kernel_rfl
def tme153 : TmE := ⟨.lit, 9723, 164643, false, 32126, 695377, 205801, false⟩
theorem tmf153 : lTimes tme153.s tme153.p (BitVec.ofNat 64 tme153.n) = tme153.r := by kernel_rfl
def tme154 : TmE := ⟨.lit, 9723, 164643, false, 35, 140810, 235378, false⟩
theorem tmf154 : lTimes tme154.s tme154.p (BitVec.ofNat 64 tme154.n) = tme154.r := by kernel_rfl
def tme155 : TmE := ⟨.lit, 9723, 164643, false, 36, 341328, 688678, false⟩
theorem tmf155 : lTimes tme155.s tme155.p (BitVec.ofNat 64 tme155.n) = tme155.r := by kernel_rfl
def tme156 : TmE := ⟨.lit, 9723, 164643, false, 4, 506386, 538862, false⟩
theorem tmf156 : lTimes tme156.s tme156.p (BitVec.ofNat 64 tme156.n) = tme156.r := by kernel_rfl
def tme157 : TmE := ⟨.lit, 9723, 164643, false, 41678, 68984, 102202, false⟩
theorem tmf157 : lTimes tme157.s tme157.p (BitVec.ofNat 64 tme157.n) = tme157.r := by kernel_rfl
def tme158 : TmE := ⟨.lit, 9723, 164643, false, 42, 672519, 432932, false⟩
theorem tmf158 : lTimes tme158.s tme158.p (BitVec.ofNat 64 tme158.n) = tme158.r := by kernel_rfl
def tme159 : TmE := ⟨.lit, 9723, 164643, false, 5, 235929, 424835, false⟩
theorem tmf159 : lTimes tme159.s tme159.p (BitVec.ofNat 64 tme159.n) = tme159.r := by kernel_rfl
def tme160 : TmE := ⟨.lit, 9723, 164643, false, 58205, 496432, 161279, false⟩
theorem tmf160 : lTimes tme160.s tme160.p (BitVec.ofNat 64 tme160.n) = tme160.r := by kernel_rfl
def tme161 : TmE := ⟨.lit, 9723, 164643, false, 6, 105173, 146613, false⟩
theorem tmf161 : lTimes tme161.s tme161.p (BitVec.ofNat 64 tme161.n) = tme161.r := by kernel_rfl
def tme162 : TmE := ⟨.lit, 9723, 164643, false, 65496, 92868, 191318, false⟩
theorem tmf162 : lTimes tme162.s tme162.p (BitVec.ofNat 64 tme162.n) = tme162.r := by kernel_rfl
def tme163 : TmE := ⟨.lit, 9723, 164643, false, 65521, 0, 0, true⟩
theorem tmf163 : lTimes tme163.s tme163.p (BitVec.ofNat 64 tme163.n) = tme163.r := by kernel_rfl
def tme164 : TmE := ⟨.lit, 9723, 164643, false, 7, 489674, 271737, false⟩
theorem tmf164 : lTimes tme164.s tme164.p (BitVec.ofNat 64 tme164.n) = tme164.r := by kernel_rfl
def tme165 : TmE := ⟨.lit, 9723, 164643, false, 8, 412975, 657130, false⟩
theorem tmf165 : lTimes tme165.s tme165.p (BitVec.ofNat 64 tme165.n) = tme165.r := by kernel_rfl
def tme166 : TmE := ⟨.lit, 9723, 164643, false, 9, 208957, 682018, false⟩
theorem tmf166 : lTimes tme166.s tme166.p (BitVec.ofNat 64 tme166.n) = tme166.r := by kernel_rfl
def tme167 : TmE := ⟨.mid, 100977064985417594, 428163068672768377, false, 16, 275425563242282422, 1019764028308248193, false⟩
theorem tmf167 : lTimes tme167.s tme167.p (BitVec.ofNat 64 tme167.n) = tme167.r := by kernel_rfl
def tme168 : TmE := ⟨.mid, 1116661760188357180, 970882334729870030, false, 72057594037927889, 0, 0, true⟩
theorem tmf168 : lTimes tme168.s tme168.p (BitVec.ofNat 64 tme168.n) = tme168.r := by kernel_rfl
def tme169 : TmE := ⟨.mid, 163798990059359596, 391867631250252615, false, 55715670242061455, 435853965926175739, 377841614256132980, false⟩
theorem tmf169 : lTimes tme169.s tme169.p (BitVec.ofNat 64 tme169.n) = tme169.r := by kernel_rfl
def tme170 : TmE := ⟨.mid, 163798990059359596, 391867631250252615, false, 72057594037927889, 0, 0, true⟩
theorem tmf170 : lTimes tme170.s tme170.p (BitVec.ofNat 64 tme170.n) = tme170.r := by kernel_rfl
def tme171 : TmE := ⟨.mid, 243339919749999266, 909772467176322535, false, 72057594037927889, 0, 0, true⟩
theorem tmf171 : lTimes tme171.s tme171.p (BitVec.ofNat 64 tme171.n) = tme171.r := by kernel_rfl
def tme172 : TmE := ⟨.mid, 275425563242282422, 1019764028308248193, false, 5, 163798990059359596, 391867631250252615, false⟩
theorem tmf172 : lTimes tme172.s tme172.p (BitVec.ofNat 64 tme172.n) = tme172.r := by kernel_rfl
def tme173 : TmE := ⟨.mid, 275425563242282422, 1019764028308248193, false, 6, 821020941406989194, 460104120734648520, false⟩
theorem tmf173 : lTimes tme173.s tme173.p (BitVec.ofNat 64 tme173.n) = tme173.r := by kernel_rfl
def tme174 : TmE := ⟨.mid, 275425563242282422, 1019764028308248193, false, 62405569096523615, 845789444986919559, 531746982087622970, false⟩
theorem tmf174 : lTimes tme174.s tme174.p (BitVec.ofNat 64 tme174.n) = tme174.r := by kernel_rfl
def tme175 : TmE := ⟨.mid, 275425563242282422, 1019764028308248193, false, 7, 817792840734627714, 105302700851883226, false⟩
theorem tmf175 : lTimes tme175.s tme175.p (BitVec.ofNat 64 tme175.n) = tme175.r := by kernel_rfl
def tml1 : List TmE := [tme120, tme121, tme122, tme123, tme124, tme125, tme126, tme127, tme128, tme129, tme130, tme131, tme132, tme133, tme134, tme135, tme136, tme137, tme138, tme139, tme140, tme141, tme142, tme143, tme144, tme145, tme146, tme147, tme148, tme149, tme150, tme151, tme152, tme153, tme154, tme155, tme156, tme157, tme158, tme159, tme160, tme161, tme162, tme163, tme164, tme165, tme166, tme167, tme168, tme169, tme170, tme171, tme172, tme173, tme174, tme175]
theorem tml1_ok : TmOk tml1 := (TmOk.cons tmf120 (TmOk.cons tmf121 (TmOk.cons tmf122 (TmOk.cons tmf123 (TmOk.cons tmf124 (TmOk.cons tmf125 (TmOk.cons tmf126 (TmOk.cons tmf127 (TmOk.cons tmf128 (TmOk.cons tmf129 (TmOk.cons tmf130 (TmOk.cons tmf131 (TmOk.cons tmf132 (TmOk.cons tmf133 (TmOk.cons tmf134 (TmOk.cons tmf135 (TmOk.cons tmf136 (TmOk.cons tmf137 (TmOk.cons tmf138 (TmOk.cons tmf139 (TmOk.cons tmf140 (TmOk.cons tmf141 (TmOk.cons tmf142 (TmOk.cons tmf143 (TmOk.cons tmf144 (TmOk.cons tmf145 (TmOk.cons tmf146 (TmOk.cons tmf147 (TmOk.cons tmf148 (TmOk.cons tmf149 (TmOk.cons tmf150 (TmOk.cons tmf151 (TmOk.cons tmf152 (TmOk.cons tmf153 (TmOk.cons tmf154 (TmOk.cons tmf155 (TmOk.cons tmf156 (TmOk.cons tmf157 (TmOk.cons tmf158 (TmOk.cons tmf159 (TmOk.cons tmf160 (TmOk.cons tmf161 (TmOk.cons tmf162 (TmOk.cons tmf163 (TmOk.cons tmf164 (TmOk.cons tmf165 (TmOk.cons tmf166 (TmOk.cons tmf167 (TmOk.cons tmf168 (TmOk.cons tmf169 (TmOk.cons tmf170 (TmOk.cons tmf171 (TmOk.cons tmf172 (TmOk.cons tmf173 (TmOk.cons tmf174 (TmOk.cons tmf175 TmOk.nil))))))))))))))))))))))))))))))))))))))))))))))))))))))))
end Go.Rq

/- Multiples of points of the little curves, each reckoned once. Written by a program of ours. -/
namespace Go.Rq
open Go Go.Proofs
def tme176 : TmE := ⟨.mid, 275425563242282422, 1019764028308248193, false, 72057594037927889, 0, 0, true⟩
theorem tmf176 : lTimes tme176.s tme176.p (BitVec.ofNat 64 tme176.n) = tme176.r := by kernel_rfl
def tme177 : TmE := ⟨.mid, 361656735247736233, 1042752575649586287, false, 72057594037927889, 0, 0, true⟩
theorem tmf177 : lTimes tme177.s tme177.p (BitVec.ofNat 64 tme177.n) = tme177.r := by kernel_rfl
def tme178 : TmE := ⟨.mid, 435853965926175739, 377841614256132980, false, 72057594037927889, 0, 0, true⟩
theorem tmf178 : lTimes tme178.s tme178.p (BitVec.ofNat 64 tme178.n) = tme178.r := by kernel_rfl
def tme179 : TmE := ⟨.mid, 476237703501257666, 212412627991976994, false, 72057594037927889, 0, 0, true⟩
theorem tmf179 : lTimes tme179.s tme179.p (BitVec.ofNat 64 tme179.n) = tme179.r := by kernel_rfl
def tme180 : TmE := ⟨.mid, 476237703501257666, 940508876614869229, false, 72057594037927889, 0, 0, true⟩
theorem tmf180 : lTimes tme180.s tme180.p (BitVec.ofNat 64 tme180.n) = tme180.r := by kernel_rfl
def tme181 : TmE := ⟨.mid, 582789716376265728, 56513719474792152, false, 42392273559009817, 811572769122684689, 827838043278610236, false⟩
theorem tmf181 : lTimes tme181.s tme181.p (BitVec.ofNat 64 tme181.n) = tme181.r := by kernel_rfl
def tme182 : TmE := ⟨.mid, 582789716376265728, 56513719474792152, false, 55715670242061455, 1116661760188357180, 970882334729870030, false⟩
theorem tmf182 : lTimes tme182.s tme182.p (BitVec.ofNat 64 tme182.n) = tme182.r := by kernel_rfl
def tme183 : TmE := ⟨.mid, 582789716376265728, 56513719474792152, false, 69840933001710596, 361656735247736233, 1042752575649586287, false⟩
theorem tmf183 : lTimes tme183.s tme183.p (BitVec.ofNat 64 tme183.n) = tme183.r := by kernel_rfl
def tme184 : TmE := ⟨.mid, 582789716376265728, 56513719474792152, false, 72057594037927889, 0, 0, true⟩
theorem tmf184 : lTimes tme184.s tme184.p (BitVec.ofNat 64 tme184.n) = tme184.r := by kernel_rfl
def tme185 : TmE := ⟨.mid, 582789716376265728, 56513719474792152, false, 9, 476237703501257666, 212412627991976994, false⟩
theorem tmf185 : lTimes tme185.s tme185.p (BitVec.ofNat 64 tme185.n) = tme185.r := by kernel_rfl
def tme186 : TmE := ⟨.mid, 613740293506734924, 666621259561003659, false, 4, 243339919749999266, 909772467176322535, false⟩
theorem tmf186 : lTimes tme186.s tme186.p (BitVec.ofNat 64 tme186.n) = tme186.r := by kernel_rfl
def tme187 : TmE := ⟨.mid, 613740293506734924, 666621259561003659, false, 5, 582789716376265728, 56513719474792152, false⟩
theorem tmf187 : lTimes tme187.s tme187.p (BitVec.ofNat 64 tme187.n) = tme187.r := by kernel_rfl
def tme188 : TmE := ⟨.mid, 613740293506734924, 666621259561003659, false, 6, 675716703552256552, 966864928233759093, false⟩
theorem tmf188 : lTimes tme188.s tme188.p (BitVec.ofNat 64 tme188.n) = tme188.r := by kernel_rfl
def tme189 : TmE := ⟨.mid, 613740293506734924, 666621259561003659, false, 62405569096523615, 71770339527046321, 204246782486093206, false⟩
theorem tmf189 : lTimes tme189.s tme189.p (BitVec.ofNat 64 tme189.n) = tme189.r := by kernel_rfl
def tme190 : TmE := ⟨.mid, 613740293506734924, 666621259561003659, false, 62520119637055818, 1118288949084762520, 1049917639835712808, false⟩
theorem tmf190 : lTimes tme190.s tme190.p (BitVec.ofNat 64 tme190.n) = tme190.r := by kernel_rfl
def tml2 : List TmE := [tme176, tme177, tme178, tme179, tme180, tme181, tme182, tme183, tme184, tme185, tme186, tme187, tme188, tme189, tme190]
theorem tml2_ok : TmOk tml2 := (TmOk.cons tmf176 (TmOk.cons tmf177 (TmOk.cons tmf178 (TmOk.cons tmf179 (TmOk.cons tmf180 (TmOk.cons tmf181 (TmOk.cons tmf182 (TmOk.cons tmf183 (TmOk.cons tmf184 (TmOk.cons tmf185 (TmOk.cons tmf186 (TmOk.cons tmf187 (TmOk.cons tmf188 (TmOk.cons tmf189 (TmOk.cons tmf190 TmOk.nil)))))))))))))))
end Go.Rq

/- Multiples of points of the little curves, each reckoned once. Written by a program of ours. -/
namespace Go.Rq
open Go Go.Proofs
def tme191 : TmE := ⟨.mid, 613740293506734924, 666621259561003659, false, 7, 898050630674357684, 48816321131405208, false⟩
theorem tmf191 : lTimes tme191.s tme191.p (BitVec.ofNat 64 tme191.n) = tme191.r := by kernel_rfl
def tme192 : TmE := ⟨.mid, 613740293506734924, 666621259561003659, false, 72057594037927889, 0, 0, true⟩
theorem tmf192 : lTimes tme192.s tme192.p (BitVec.ofNat 64 tme192.n) = tme192.r := by kernel_rfl
def tme193 : TmE := ⟨.mid, 617365277399151350, 325665516984918021, false, 72057594037927889, 0, 0, true⟩
theorem tmf193 : lTimes tme193.s tme193.p (BitVec.ofNat 64 tme193.n) = tme193.r := by kernel_rfl
def tme194 : TmE := ⟨.mid, 675716703552256552, 966864928233759093, false, 71651812769489144, 891982343890551095, 1034957775358500958, false⟩
theorem tmf194 : lTimes tme194.s tme194.p (BitVec.ofNat 64 tme194.n) = tme194.r := by kernel_rfl
def tme195 : TmE := ⟨.mid, 675716703552256552, 966864928233759093, false, 72057594037927889, 0, 0, true⟩
theorem tmf195 : lTimes tme195.s tme195.p (BitVec.ofNat 64 tme195.n) = tme195.r := by kernel_rfl
def tme196 : TmE := ⟨.mid, 811572769122684689, 827838043278610236, false, 72057594037927889, 0, 0, true⟩
theorem tmf196 : lTimes tme196.s tme196.p (BitVec.ofNat 64 tme196.n) = tme196.r := by kernel_rfl
def tme197 : TmE := ⟨.mid, 817792840734627714, 105302700851883226, false, 72057594037927889, 0, 0, true⟩
theorem tmf197 : lTimes tme197.s tme197.p (BitVec.ofNat 64 tme197.n) = tme197.r := by kernel_rfl
def tme198 : TmE := ⟨.mid, 821020941406989194, 460104120734648520, false, 72057594037927889, 0, 0, true⟩
theorem tmf198 : lTimes tme198.s tme198.p (BitVec.ofNat 64 tme198.n) = tme198.r := by kernel_rfl
def tme199 : TmE := ⟨.mid, 891982343890551095, 1034957775358500958, false, 72057594037927889, 0, 0, true⟩
theorem tmf199 : lTimes tme199.s tme199.p (BitVec.ofNat 64 tme199.n) = tme199.r := by kernel_rfl
def tme200 : TmE := ⟨.mid, 898050630674357684, 48816321131405208, false, 72057594037927889, 0, 0, true⟩
theorem tmf200 : lTimes tme200.s tme200.p (BitVec.ofNat 64 tme200.n) = tme200.r := by kernel_rfl
def tml3 : List TmE := [tme191, tme192, tme193, tme194, tme195, tme196, tme197, tme198, tme199, tme200]
theorem tml3_ok : TmOk tml3 := (TmOk.cons tmf191 (TmOk.cons tmf192 (TmOk.cons tmf193 (TmOk.cons tmf194 (TmOk.cons tmf195 (TmOk.cons tmf196 (TmOk.cons tmf197 (TmOk.cons tmf198 (TmOk.cons tmf199 (TmOk.cons tmf200 TmOk.nil))))))))))
end Go.Rq

/- The table of multiples. Written by a program of ours. -/
namespace Go.Rq
open Go Go.Proofs
def tmAll : List TmE := [tme0, tme1, tme2, tme3, tme4, tme5, tme6, tme7, tme8, tme9, tme10, tme11, tme12, tme13, tme14, tme15, tme16, tme17, tme18, tme19, tme20, tme21, tme22, tme23, tme24, tme25, tme26, tme27, tme28, tme29, tme30, tme31, tme32, tme33, tme34, tme35, tme36, tme37, tme38, tme39, tme40, tme41, tme42, tme43, tme44, tme45, tme46, tme47, tme48, tme49, tme50, tme51, tme52, tme53, tme54, tme55, tme56, tme57, tme58, tme59, tme60, tme61, tme62, tme63, tme64, tme65, tme66, tme67, tme68, tme69, tme70, tme71, tme72, tme73, tme74, tme75, tme76, tme77, tme78, tme79, tme80, tme81, tme82, tme83, tme84, tme85, tme86, tme87, tme88, tme89, tme90, tme91, tme92, tme93, tme94, tme95, tme96, tme97, tme98, tme99, tme100, tme101, tme102, tme103, tme104, tme105, tme106, tme107, tme108, tme109, tme110, tme111, tme112, tme113, tme114, tme115, tme116, tme117, tme118, tme119, tme120, tme121, tme122, tme123, tme124, tme125, tme126, tme127, tme128, tme129, tme130, tme131, tme132, tme133, tme134, tme135, tme136, tme137, tme138, tme139, tme140, tme141, tme142, tme143, tme144, tme145, tme146, tme147, tme148, tme149, tme150, tme151, tme152, tme153, tme154, tme155, tme156, tme157, tme158, tme159, tme160, tme161, tme162, tme163, tme164, tme165, tme166, tme167, tme168, tme169, tme170, tme171, tme172, tme173, tme174, tme175, tme176, tme177, tme178, tme179, tme180, tme181, tme182, tme183, tme184, tme185, tme186, tme187, tme188, tme189, tme190, tme191, tme192, tme193, tme194, tme195, tme196, tme197, tme198, tme199, tme200]
theorem tmAll_ok : TmOk tmAll := (TmOk.cons tmf0 (TmOk.cons tmf1 (TmOk.cons tmf2 (TmOk.cons tmf3 (TmOk.cons tmf4 (TmOk.cons tmf5 (TmOk.cons tmf6 (TmOk.cons tmf7 (TmOk.cons tmf8 (TmOk.cons tmf9 (TmOk.cons tmf10 (TmOk.cons tmf11 (TmOk.cons tmf12 (TmOk.cons tmf13 (TmOk.cons tmf14 (TmOk.cons tmf15 (TmOk.cons tmf16 (TmOk.cons tmf17 (TmOk.cons tmf18 (TmOk.cons tmf19 (TmOk.cons tmf20 (TmOk.cons tmf21 (TmOk.cons tmf22 (TmOk.cons tmf23 (TmOk.cons tmf24 (TmOk.cons tmf25 (TmOk.cons tmf26 (TmOk.cons tmf27 (TmOk.cons tmf28 (TmOk.cons tmf29 (TmOk.cons tmf30 (TmOk.cons tmf31 (TmOk.cons tmf32 (TmOk.cons tmf33 (TmOk.cons tmf34 (TmOk.cons tmf35 (TmOk.cons tmf36 (TmOk.cons tmf37 (TmOk.cons tmf38 (TmOk.cons tmf39 (TmOk.cons tmf40 (TmOk.cons tmf41 (TmOk.cons tmf42 (TmOk.cons tmf43 (TmOk.cons tmf44 (TmOk.cons tmf45 (TmOk.cons tmf46 (TmOk.cons tmf47 (TmOk.cons tmf48 (TmOk.cons tmf49 (TmOk.cons tmf50 (TmOk.cons tmf51 (TmOk.cons tmf52 (TmOk.cons tmf53 (TmOk.cons tmf54 (TmOk.cons tmf55 (TmOk.cons tmf56 (TmOk.cons tmf57 (TmOk.cons tmf58 (TmOk.cons tmf59 (TmOk.cons tmf60 (TmOk.cons tmf61 (TmOk.cons tmf62 (TmOk.cons tmf63 (TmOk.cons tmf64 (TmOk.cons tmf65 (TmOk.cons tmf66 (TmOk.cons tmf67 (TmOk.cons tmf68 (TmOk.cons tmf69 (TmOk.cons tmf70 (TmOk.cons tmf71 (TmOk.cons tmf72 (TmOk.cons tmf73 (TmOk.cons tmf74 (TmOk.cons tmf75 (TmOk.cons tmf76 (TmOk.cons tmf77 (TmOk.cons tmf78 (TmOk.cons tmf79 (TmOk.cons tmf80 (TmOk.cons tmf81 (TmOk.cons tmf82 (TmOk.cons tmf83 (TmOk.cons tmf84 (TmOk.cons tmf85 (TmOk.cons tmf86 (TmOk.cons tmf87 (TmOk.cons tmf88 (TmOk.cons tmf89 (TmOk.cons tmf90 (TmOk.cons tmf91 (TmOk.cons tmf92 (TmOk.cons tmf93 (TmOk.cons tmf94 (TmOk.cons tmf95 (TmOk.cons tmf96 (TmOk.cons tmf97 (TmOk.cons tmf98 (TmOk.cons tmf99 (TmOk.cons tmf100 (TmOk.cons tmf101 (TmOk.cons tmf102 (TmOk.cons tmf103 (TmOk.cons tmf104 (TmOk.cons tmf105 (TmOk.cons tmf106 (TmOk.cons tmf107 (TmOk.cons tmf108 (TmOk.cons tmf109 (TmOk.cons tmf110 (TmOk.cons tmf111 (TmOk.cons tmf112 (TmOk.cons tmf113 (TmOk.cons tmf114 (TmOk.cons tmf115 (TmOk.cons tmf116 (TmOk.cons tmf117 (TmOk.cons tmf118 (TmOk.cons tmf119 (TmOk.cons tmf120 (TmOk.cons tmf121 (TmOk.cons tmf122 (TmOk.cons tmf123 (TmOk.cons tmf124 (TmOk.cons tmf125 (TmOk.cons tmf126 (TmOk.cons tmf127 (TmOk.cons tmf128 (TmOk.cons tmf129 (TmOk.cons tmf130 (TmOk.cons tmf131 (TmOk.cons tmf132 (TmOk.cons tmf133 (TmOk.cons tmf134 (TmOk.cons tmf135 (TmOk.cons tmf136 (TmOk.cons tmf137 (TmOk.cons tmf138 (TmOk.cons tmf139 (TmOk.cons tmf140 (TmOk.cons tmf141 (TmOk.cons tmf142 (TmOk.cons tmf143 (TmOk.cons tmf144 (TmOk.cons tmf145 (TmOk.cons tmf146 (TmOk.cons tmf147 (TmOk.cons tmf148 (TmOk.cons tmf149 (TmOk.cons tmf150 (TmOk.cons tmf151 (TmOk.cons tmf152 (TmOk.cons tmf153 (TmOk.cons tmf154 (TmOk.cons tmf155 (TmOk.cons tmf156 (TmOk.cons tmf157 (TmOk.cons tmf158 (TmOk.cons tmf159 (TmOk.cons tmf160 (TmOk.cons tmf161 (TmOk.cons tmf162 (TmOk.cons tmf163 (TmOk.cons tmf164 (TmOk.cons tmf165 (TmOk.cons tmf166 (TmOk.cons tmf167 (TmOk.cons tmf168 (TmOk.cons tmf169 (TmOk.cons tmf170 (TmOk.cons tmf171 (TmOk.cons tmf172 (TmOk.cons tmf173 (TmOk.cons tmf174 (TmOk.cons tmf175 (TmOk.cons tmf176 (TmOk.cons tmf177 (TmOk.cons tmf178 (TmOk.cons tmf179 (TmOk.cons tmf180 (TmOk.cons tmf181 (TmOk.cons tmf182 (TmOk.cons tmf183 (TmOk.cons tmf184 (TmOk.cons tmf185 (TmOk.cons tmf186 (TmOk.cons tmf187 (TmOk.cons tmf188 (TmOk.cons tmf189 (TmOk.cons tmf190 (TmOk.cons tmf191 (TmOk.cons tmf192 (TmOk.cons tmf193 (TmOk.cons tmf194 (TmOk.cons tmf195 (TmOk.cons tmf196 (TmOk.cons tmf197 (TmOk.cons tmf198 (TmOk.cons tmf199 (TmOk.cons tmf200 TmOk.nil)))))))))))))))))))))))))))))))))))))))))))))))))))))))))))))))))))))))))))))))))))))))))))))))))))))))))))))))))))))))))))))))))))))))))))))))))))))))))))))))))))))))))))))))))))))))))))))))))))))))))
theorem tmT_ok : CallOk PR 188 (fn3 kCv cLp.agg kU cLp.agg (lTimesT tmAll)) := by rw [lTimesT_eq tmAll_ok]; exact tm_ok
theorem linT_ok : CallOk PR 230 (fn2 kCv cLp.agg kBool (inFT tmAll)) := by rw [inFT_eq tmAll_ok]; exact lin_ok
end Go.Rq

/- What is told of the numbers of SHA-256's rounds. -/
namespace Go.Rq
open Go Go.Proofs

/-- A row of numbers of one kind, as it is told. -/
theorem row_told {P : Program} {w : World} {base : Nat} {sp : Nat → Bool} {held : Bool} {fuel : Nat} {t e : TypeId} {cs : List Value} {p : List MemPlace} {vals : List Int} (ht : P.underlying t = some (.array vals.length e)) (he : P.underlying e = some (.int .u32)) (h1 : P.cellsOf e = 1) (ht1 : P.cellsOf t = vals.length)
    (h : DataW.trod (fun _ => ()) P w base sp held fuel t cs = some (.agg (vals.map fun n => .lit (.int .u32 n)), p)) : cs = vals.map fun n => .int .u32 n := by
  obtain ⟨xs, m, -, hx, hl, hn, hel⟩ := DataW.trod_array ht h
  simp only [Prod.mk.injEq, DataW.agg.injEq] at hx
  obtain ⟨hx, -⟩ := hx
  rw [ht1] at hl
  apply List.ext_getElem?
  intro i
  by_cases hi : i < vals.length
  · have hi2 := hel i hi
    rw [h1, Nat.mul_one, List.getElem?_eq_getElem (by rw [hn]; exact hi)] at hi2
    obtain ⟨n, e1, e2, -⟩ := DataW.trod_int he hi2
    have e3 : (vals.map fun n => (DataW.lit (.int .u32 n) : DataW Unit))[i]? = some (xs[i]'(by rw [hn]; exact hi)).1 := by
      rw [hx, List.getElem?_map, List.getElem?_eq_getElem (by rw [hn]; exact hi)]
      rfl
    rw [e2, List.getElem?_map, List.getElem?_eq_getElem hi] at e3
    simp only [Option.map_some, Option.some.injEq, DataW.lit.injEq, Lit.int.injEq, true_and] at e3
    have e4 : cs[i]? = some (.int .u32 n) := by
      have := congrArg (fun l => l[0]?) e1
      simpa [List.getElem?_take, List.getElem?_drop] using this
    rw [e4, List.getElem?_map, List.getElem?_eq_getElem hi, ← e3]
    rfl
  · rw [List.getElem?_eq_none (by omega), List.getElem?_eq_none (by rw [List.length_map]; omega)]

theorem shaK_vals : shaK = shaKI.map fun n => .int .u32 n := by kernel_rfl
theorem k_type : (Tryz.prog.globals[0]?).map (·.type) = some 363 := by kernel_rfl
theorem k_laid : (YtcboekjnibppdaaGreatDoor.Rows.laid_reliquary_digest_k : DataW Unit) = .agg (shaKI.map fun n => .lit (.int .u32 n)) := by kernel_rfl
theorem gw_of_laid {W : World} {nm : String} (h : laidMetH Tryz.prog [(nm, YtcboekjnibppdaaGreatDoor.Rows.laid_reliquary_digest_k)] W) (k_glob : Tryz.prog.globalNamed nm = some 0) : GW W := by
  rw [MakeChecks.laidMetH_plain _ _ _ (by kernel_rfl)] at h
  obtain ⟨ps, ⟨g0, t0, cs0, f0, p0, q0, hg0, ht0, hv0, hd0, _, _⟩, _⟩ := h
  obtain rfl := Option.some.inj (k_glob.symm.trans hg0)
  obtain rfl := Option.some.inj (k_type.symm.trans ht0)
  rw [k_laid] at hd0
  have hcs := row_told (vals := shaKI) (e := 322) (by kernel_rfl) (by kernel_rfl) (by kernel_rfl) (by kernel_rfl) hd0
  intro g cs hg
  have hg : g = 0 ∧ cs = shaK := by
    unfold gTab at hg
    split at hg
    · exact ⟨rfl, by simpa using hg.symm⟩
    · cases hg
  obtain ⟨rfl, rfl⟩ := hg
  simp only [World.var?, k_glob, Option.bind_some] at hv0
  split at hv0
  · rename_i c ty fr hh
    simp only [Option.some.injEq] at hv0
    subst hv0
    exact ⟨_, ty, fr, hh, by rw [hcs, shaK_vals]⟩
  · cases hv0
end Go.Rq
