/- What closed runs lean on. -/
import Derived.Test.YtbamkkbefjgeoaaGreatDoorRq33
import Derived.Test.YtbamkkbefjgeoaaGreatDoorRq35
import Derived.Test.YtbamkkbefjgeoaaGreatDoorRq21
import Derived.Test.YtbamkkbefjgeoaaGreatDoorRq16
import Derived.Test.YtbamkkbefjgeoaaGreatDoorRq31
import Derived.Test.YtbamkkbefjgeoaaGreatDoorRq17
namespace Go.Rq.Cl
open Go Go.Proofs Go.Rq Go.Rq.Sm
end Go.Rq.Cl

/- Functions that hand back constant bytes. Written by a program of ours. -/
namespace Go.Rq.Cl
open Go Go.Proofs Go.Rq Go.Rq.Sm
theorem tx21_ent : Enters PR 29 := enters_of (fn := Tryz.f29) (by kernel_rfl) (by kernel_rfl) (by kernel_rfl)
def tx21 : List AV → Nat → Option (Bool × AV × Blk) := layK 5 ⟨false, 5, [.v (.int .u8 119), .v (.int .u8 111), .v (.int .u8 114), .v (.int .u8 100), .v (.int .u8 115)]⟩
theorem tx21_ok : LayOk PR 29 tx21 :=
  layK_ok (fn := Tryz.f29) (t := 47) (e := 5) Tryz.func29 rfl ⟨rfl, rfl, rfl⟩ ⟨rfl, rfl, rfl⟩ ⟨rfl, rfl, rfl⟩ ⟨rfl, rfl, rfl⟩ rfl rfl (by kernel_rfl) (by kernel_rfl) (fun z => by kernel_rfl)
end Go.Rq.Cl

/- Multiples of points of the little curves: tables. -/
namespace Go.Rq.Cl
open Go Go.Proofs Go.Rq Go.Rq.Sm

/-- A multiple: the suite, the point, the number, what comes. -/
structure TmE where
  s : Su
  x : Nat
  y : Nat
  z : Bool
  n : Nat
  rx : Nat
  ry : Nat
  rz : Bool
def TmE.p (e : TmE) : Lp := (BitVec.ofNat 64 e.x, BitVec.ofNat 64 e.y, e.z)
def TmE.r (e : TmE) : Lp := (BitVec.ofNat 64 e.rx, BitVec.ofNat 64 e.ry, e.rz)
def TmE.fact (e : TmE) : Prop := lTimes e.s e.p (BitVec.ofNat 64 e.n) = e.r
def eqSu : Su → Su → Bool
  | .lit, .lit => true
  | .mid, .mid => true
  | _, _ => false
theorem eqSu_ok {a b : Su} (h : eqSu a b = true) : a = b := by cases a <;> cases b <;> first | rfl | cases h
def eqU (a : BitVec 64) (n : Nat) : Bool := Nat.beq a.toNat (BitVec.ofNat 64 n).toNat
theorem eqU_ok {a : BitVec 64} {n : Nat} (h : eqU a n = true) : a = BitVec.ofNat 64 n := BitVec.eq_of_toNat_eq (Nat.eq_of_beq_eq_true h)
def eqBl (a b : Bool) : Bool := bif a then b else !b
theorem eqBl_ok {a b : Bool} (h : eqBl a b = true) : a = b := by cases a <;> cases b <;> first | rfl | cases h
def lookTm : List TmE → Su → Lp → BitVec 64 → Option Lp
  | [], _, _, _ => none
  | e :: t, s, p, n => bif eqU p.1 e.x then (bif eqU n e.n then (bif eqU p.2.1 e.y && (eqBl p.2.2 e.z && eqSu s e.s) then some e.r else lookTm t s p n) else lookTm t s p n) else lookTm t s p n
def TmOk (T : List TmE) : Prop := ∀ e ∈ T, e.fact
theorem TmOk.nil : TmOk [] := fun _ h => by cases h
theorem TmOk.cons {e : TmE} {T : List TmE} (h : e.fact) (t : TmOk T) : TmOk (e :: T) := fun d hd => by
  rcases List.mem_cons.1 hd with rfl | hd
  · exact h
  · exact t d hd
theorem lookTm_ok : ∀ {T : List TmE} {s : Su} {p : Lp} {n : BitVec 64} {r : Lp}, TmOk T → lookTm T s p n = some r → lTimes s p n = r
  | [], _, _, _, _, _, h => by cases h
  | e :: t, s, p, n, r, ok, h => by
    have rest : lookTm t s p n = some r → lTimes s p n = r := lookTm_ok (fun d hd => ok d (List.mem_cons_of_mem _ hd))
    simp only [lookTm] at h
    cases h1 : eqU p.1 e.x with
    | false => rw [h1] at h; exact rest h
    | true =>
      cases h2 : eqU n e.n with
      | false => rw [h1, h2] at h; exact rest h
      | true =>
        cases h3 : (eqU p.2.1 e.y && (eqBl p.2.2 e.z && eqSu s e.s)) with
        | false => rw [h1, h2, h3] at h; exact rest h
        | true =>
          rw [h1, h2, h3] at h
          simp only [cond_true, Option.some.injEq] at h
          simp only [Bool.and_eq_true] at h3
          obtain ⟨h3, h4, h5⟩ := h3
          have hp : p = e.p := by
            obtain ⟨a, b, c⟩ := p
            show (a, b, c) = _
            unfold TmE.p
            rw [← eqU_ok h1, ← eqU_ok h3, ← eqBl_ok h4]
          rw [hp, eqU_ok h2, eqSu_ok h5, ← h]
          exact ok e (List.mem_cons_self)
noncomputable def lTimesT (T : List TmE) (s : Su) (p : Lp) (n : BitVec 64) : Lp := match lookTm T s p n with
  | some r => r
  | none => lTimes s p n
theorem lTimesT_eq {T : List TmE} (h : TmOk T) : lTimesT T = lTimes := by
  funext s p n
  unfold lTimesT
  split
  · rename_i r hr; exact (lookTm_ok h hr).symm
  · rfl
noncomputable def inFT (T : List TmE) (s : Su) (p : Lp) : Bool := bif onF s p then (lTimesT T s p (suR s)).2.2 else false
theorem inFT_eq {T : List TmE} (h : TmOk T) : inFT T = inF := by
  funext s p
  unfold inFT inF
  rw [lTimesT_eq h]
end Go.Rq.Cl

/- Multiples of points of the little curves, each reckoned once. Written by a program of ours. -/
namespace Go.Rq.Cl
open Go Go.Proofs Go.Rq Go.Rq.Sm
def tme0 : TmE := ⟨.lit, 0, 0, true, 65521, 0, 0, true⟩
theorem tmf0 : lTimes tme0.s tme0.p (BitVec.ofNat 64 tme0.n) = tme0.r := by kernel_rfl
def tme1 : TmE := ⟨.lit, 140810, 235378, false, 65521, 0, 0, true⟩
theorem tmf1 : lTimes tme1.s tme1.p (BitVec.ofNat 64 tme1.n) = tme1.r := by kernel_rfl
def tme2 : TmE := ⟨.lit, 208957, 682018, false, 11, 260218, 412545, false⟩
theorem tmf2 : lTimes tme2.s tme2.p (BitVec.ofNat 64 tme2.n) = tme2.r := by kernel_rfl
def tme3 : TmE := ⟨.lit, 208957, 682018, false, 65521, 0, 0, true⟩
theorem tmf3 : lTimes tme3.s tme3.p (BitVec.ofNat 64 tme3.n) = tme3.r := by kernel_rfl
def tme4 : TmE := ⟨.lit, 208957, 682018, false, 7, 655008, 53940, false⟩
theorem tmf4 : lTimes tme4.s tme4.p (BitVec.ofNat 64 tme4.n) = tme4.r := by kernel_rfl
def tme5 : TmE := ⟨.lit, 227013, 574401, false, 65521, 0, 0, true⟩
theorem tmf5 : lTimes tme5.s tme5.p (BitVec.ofNat 64 tme5.n) = tme5.r := by kernel_rfl
def tme6 : TmE := ⟨.lit, 235929, 424835, false, 11, 227013, 574401, false⟩
theorem tmf6 : lTimes tme6.s tme6.p (BitVec.ofNat 64 tme6.n) = tme6.r := by kernel_rfl
def tme7 : TmE := ⟨.lit, 235929, 424835, false, 29300, 553651, 584596, false⟩
theorem tmf7 : lTimes tme7.s tme7.p (BitVec.ofNat 64 tme7.n) = tme7.r := by kernel_rfl
def tme8 : TmE := ⟨.lit, 235929, 424835, false, 65521, 0, 0, true⟩
theorem tmf8 : lTimes tme8.s tme8.p (BitVec.ofNat 64 tme8.n) = tme8.r := by kernel_rfl
def tme9 : TmE := ⟨.lit, 235929, 424835, false, 7, 140810, 235378, false⟩
theorem tmf9 : lTimes tme9.s tme9.p (BitVec.ofNat 64 tme9.n) = tme9.r := by kernel_rfl
def tme10 : TmE := ⟨.lit, 260218, 412545, false, 65521, 0, 0, true⟩
theorem tmf10 : lTimes tme10.s tme10.p (BitVec.ofNat 64 tme10.n) = tme10.r := by kernel_rfl
def tme11 : TmE := ⟨.lit, 286073, 714627, false, 5, 227013, 574401, false⟩
theorem tmf11 : lTimes tme11.s tme11.p (BitVec.ofNat 64 tme11.n) = tme11.r := by kernel_rfl
def tme12 : TmE := ⟨.lit, 286073, 714627, false, 65521, 0, 0, true⟩
theorem tmf12 : lTimes tme12.s tme12.p (BitVec.ofNat 64 tme12.n) = tme12.r := by kernel_rfl
def tme13 : TmE := ⟨.lit, 286073, 714627, false, 9, 260218, 412545, false⟩
theorem tmf13 : lTimes tme13.s tme13.p (BitVec.ofNat 64 tme13.n) = tme13.r := by kernel_rfl
def tme14 : TmE := ⟨.lit, 489674, 271737, false, 5, 140810, 235378, false⟩
theorem tmf14 : lTimes tme14.s tme14.p (BitVec.ofNat 64 tme14.n) = tme14.r := by kernel_rfl
def tme15 : TmE := ⟨.lit, 489674, 271737, false, 65521, 0, 0, true⟩
theorem tmf15 : lTimes tme15.s tme15.p (BitVec.ofNat 64 tme15.n) = tme15.r := by kernel_rfl
def tme16 : TmE := ⟨.lit, 489674, 271737, false, 9, 655008, 53940, false⟩
theorem tmf16 : lTimes tme16.s tme16.p (BitVec.ofNat 64 tme16.n) = tme16.r := by kernel_rfl
def tme17 : TmE := ⟨.lit, 553651, 584596, false, 65521, 0, 0, true⟩
theorem tmf17 : lTimes tme17.s tme17.p (BitVec.ofNat 64 tme17.n) = tme17.r := by kernel_rfl
def tme18 : TmE := ⟨.lit, 655008, 53940, false, 65521, 0, 0, true⟩
theorem tmf18 : lTimes tme18.s tme18.p (BitVec.ofNat 64 tme18.n) = tme18.r := by kernel_rfl
def tme19 : TmE := ⟨.lit, 9723, 164643, false, 11, 286073, 714627, false⟩
theorem tmf19 : lTimes tme19.s tme19.p (BitVec.ofNat 64 tme19.n) = tme19.r := by kernel_rfl
def tme20 : TmE := ⟨.lit, 9723, 164643, false, 15465, 123750, 757844, false⟩
theorem tmf20 : lTimes tme20.s tme20.p (BitVec.ofNat 64 tme20.n) = tme20.r := by kernel_rfl
def tme21 : TmE := ⟨.lit, 9723, 164643, false, 5, 235929, 424835, false⟩
theorem tmf21 : lTimes tme21.s tme21.p (BitVec.ofNat 64 tme21.n) = tme21.r := by kernel_rfl
def tme22 : TmE := ⟨.lit, 9723, 164643, false, 65521, 0, 0, true⟩
theorem tmf22 : lTimes tme22.s tme22.p (BitVec.ofNat 64 tme22.n) = tme22.r := by kernel_rfl
def tme23 : TmE := ⟨.lit, 9723, 164643, false, 7, 489674, 271737, false⟩
theorem tmf23 : lTimes tme23.s tme23.p (BitVec.ofNat 64 tme23.n) = tme23.r := by kernel_rfl
def tme24 : TmE := ⟨.lit, 9723, 164643, false, 9, 208957, 682018, false⟩
theorem tmf24 : lTimes tme24.s tme24.p (BitVec.ofNat 64 tme24.n) = tme24.r := by kernel_rfl
end Go.Rq.Cl

/- The table of multiples. Written by a program of ours. -/
namespace Go.Rq.Cl
open Go Go.Proofs Go.Rq Go.Rq.Sm
def tmAll : List TmE := [tme0, tme1, tme2, tme3, tme4, tme5, tme6, tme7, tme8, tme9, tme10, tme11, tme12, tme13, tme14, tme15, tme16, tme17, tme18, tme19, tme20, tme21, tme22, tme23, tme24]
theorem tmAll_ok : TmOk tmAll := (TmOk.cons tmf0 (TmOk.cons tmf1 (TmOk.cons tmf2 (TmOk.cons tmf3 (TmOk.cons tmf4 (TmOk.cons tmf5 (TmOk.cons tmf6 (TmOk.cons tmf7 (TmOk.cons tmf8 (TmOk.cons tmf9 (TmOk.cons tmf10 (TmOk.cons tmf11 (TmOk.cons tmf12 (TmOk.cons tmf13 (TmOk.cons tmf14 (TmOk.cons tmf15 (TmOk.cons tmf16 (TmOk.cons tmf17 (TmOk.cons tmf18 (TmOk.cons tmf19 (TmOk.cons tmf20 (TmOk.cons tmf21 (TmOk.cons tmf22 (TmOk.cons tmf23 (TmOk.cons tmf24 TmOk.nil)))))))))))))))))))))))))
theorem tmT_ok : CallOk PR 82 (fn3 kCv cLp.agg kU cLp.agg (lTimesT tmAll)) := by rw [lTimesT_eq tmAll_ok]; exact tm_ok
theorem linT_ok : CallOk PR 143 (fn2 kCv cLp.agg kBool (inFT tmAll)) := by rw [inFT_eq tmAll_ok]; exact lin_ok
end Go.Rq.Cl

/- SHA-256's block, reckoned by numbers where they are told. -/
namespace Go.Rq.Cl
open Go Go.Proofs Go.Rq Go.Rq.Sm

end Go.Rq.Cl

/- A closed law's functions, each gone through where it is called. Written by a program of ours. -/
namespace Go.Rq.Cl
open Go Go.Proofs Go.Rq Go.Rq.Sm

/-! reliquary/modulus.Base -/
noncomputable def e141 : Env := envD eqsT [] [] [] [] [9] false []
theorem e141_ok : EnvOk PR e141 := envD_ok eqsT_ok TabPOk.nil TabHOk.nil TabLOk.nil TabDOk.nil
theorem cx141 : Ctx PR e141 [] (fun _ => none) 2000 141 := ctx_of e141_ok mixed (fn := Go.Proofs.Tryz.f141) (by kernel_rfl) (by kernel_rfl) (by kernel_rfl) (tabOk_none _)
theorem n141 : Enters PR 141 := enters_of (fn := Go.Proofs.Tryz.f141) (by kernel_rfl) (by kernel_rfl) (by kernel_rfl)
noncomputable def g141 : List AV → Option (Bool × AV) := (inlineC PR e141 1 2000 141)
theorem g141_ok : CallOk PR 141 g141 := (.inl ⟨n141, inlineC_ok cx141 rfl rfl⟩)

/-! reliquary/curve.below -/
noncomputable def e156 : Env := envD eqsT [(45, (fn2 c6.agg c6.agg (kInt .i64) fun a b => chainV (cmpL a b) 0)), (141, g141)] [] [] [] [9] false []
theorem e156_ok : EnvOk PR e156 := envD_ok eqsT_ok (TabPOk.cons cmp_ok (TabPOk.cons g141_ok TabPOk.nil)) TabHOk.nil TabLOk.nil TabDOk.nil
theorem cx156 : Ctx PR e156 [] (fun _ => none) 2000 156 := ctx_of e156_ok mixed (fn := Go.Proofs.Tryz.f156) (by kernel_rfl) (by kernel_rfl) (by kernel_rfl) (tabOk_none _)
theorem n156 : Enters PR 156 := enters_of (fn := Go.Proofs.Tryz.f156) (by kernel_rfl) (by kernel_rfl) (by kernel_rfl)
noncomputable def g156 : List AV → Option (Bool × AV) := (inlineC PR e156 3 2000 156)
theorem g156_ok : CallOk PR 156 g156 := (.inl ⟨n156, inlineC_ok cx156 rfl rfl⟩)

/-! reliquary/curve.below1 -/
noncomputable def e120 : Env := envD eqsT [(156, g156)] [] [] [] [9] false []
theorem e120_ok : EnvOk PR e120 := envD_ok eqsT_ok (TabPOk.cons g156_ok TabPOk.nil) TabHOk.nil TabLOk.nil TabDOk.nil
theorem cx120 : Ctx PR e120 [] (fun _ => none) 2000 120 := ctx_of e120_ok mixed (fn := Go.Proofs.Tryz.f120) (by kernel_rfl) (by kernel_rfl) (by kernel_rfl) (tabOk_none _)
theorem n120 : Enters PR 120 := enters_of (fn := Go.Proofs.Tryz.f120) (by kernel_rfl) (by kernel_rfl) (by kernel_rfl)
noncomputable def g120 : List AV → Option (Bool × AV) := (inlineC PR e120 4 2000 120)
theorem g120_ok : CallOk PR 120 g120 := (.inl ⟨n120, inlineC_ok cx120 rfl rfl⟩)

/-! reliquary/mont.prime -/
noncomputable def e187 : Env := envD eqsT [] [] [] [] [9] false []
theorem e187_ok : EnvOk PR e187 := envD_ok eqsT_ok TabPOk.nil TabHOk.nil TabLOk.nil TabDOk.nil
theorem cx187 : Ctx PR e187 [] (fun _ => none) 2000 187 := ctx_of e187_ok mixed (fn := Go.Proofs.Tryz.f187) (by kernel_rfl) (by kernel_rfl) (by kernel_rfl) (tabOk_none _)
theorem n187 : Enters PR 187 := enters_of (fn := Go.Proofs.Tryz.f187) (by kernel_rfl) (by kernel_rfl) (by kernel_rfl)
noncomputable def g187 : List AV → Option (Bool × AV) := (inlineC PR e187 1 2000 187)
theorem g187_ok : CallOk PR 187 g187 := (.inl ⟨n187, inlineC_ok cx187 rfl rfl⟩)

/-! reliquary/mont.less -/
noncomputable def e186 : Env := envD eqsT [(118, (fn3 kU kU kBit kUB sub64)), (187, g187)] [] [] [] [9] false []
theorem e186_ok : EnvOk PR e186 := envD_ok eqsT_ok (TabPOk.cons sub64_ok (TabPOk.cons g187_ok TabPOk.nil)) TabHOk.nil TabLOk.nil TabDOk.nil
theorem cx186 : Ctx PR e186 [] (fun _ => none) 2000 186 := ctx_of e186_ok mixed (fn := Go.Proofs.Tryz.f186) (by kernel_rfl) (by kernel_rfl) (by kernel_rfl) (tabOk_none _)
theorem n186 : Enters PR 186 := enters_of (fn := Go.Proofs.Tryz.f186) (by kernel_rfl) (by kernel_rfl) (by kernel_rfl)
noncomputable def g186 : List AV → Option (Bool × AV) := (inlineC PR e186 5 2000 186)
theorem g186_ok : CallOk PR 186 g186 := (.inl ⟨n186, inlineC_ok cx186 rfl rfl⟩)

/-! reliquary/mont.Mul -/
noncomputable def e160 : Env := envD eqsT [(128, (fn2 kU kU kUU mul64)), (129, (fn3 kU kU kBit kUB add64)), (186, g186), (187, g187)] [] [] [] [9] false []
theorem e160_ok : EnvOk PR e160 := envD_ok eqsT_ok (TabPOk.cons mul64_ok (TabPOk.cons add64_ok (TabPOk.cons g186_ok (TabPOk.cons g187_ok TabPOk.nil)))) TabHOk.nil TabLOk.nil TabDOk.nil
theorem cx160 : Ctx PR e160 [] (fun _ => none) 2000 160 := ctx_of e160_ok mixed (fn := Go.Proofs.Tryz.f160) (by kernel_rfl) (by kernel_rfl) (by kernel_rfl) (tabOk_none _)
theorem n160 : Enters PR 160 := enters_of (fn := Go.Proofs.Tryz.f160) (by kernel_rfl) (by kernel_rfl) (by kernel_rfl)
noncomputable def g160 : List AV → Option (Bool × AV) := (inlineC PR e160 8 2000 160)
theorem g160_ok : CallOk PR 160 g160 := (.inl ⟨n160, inlineC_ok cx160 rfl rfl⟩)

/-! reliquary/mont.wide -/
noncomputable def e185 : Env := envD eqsT [] [] [] [] [9] false []
theorem e185_ok : EnvOk PR e185 := envD_ok eqsT_ok TabPOk.nil TabHOk.nil TabLOk.nil TabDOk.nil
theorem cx185 : Ctx PR e185 [] (fun _ => none) 2000 185 := ctx_of e185_ok mixed (fn := Go.Proofs.Tryz.f185) (by kernel_rfl) (by kernel_rfl) (by kernel_rfl) (tabOk_none _)
theorem n185 : Enters PR 185 := enters_of (fn := Go.Proofs.Tryz.f185) (by kernel_rfl) (by kernel_rfl) (by kernel_rfl)
noncomputable def g185 : List AV → Option (Bool × AV) := (inlineC PR e185 1 2000 185)
theorem g185_ok : CallOk PR 185 g185 := (.inl ⟨n185, inlineC_ok cx185 rfl rfl⟩)

/-! reliquary/mont.To -/
noncomputable def e157 : Env := envD eqsT [(160, g160), (185, g185)] [] [] [] [9] false []
theorem e157_ok : EnvOk PR e157 := envD_ok eqsT_ok (TabPOk.cons g160_ok (TabPOk.cons g185_ok TabPOk.nil)) TabHOk.nil TabLOk.nil TabDOk.nil
theorem cx157 : Ctx PR e157 [] (fun _ => none) 2000 157 := ctx_of e157_ok mixed (fn := Go.Proofs.Tryz.f157) (by kernel_rfl) (by kernel_rfl) (by kernel_rfl) (tabOk_none _)
theorem n157 : Enters PR 157 := enters_of (fn := Go.Proofs.Tryz.f157) (by kernel_rfl) (by kernel_rfl) (by kernel_rfl)
noncomputable def g157 : List AV → Option (Bool × AV) := (inlineC PR e157 3 2000 157)
theorem g157_ok : CallOk PR 157 g157 := (.inl ⟨n157, inlineC_ok cx157 rfl rfl⟩)

/-! reliquary/curve.in1 -/
noncomputable def e121 : Env := envD eqsT [(157, g157)] [] [] [] [9] false []
theorem e121_ok : EnvOk PR e121 := envD_ok eqsT_ok (TabPOk.cons g157_ok TabPOk.nil) TabHOk.nil TabLOk.nil TabDOk.nil
theorem cx121 : Ctx PR e121 [] (fun _ => none) 2000 121 := ctx_of e121_ok mixed (fn := Go.Proofs.Tryz.f121) (by kernel_rfl) (by kernel_rfl) (by kernel_rfl) (tabOk_none _)
theorem n121 : Enters PR 121 := enters_of (fn := Go.Proofs.Tryz.f121) (by kernel_rfl) (by kernel_rfl) (by kernel_rfl)
noncomputable def g121 : List AV → Option (Bool × AV) := (inlineC PR e121 4 2000 121)
theorem g121_ok : CallOk PR 121 g121 := (.inl ⟨n121, inlineC_ok cx121 rfl rfl⟩)

/-! reliquary/mont.One -/
noncomputable def e162 : Env := envD eqsT [] [] [] [] [9] false []
theorem e162_ok : EnvOk PR e162 := envD_ok eqsT_ok TabPOk.nil TabHOk.nil TabLOk.nil TabDOk.nil
theorem cx162 : Ctx PR e162 [] (fun _ => none) 2000 162 := ctx_of e162_ok mixed (fn := Go.Proofs.Tryz.f162) (by kernel_rfl) (by kernel_rfl) (by kernel_rfl) (tabOk_none _)
theorem n162 : Enters PR 162 := enters_of (fn := Go.Proofs.Tryz.f162) (by kernel_rfl) (by kernel_rfl) (by kernel_rfl)
noncomputable def g162 : List AV → Option (Bool × AV) := (inlineC PR e162 1 2000 162)
theorem g162_ok : CallOk PR 162 g162 := (.inl ⟨n162, inlineC_ok cx162 rfl rfl⟩)

/-! reliquary/mont.Add -/
noncomputable def e158 : Env := envD eqsT [(129, (fn3 kU kU kBit kUB add64)), (186, g186)] [] [] [] [9] false []
theorem e158_ok : EnvOk PR e158 := envD_ok eqsT_ok (TabPOk.cons add64_ok (TabPOk.cons g186_ok TabPOk.nil)) TabHOk.nil TabLOk.nil TabDOk.nil
theorem cx158 : Ctx PR e158 [] (fun _ => none) 2000 158 := ctx_of e158_ok mixed (fn := Go.Proofs.Tryz.f158) (by kernel_rfl) (by kernel_rfl) (by kernel_rfl) (tabOk_none _)
theorem n158 : Enters PR 158 := enters_of (fn := Go.Proofs.Tryz.f158) (by kernel_rfl) (by kernel_rfl) (by kernel_rfl)
noncomputable def g158 : List AV → Option (Bool × AV) := (inlineC PR e158 5 2000 158)
theorem g158_ok : CallOk PR 158 g158 := (.inl ⟨n158, inlineC_ok cx158 rfl rfl⟩)

/-! reliquary/mont.Sub -/
/-! reliquary/mont.Pow -/
/-! reliquary/mont.Inv -/
/-! reliquary/curve.first -/
noncomputable def e122 : Env := envD eqsT [(27, (fn1 kU c6.agg ofW)), (157, g157), (162, g162)] [] [] [] [9] false []
theorem e122_ok : EnvOk PR e122 := envD_ok eqsT_ok (TabPOk.cons of_ok (TabPOk.cons g157_ok (TabPOk.cons g162_ok TabPOk.nil))) TabHOk.nil TabLOk.nil TabDOk.nil
theorem cx122 : Ctx PR e122 [] (fun _ => none) 2000 122 := ctx_of e122_ok mixed (fn := Go.Proofs.Tryz.f122) (by kernel_rfl) (by kernel_rfl) (by kernel_rfl) (tabOk_none _)
theorem n122 : Enters PR 122 := enters_of (fn := Go.Proofs.Tryz.f122) (by kernel_rfl) (by kernel_rfl) (by kernel_rfl)
noncomputable def g122 : List AV → AH → Nat → Option (Bool × AV × AH) := deepC PR e122 3 2000 122 4096 true
theorem g122_ok : ActOk PR 4096 122 g122 := deepC_ok cx122 rfl rfl

/-! (reliquary/curve.field[reliquary/mont.El]).on -/
noncomputable def e163 : Env := envA eqsT [(160, g160), (158, g158)] [] [] [] [] [] true []
theorem e163_ok : EnvOk PR e163 := envA_ok eqsT_ok (TabPOk.cons g160_ok (TabPOk.cons g158_ok TabPOk.nil)) TabHOk.nil TabLOk.nil TabAOk.nil
theorem cx163 : Ctx PR e163 [] (fun _ => none) 2000 163 := ctx_of e163_ok mixed (fn := Go.Proofs.Tryz.f163) (by kernel_rfl) (by kernel_rfl) (by kernel_rfl) (tabOk_none _)
theorem n163 : Enters PR 163 := enters_of (fn := Go.Proofs.Tryz.f163) (by kernel_rfl) (by kernel_rfl) (by kernel_rfl)
noncomputable def g163 : List AV → AH → Nat → Option (Bool × AV × AH) := deepC PR e163 6 2000 163 4096 true
theorem g163_ok : ActOk PR 4096 163 g163 := deepC_ok cx163 rfl rfl

/-! (reliquary/curve.field[reliquary/mont.El]).in -/
noncomputable def e149 : Env := envD eqsT [] [] [] [(163, g163)] [9] false [163]
theorem e149_ok : EnvOk PR e149 := envD_ok eqsT_ok TabPOk.nil TabHOk.nil TabLOk.nil (TabDOk.cons n163 g163_ok TabDOk.nil)
theorem cx149 : Ctx PR e149 [] (fun _ => none) 2000 149 := ctx_of e149_ok mixed (fn := Go.Proofs.Tryz.f149) (by kernel_rfl) (by kernel_rfl) (by kernel_rfl) (tabOk_none _)
theorem n149 : Enters PR 149 := enters_of (fn := Go.Proofs.Tryz.f149) (by kernel_rfl) (by kernel_rfl) (by kernel_rfl)
noncomputable def g149 : List AV → AH → Nat → Option (Bool × AV × AH) := deepC PR e149 5 2000 149 4096 true
theorem g149_ok : ActOk PR 4096 149 g149 := deepC_ok cx149 rfl rfl

/-! reliquary/curve.In1 -/
noncomputable def e109 : Env := envD eqsT [(120, g120), (121, g121)] [] [] [(122, g122), (149, g149)] [9] false [122, 149]
theorem e109_ok : EnvOk PR e109 := envD_ok eqsT_ok (TabPOk.cons g120_ok (TabPOk.cons g121_ok TabPOk.nil)) TabHOk.nil TabLOk.nil (TabDOk.cons n122 g122_ok (TabDOk.cons n149 g149_ok TabDOk.nil))
theorem cx109 : Ctx PR e109 [] (fun _ => none) 2000 109 := ctx_of e109_ok mixed (fn := Go.Proofs.Tryz.f109) (by kernel_rfl) (by kernel_rfl) (by kernel_rfl) (tabOk_none _)
theorem n109 : Enters PR 109 := enters_of (fn := Go.Proofs.Tryz.f109) (by kernel_rfl) (by kernel_rfl) (by kernel_rfl)
noncomputable def g109 : List AV → Option (Bool × AV) := (inlineC PR e109 4 2000 109)
theorem g109_ok : CallOk PR 109 g109 := (.inl ⟨n109, inlineC_ok cx109 rfl rfl⟩)

/-! reliquary/little.of -/
noncomputable def e79 : Env := envD eqsT [] [] [] [] [9] false []
theorem e79_ok : EnvOk PR e79 := envD_ok eqsT_ok TabPOk.nil TabHOk.nil TabLOk.nil TabDOk.nil
theorem cx79 : Ctx PR e79 [] (fun _ => none) 2000 79 := ctx_of e79_ok mixed (fn := Go.Proofs.Tryz.f79) (by kernel_rfl) (by kernel_rfl) (by kernel_rfl) (tabOk_none _)
theorem n79 : Enters PR 79 := enters_of (fn := Go.Proofs.Tryz.f79) (by kernel_rfl) (by kernel_rfl) (by kernel_rfl)
noncomputable def g79 : List AV → Option (Bool × AV) := (inlineC PR e79 4 2000 79)
theorem g79_ok : CallOk PR 79 g79 := (.inl ⟨n79, inlineC_ok cx79 rfl rfl⟩)

/-! reliquary/little.In -/
noncomputable def e110 : Env := envD eqsT [(79, g79), (143, (fn2 kCv cLp.agg kBool (inFT tmAll)))] [] [] [] [9] false []
theorem e110_ok : EnvOk PR e110 := envD_ok eqsT_ok (TabPOk.cons g79_ok (TabPOk.cons linT_ok TabPOk.nil)) TabHOk.nil TabLOk.nil TabDOk.nil
theorem cx110 : Ctx PR e110 [] (fun _ => none) 2000 110 := ctx_of e110_ok mixed (fn := Go.Proofs.Tryz.f110) (by kernel_rfl) (by kernel_rfl) (by kernel_rfl) (tabOk_none _)
theorem n110 : Enters PR 110 := enters_of (fn := Go.Proofs.Tryz.f110) (by kernel_rfl) (by kernel_rfl) (by kernel_rfl)
noncomputable def g110 : List AV → Option (Bool × AV) := (inlineC PR e110 5 2000 110)
theorem g110_ok : CallOk PR 110 g110 := (.inl ⟨n110, inlineC_ok cx110 rfl rfl⟩)

/-! reliquary/suite.KeyCheck -/
noncomputable def e66 : Env := envD eqsT [(109, g109), (110, g110)] [] [] [] [9] false []
theorem e66_ok : EnvOk PR e66 := envD_ok eqsT_ok (TabPOk.cons g109_ok (TabPOk.cons g110_ok TabPOk.nil)) TabHOk.nil TabLOk.nil TabDOk.nil
theorem cx66 : Ctx PR e66 [] (fun _ => none) 2000 66 := ctx_of e66_ok mixed (fn := Go.Proofs.Tryz.f66) (by kernel_rfl) (by kernel_rfl) (by kernel_rfl) (tabOk_none _)
theorem n66 : Enters PR 66 := enters_of (fn := Go.Proofs.Tryz.f66) (by kernel_rfl) (by kernel_rfl) (by kernel_rfl)
noncomputable def g66 : List AV → Option (Bool × AV) := (inlineC PR e66 5 2000 66)
theorem g66_ok : CallOk PR 66 g66 := (.inl ⟨n66, inlineC_ok cx66 rfl rfl⟩)

/-! reliquary/channel.other -/
/-! reliquary/suite.known -/
noncomputable def e72 : Env := envD eqsT [] [] [] [] [9] false []
theorem e72_ok : EnvOk PR e72 := envD_ok eqsT_ok TabPOk.nil TabHOk.nil TabLOk.nil TabDOk.nil
theorem cx72 : Ctx PR e72 [] (fun _ => none) 2000 72 := ctx_of e72_ok mixed (fn := Go.Proofs.Tryz.f72) (by kernel_rfl) (by kernel_rfl) (by kernel_rfl) (tabOk_none _)
theorem n72 : Enters PR 72 := enters_of (fn := Go.Proofs.Tryz.f72) (by kernel_rfl) (by kernel_rfl) (by kernel_rfl)
noncomputable def g72 : List AV → Option (Bool × AV) := (inlineC PR e72 4 2000 72)
theorem g72_ok : CallOk PR 72 g72 := (.inl ⟨n72, inlineC_ok cx72 rfl rfl⟩)

/-! reliquary/little.Order -/
noncomputable def e116 : Env := envD eqsT [(79, g79)] [] [] [] [9] false []
theorem e116_ok : EnvOk PR e116 := envD_ok eqsT_ok (TabPOk.cons g79_ok TabPOk.nil) TabHOk.nil TabLOk.nil TabDOk.nil
theorem cx116 : Ctx PR e116 [] (fun _ => none) 2000 116 := ctx_of e116_ok mixed (fn := Go.Proofs.Tryz.f116) (by kernel_rfl) (by kernel_rfl) (by kernel_rfl) (tabOk_none _)
theorem n116 : Enters PR 116 := enters_of (fn := Go.Proofs.Tryz.f116) (by kernel_rfl) (by kernel_rfl) (by kernel_rfl)
noncomputable def g116 : List AV → Option (Bool × AV) := (inlineC PR e116 4 2000 116)
theorem g116_ok : CallOk PR 116 g116 := (.inl ⟨n116, inlineC_ok cx116 rfl rfl⟩)

/-! reliquary/suite.order -/
noncomputable def e73 : Env := envD eqsT [(27, (fn1 kU c6.agg ofW)), (116, g116)] [] [] [] [9] false []
theorem e73_ok : EnvOk PR e73 := envD_ok eqsT_ok (TabPOk.cons of_ok (TabPOk.cons g116_ok TabPOk.nil)) TabHOk.nil TabLOk.nil TabDOk.nil
theorem cx73 : Ctx PR e73 [] (fun _ => none) 2000 73 := ctx_of e73_ok mixed (fn := Go.Proofs.Tryz.f73) (by kernel_rfl) (by kernel_rfl) (by kernel_rfl) (tabOk_none _)
theorem n73 : Enters PR 73 := enters_of (fn := Go.Proofs.Tryz.f73) (by kernel_rfl) (by kernel_rfl) (by kernel_rfl)
noncomputable def g73 : List AV → Option (Bool × AV) := (inlineC PR e73 4 2000 73)
theorem g73_ok : CallOk PR 73 g73 := (.inl ⟨n73, inlineC_ok cx73 rfl rfl⟩)

/-! reliquary/suite.Order -/
noncomputable def e31 : Env := envD eqsT [(72, g72), (73, g73)] [] [] [] [9] false []
theorem e31_ok : EnvOk PR e31 := envD_ok eqsT_ok (TabPOk.cons g72_ok (TabPOk.cons g73_ok TabPOk.nil)) TabHOk.nil TabLOk.nil TabDOk.nil
theorem cx31 : Ctx PR e31 [] (fun _ => none) 2000 31 := ctx_of e31_ok mixed (fn := Go.Proofs.Tryz.f31) (by kernel_rfl) (by kernel_rfl) (by kernel_rfl) (tabOk_none _)
theorem n31 : Enters PR 31 := enters_of (fn := Go.Proofs.Tryz.f31) (by kernel_rfl) (by kernel_rfl) (by kernel_rfl)
noncomputable def g31 : List AV → Option (Bool × AV) := (inlineC PR e31 4 2000 31)
theorem g31_ok : CallOk PR 31 g31 := (.inl ⟨n31, inlineC_ok cx31 rfl rfl⟩)

/-! reliquary/channel.secretOf -/
/-! reliquary/channel.wrong -/
/-! reliquary/little.checked -/
noncomputable def e81 : Env := envD eqsT [(79, g79), (125, (fn2 kCv cLp.agg kBool onF))] [] [] [] [9] false []
theorem e81_ok : EnvOk PR e81 := envD_ok eqsT_ok (TabPOk.cons g79_ok (TabPOk.cons lo_ok TabPOk.nil)) TabHOk.nil TabLOk.nil TabDOk.nil
theorem cx81 : Ctx PR e81 [] (fun _ => none) 2000 81 := ctx_of e81_ok mixed (fn := Go.Proofs.Tryz.f81) (by kernel_rfl) (by kernel_rfl) (by kernel_rfl) (tabOk_none _)
theorem n81 : Enters PR 81 := enters_of (fn := Go.Proofs.Tryz.f81) (by kernel_rfl) (by kernel_rfl) (by kernel_rfl)
noncomputable def g81 : List AV → AH → Nat → Option (Bool × AV × AH) := deepC PR e81 5 2000 81 4096 true
theorem g81_ok : ActOk PR 4096 81 g81 := deepC_ok cx81 rfl rfl

/-! reliquary/little.written -/
noncomputable def e137 : Env := envD eqsT [] [] [] [] [9] false []
theorem e137_ok : EnvOk PR e137 := envD_ok eqsT_ok TabPOk.nil TabHOk.nil TabLOk.nil TabDOk.nil
theorem cx137 : Ctx PR e137 [] (fun _ => none) 2000 137 := ctx_of e137_ok mixed (fn := Go.Proofs.Tryz.f137) (by kernel_rfl) (by kernel_rfl) (by kernel_rfl) (tabOk_none _)
theorem n137 : Enters PR 137 := enters_of (fn := Go.Proofs.Tryz.f137) (by kernel_rfl) (by kernel_rfl) (by kernel_rfl)
noncomputable def g137 : List AV → Option (Bool × AV) := (inlineC PR e137 6 2000 137)
theorem g137_ok : CallOk PR 137 g137 := (.inl ⟨n137, inlineC_ok cx137 rfl rfl⟩)

/-! reliquary/little.Bytes -/
noncomputable def e97 : Env := envD eqsT [(137, g137)] [] [] [(81, g81)] [9] false [81]
theorem e97_ok : EnvOk PR e97 := envD_ok eqsT_ok (TabPOk.cons g137_ok TabPOk.nil) TabHOk.nil TabLOk.nil (TabDOk.cons n81 g81_ok TabDOk.nil)
theorem cx97 : Ctx PR e97 [] (fun _ => none) 2000 97 := ctx_of e97_ok mixed (fn := Go.Proofs.Tryz.f97) (by kernel_rfl) (by kernel_rfl) (by kernel_rfl) (tabOk_none _)
theorem n97 : Enters PR 97 := enters_of (fn := Go.Proofs.Tryz.f97) (by kernel_rfl) (by kernel_rfl) (by kernel_rfl)
noncomputable def g97 : List AV → AH → Nat → Option (Bool × AV × AH) := deepC PR e97 5 2000 97 4096 true
theorem g97_ok : ActOk PR 4096 97 g97 := deepC_ok cx97 rfl rfl

/-! reliquary/suite.KeyBytes -/
noncomputable def e52 : Env := envD eqsT [(66, g66)] [] [] [(97, g97)] [9] false [97]
theorem e52_ok : EnvOk PR e52 := envD_ok eqsT_ok (TabPOk.cons g66_ok TabPOk.nil) TabHOk.nil TabLOk.nil (TabDOk.cons n97 g97_ok TabDOk.nil)
theorem cx52 : Ctx PR e52 [] (fun _ => none) 2000 52 := ctx_of e52_ok mixed (fn := Go.Proofs.Tryz.f52) (by kernel_rfl) (by kernel_rfl) (by kernel_rfl) (tabOk_none _)
theorem n52 : Enters PR 52 := enters_of (fn := Go.Proofs.Tryz.f52) (by kernel_rfl) (by kernel_rfl) (by kernel_rfl)
noncomputable def g52 : List AV → AH → Nat → Option (Bool × AV × AH) := deepC PR e52 5 2000 52 4096 true
theorem g52_ok : ActOk PR 4096 52 g52 := deepC_ok cx52 rfl rfl

/-! reliquary/little.Gen -/
noncomputable def e34 : Env := envD eqsT [(79, g79)] [] [] [] [9] false []
theorem e34_ok : EnvOk PR e34 := envD_ok eqsT_ok (TabPOk.cons g79_ok TabPOk.nil) TabHOk.nil TabLOk.nil TabDOk.nil
theorem cx34 : Ctx PR e34 [] (fun _ => none) 2000 34 := ctx_of e34_ok mixed (fn := Go.Proofs.Tryz.f34) (by kernel_rfl) (by kernel_rfl) (by kernel_rfl) (tabOk_none _)
theorem n34 : Enters PR 34 := enters_of (fn := Go.Proofs.Tryz.f34) (by kernel_rfl) (by kernel_rfl) (by kernel_rfl)
noncomputable def g34 : List AV → Option (Bool × AV) := (inlineC PR e34 4 2000 34)
theorem g34_ok : CallOk PR 34 g34 := (.inl ⟨n34, inlineC_ok cx34 rfl rfl⟩)

/-! reliquary/suite.Gen -/
noncomputable def e8 : Env := envD eqsT [(34, g34)] [] [] [] [9] false []
theorem e8_ok : EnvOk PR e8 := envD_ok eqsT_ok (TabPOk.cons g34_ok TabPOk.nil) TabHOk.nil TabLOk.nil TabDOk.nil
theorem cx8 : Ctx PR e8 [] (fun _ => none) 2000 8 := ctx_of e8_ok mixed (fn := Go.Proofs.Tryz.f8) (by kernel_rfl) (by kernel_rfl) (by kernel_rfl) (tabOk_none _)
theorem n8 : Enters PR 8 := enters_of (fn := Go.Proofs.Tryz.f8) (by kernel_rfl) (by kernel_rfl) (by kernel_rfl)
noncomputable def g8 : List AV → Option (Bool × AV) := (inlineC PR e8 5 2000 8)
theorem g8_ok : CallOk PR 8 g8 := (.inl ⟨n8, inlineC_ok cx8 rfl rfl⟩)

/-! reliquary/suite.keys -/
noncomputable def e35 : Env := envD eqsT [(45, (fn2 c6.agg c6.agg (kInt .i64) fun a b => chainV (cmpL a b) 0)), (66, g66), (73, g73)] [] [] [] [9] false []
theorem e35_ok : EnvOk PR e35 := envD_ok eqsT_ok (TabPOk.cons cmp_ok (TabPOk.cons g66_ok (TabPOk.cons g73_ok TabPOk.nil))) TabHOk.nil TabLOk.nil TabDOk.nil
theorem cx35 : Ctx PR e35 [] (fun _ => none) 2000 35 := ctx_of e35_ok mixed (fn := Go.Proofs.Tryz.f35) (by kernel_rfl) (by kernel_rfl) (by kernel_rfl) (tabOk_none _)
theorem n35 : Enters PR 35 := enters_of (fn := Go.Proofs.Tryz.f35) (by kernel_rfl) (by kernel_rfl) (by kernel_rfl)
noncomputable def g35 : List AV → AH → Nat → Option (Bool × AV × AH) := deepC PR e35 6 2000 35 4096 true
theorem g35_ok : ActOk PR 4096 35 g35 := deepC_ok cx35 rfl rfl

/-! reliquary/little.Mul -/
noncomputable def e37 : Env := envD eqsT [(82, (fn3 kCv cLp.agg kU cLp.agg (lTimesT tmAll)))] [] [] [(81, g81)] [9] false [81]
theorem e37_ok : EnvOk PR e37 := envD_ok eqsT_ok (TabPOk.cons tmT_ok TabPOk.nil) TabHOk.nil TabLOk.nil (TabDOk.cons n81 g81_ok TabDOk.nil)
theorem cx37 : Ctx PR e37 [] (fun _ => none) 2000 37 := ctx_of e37_ok mixed (fn := Go.Proofs.Tryz.f37) (by kernel_rfl) (by kernel_rfl) (by kernel_rfl) (tabOk_none _)
theorem n37 : Enters PR 37 := enters_of (fn := Go.Proofs.Tryz.f37) (by kernel_rfl) (by kernel_rfl) (by kernel_rfl)
noncomputable def g37 : List AV → Option (Bool × AV) := (inlineC PR e37 5 2000 37)
theorem g37_ok : CallOk PR 37 g37 := (.inl ⟨n37, inlineC_ok cx37 rfl rfl⟩)

/-! reliquary/suite.KeyMul -/
noncomputable def e9 : Env := envD eqsT [(37, g37)] [] [] [(35, g35)] [9] false [35]
theorem e9_ok : EnvOk PR e9 := envD_ok eqsT_ok (TabPOk.cons g37_ok TabPOk.nil) TabHOk.nil TabLOk.nil (TabDOk.cons n35 g35_ok TabDOk.nil)
theorem cx9 : Ctx PR e9 [] (fun _ => none) 2000 9 := ctx_of e9_ok mixed (fn := Go.Proofs.Tryz.f9) (by kernel_rfl) (by kernel_rfl) (by kernel_rfl) (tabOk_none _)
theorem n9 : Enters PR 9 := enters_of (fn := Go.Proofs.Tryz.f9) (by kernel_rfl) (by kernel_rfl) (by kernel_rfl)
noncomputable def g9 : List AV → Option (Bool × AV) := (inlineC PR e9 6 2000 9)
theorem g9_ok : CallOk PR 9 g9 := (.inl ⟨n9, inlineC_ok cx9 rfl rfl⟩)

/-! reliquary/channel.times -/
/-! reliquary/channel.own -/
/-! slices.Clone[[]byte,byte] -/
end Go.Rq.Cl

/- A closed law's functions, each gone through where it is called. Written by a program of ours. -/
namespace Go.Rq.Cl
open Go Go.Proofs Go.Rq Go.Rq.Sm

/-! reliquary/channel.Begin -/
/-! reliquary/channel.Key -/
/-! reliquary/reliquarylaw16.key -/
/-! reliquary/little.Read -/
/-! reliquary/suite.ReadKey -/
/-! reliquary/mac.block -/
/-! reliquary/digest.begin -/
/-! reliquary/digest.New -/
/-! (*reliquary/digest.Hash).none -/
/-! (*reliquary/digest.Hash).Write -/
/-! (*reliquary/digest.Hash).Sum -/
/-! reliquary/mac.Code -/
/-! reliquary/mac.Extract -/
/-! reliquary/mac.Expand -/
/-! reliquary/mac.Derive -/
/-! (reliquary/wire.laid).put -/
/-! reliquary/wire.Fields -/
/-! reliquary/channel.text -/
/-! reliquary/channel.agreed -/
/-! reliquary/cipher.wrong -/
/-! reliquary/cipher.low32 -/
/-! math/bits.RotateLeft32 -/
/-! reliquary/cipher.quarter -/
/-! reliquary/cipher.block -/
/-! reliquary/cipher.stream -/
/-! reliquary/cipher.filled -/
/-! reliquary/cipher.low64 -/
/-! (*reliquary/cipher.poly).fold -/
/-! (*reliquary/cipher.poly).times -/
/-! (*reliquary/cipher.poly).piece -/
/-! (*reliquary/cipher.poly).end -/
/-! reliquary/cipher.tagOf -/
/-! reliquary/cipher.sealed -/
/-! reliquary/cipher.Seal -/
/-! reliquary/wire.Int -/
/-! (*reliquary/channel.side).epoch -/
/-! reliquary/channel.nonce -/
/-! (*reliquary/channel.side).seal -/
/-! reliquary/channel.Answer -/
/-! reliquary/reliquarykit.CopyBytes -/
end Go.Rq.Cl

/- A closed law's functions, each gone through where it is called. Written by a program of ours. -/
namespace Go.Rq.Cl
open Go Go.Proofs Go.Rq Go.Rq.Sm

/-! reliquary/channel.width -/
/-! (*reliquary/wire.reader).take -/
/-! (*reliquary/wire.reader).number -/
/-! (*reliquary/wire.reader).whole -/
/-! reliquary/wire.ReadInt -/
/-! reliquary/cipher.Open -/
/-! (*reliquary/channel.side).comes -/
/-! (*reliquary/channel.side).took -/
/-! (*reliquary/channel.side).open -/
/-! (*reliquary/channel.Opening).Finish -/
/-! (*reliquary/channel.Channel).none -/
/-! (*reliquary/channel.Channel).Sent -/
/-! (*reliquary/channel.Channel).Highest -/
/-! (*reliquary/channel.Channel).Seal -/
/-! (*reliquary/channel.Channel).Open -/
/-! reliquary/channel.Point -/
/-! reliquary/channel.boxKey -/
/-! reliquary/channel.SealPoint -/
/-! reliquary/channel.OpenPoint -/
/-! reliquary/reliquarylaw16.ChannelKnown -/
/-! reliquary/suite.scalars -/
noncomputable def e83 : Env := envD eqsT [(45, (fn2 c6.agg c6.agg (kInt .i64) fun a b => chainV (cmpL a b) 0)), (72, g72), (73, g73)] [] [(127, (layP kMd 137 cFa 0 modS))] [] [9] false []
theorem e83_ok : EnvOk PR e83 := envD_ok eqsT_ok (TabPOk.cons cmp_ok (TabPOk.cons g72_ok (TabPOk.cons g73_ok TabPOk.nil))) TabHOk.nil (TabLOk.cons nw_ent newS_okL TabLOk.nil) TabDOk.nil
theorem cx83 : Ctx PR e83 [] (fun _ => none) 2000 83 := ctx_of e83_ok mixed (fn := Go.Proofs.Tryz.f83) (by kernel_rfl) (by kernel_rfl) (by kernel_rfl) (tabOk_none _)
theorem n83 : Enters PR 83 := enters_of (fn := Go.Proofs.Tryz.f83) (by kernel_rfl) (by kernel_rfl) (by kernel_rfl)
noncomputable def g83 : List AV → AH → Nat → Option (Bool × AV × AH) := deepC PR e83 5 2000 83 4096 true
theorem g83_ok : ActOk PR 4096 83 g83 := deepC_ok cx83 rfl rfl

/-! reliquary/suite.Sub$1 -/
noncomputable def e89 : Env := envD eqsT [] [(90, (rdp 137 cFa (mc2 c6.agg c6.agg) c6.agg (fun m x => qsubW m x.1 x.2)))] [] [] [9] false [90]
theorem e89_ok : EnvOk PR e89 := envD_ok eqsT_ok TabPOk.nil (TabHOk.cons qsub_ent qsub_ok TabHOk.nil) TabLOk.nil TabDOk.nil
theorem cx89 : Ctx PR e89 [] (fun _ => none) 2000 89 := ctx_of e89_ok mixed (fn := Go.Proofs.Tryz.f89) (by kernel_rfl) (by kernel_rfl) (by kernel_rfl) (tabOk_none _)
theorem n89 : Enters PR 89 := enters_of (fn := Go.Proofs.Tryz.f89) (by kernel_rfl) (by kernel_rfl) (by kernel_rfl)
noncomputable def g89 : List AV → AH → Nat → Option (Bool × AV × AH) := deepC PR e89 4 2000 89 4096 true
theorem g89_ok : ActOk PR 4096 89 g89 := deepC_ok cx89 rfl rfl

/-! reliquary/suite.Mul$1 -/
noncomputable def e39 : Env := envD eqsT [] [(40, (rdp 137 cFa (mc2 c6.agg c6.agg) c6.agg (fun m x => qmulW m x.1 x.2)))] [] [] [9] false [40]
theorem e39_ok : EnvOk PR e39 := envD_ok eqsT_ok TabPOk.nil (TabHOk.cons qmul_ent qmul_ok TabHOk.nil) TabLOk.nil TabDOk.nil
theorem cx39 : Ctx PR e39 [] (fun _ => none) 2000 39 := ctx_of e39_ok mixed (fn := Go.Proofs.Tryz.f39) (by kernel_rfl) (by kernel_rfl) (by kernel_rfl) (tabOk_none _)
theorem n39 : Enters PR 39 := enters_of (fn := Go.Proofs.Tryz.f39) (by kernel_rfl) (by kernel_rfl) (by kernel_rfl)
noncomputable def g39 : List AV → AH → Nat → Option (Bool × AV × AH) := deepC PR e39 4 2000 39 4096 true
theorem g39_ok : ActOk PR 4096 39 g39 := deepC_ok cx39 rfl rfl

/-! reliquary/suite.Add$1 -/
noncomputable def e41 : Env := envD eqsT [] [(42, (rdp 137 cFa (mc2 c6.agg c6.agg) c6.agg (fun m x => qaddW m x.1 x.2)))] [] [] [9] false [42]
theorem e41_ok : EnvOk PR e41 := envD_ok eqsT_ok TabPOk.nil (TabHOk.cons qadd_ent qadd_ok TabHOk.nil) TabLOk.nil TabDOk.nil
theorem cx41 : Ctx PR e41 [] (fun _ => none) 2000 41 := ctx_of e41_ok mixed (fn := Go.Proofs.Tryz.f41) (by kernel_rfl) (by kernel_rfl) (by kernel_rfl) (tabOk_none _)
theorem n41 : Enters PR 41 := enters_of (fn := Go.Proofs.Tryz.f41) (by kernel_rfl) (by kernel_rfl) (by kernel_rfl)
noncomputable def g41 : List AV → AH → Nat → Option (Bool × AV × AH) := deepC PR e41 4 2000 41 4096 true
theorem g41_ok : ActOk PR 4096 41 g41 := deepC_ok cx41 rfl rfl

/-! reliquary/suite.done -/
noncomputable def e38 : Env := envD eqsT [] [] [] [(83, g83), (89, g89), (39, g39), (41, g41)] [9] false [83, 89, 39, 41]
theorem e38_ok : EnvOk PR e38 := envD_ok eqsT_ok TabPOk.nil TabHOk.nil TabLOk.nil (TabDOk.cons n83 g83_ok (TabDOk.cons n89 g89_ok (TabDOk.cons n39 g39_ok (TabDOk.cons n41 g41_ok TabDOk.nil))))
theorem cx38 : Ctx PR e38 [] (fun _ => none) 2000 38 := ctx_of e38_ok mixed (fn := Go.Proofs.Tryz.f38) (by kernel_rfl) (by kernel_rfl) (by kernel_rfl) (tabOk_none _)
theorem n38 : Enters PR 38 := enters_of (fn := Go.Proofs.Tryz.f38) (by kernel_rfl) (by kernel_rfl) (by kernel_rfl)
noncomputable def g38 : List AV → AH → Nat → Option (Bool × AV × AH) := deepC PR e38 5 2000 38 4096 true
theorem g38_ok : ActOk PR 4096 38 g38 := deepC_ok cx38 rfl rfl

/-! reliquary/suite.Mul -/
noncomputable def e10 : Env := envD eqsT [] [] [] [(38, g38)] [9] false [38]
theorem e10_ok : EnvOk PR e10 := envD_ok eqsT_ok TabPOk.nil TabHOk.nil TabLOk.nil (TabDOk.cons n38 g38_ok TabDOk.nil)
theorem cx10 : Ctx PR e10 [] (fun _ => none) 2000 10 := ctx_of e10_ok mixed (fn := Go.Proofs.Tryz.f10) (by kernel_rfl) (by kernel_rfl) (by kernel_rfl) (tabOk_none _)
theorem n10 : Enters PR 10 := enters_of (fn := Go.Proofs.Tryz.f10) (by kernel_rfl) (by kernel_rfl) (by kernel_rfl)
noncomputable def g10 : List AV → Option (Bool × AV) := (inlineC PR e10 4 2000 10)
theorem g10_ok : CallOk PR 10 g10 := (.inl ⟨n10, inlineC_ok cx10 rfl rfl⟩)

/-! reliquary/suite.Sub -/
noncomputable def e46 : Env := envD eqsT [] [] [] [(38, g38)] [9] false [38]
theorem e46_ok : EnvOk PR e46 := envD_ok eqsT_ok TabPOk.nil TabHOk.nil TabLOk.nil (TabDOk.cons n38 g38_ok TabDOk.nil)
theorem cx46 : Ctx PR e46 [] (fun _ => none) 2000 46 := ctx_of e46_ok mixed (fn := Go.Proofs.Tryz.f46) (by kernel_rfl) (by kernel_rfl) (by kernel_rfl) (tabOk_none _)
theorem n46 : Enters PR 46 := enters_of (fn := Go.Proofs.Tryz.f46) (by kernel_rfl) (by kernel_rfl) (by kernel_rfl)
noncomputable def g46 : List AV → Option (Bool × AV) := (inlineC PR e46 4 2000 46)
theorem g46_ok : CallOk PR 46 g46 := (.inl ⟨n46, inlineC_ok cx46 rfl rfl⟩)

/-! reliquary/words.Shift -/
noncomputable def e75 : Env := envD eqsT [] [] [] [] [9] false []
theorem e75_ok : EnvOk PR e75 := envD_ok eqsT_ok TabPOk.nil TabHOk.nil TabLOk.nil TabDOk.nil
theorem cx75 : Ctx PR e75 [] (fun _ => none) 2000 75 := ctx_of e75_ok mixed (fn := Go.Proofs.Tryz.f75) (by kernel_rfl) (by kernel_rfl) (by kernel_rfl) (tabOk_none _)
theorem n75 : Enters PR 75 := enters_of (fn := Go.Proofs.Tryz.f75) (by kernel_rfl) (by kernel_rfl) (by kernel_rfl)
noncomputable def g75 : List AV → Option (Bool × AV) := (inlineC PR e75 7 2000 75)
theorem g75_ok : CallOk PR 75 g75 := (.inl ⟨n75, inlineC_ok cx75 rfl rfl⟩)

/-! (*reliquary/modulus.Modulus).half -/
noncomputable def e130 : Env := envD eqsT [(75, g75), (86, (fn2 c6.agg c6.agg kWB wAddW))] [] [] [] [9] false []
theorem e130_ok : EnvOk PR e130 := envD_ok eqsT_ok (TabPOk.cons g75_ok (TabPOk.cons wadd_ok TabPOk.nil)) TabHOk.nil TabLOk.nil TabDOk.nil
theorem cx130 : Ctx PR e130 [] (fun _ => none) 2000 130 := ctx_of e130_ok mixed (fn := Go.Proofs.Tryz.f130) (by kernel_rfl) (by kernel_rfl) (by kernel_rfl) (tabOk_none _)
theorem n130 : Enters PR 130 := enters_of (fn := Go.Proofs.Tryz.f130) (by kernel_rfl) (by kernel_rfl) (by kernel_rfl)
noncomputable def g130 : List AV → AH → Option (Bool × AV × AH) := viewG PR e130 [] 2000 130
theorem g130_ok : HeapOk PR 130 g130 := view_ok cx130

/-! (*reliquary/modulus.Modulus).Inv -/
noncomputable def e91 : Env := envD eqsT [(27, (fn1 kU c6.agg ofW)), (45, (fn2 c6.agg c6.agg (kInt .i64) fun a b => chainV (cmpL a b) 0)), (75, g75), (77, (fn2 c6.agg c6.agg kWB wSubW))] [(84, (rdp 137 cFa mc0 kBool (fun m _ => moNone m))), (87, (rdp 137 cFa (mc1 c6.agg) c6.agg moRedW)), (90, (rdp 137 cFa (mc2 c6.agg c6.agg) c6.agg (fun m x => qsubW m x.1 x.2))), (130, g130)] [] [] [9] false [84, 87, 90, 130]
theorem e91_ok : EnvOk PR e91 := envD_ok eqsT_ok (TabPOk.cons of_ok (TabPOk.cons cmp_ok (TabPOk.cons g75_ok (TabPOk.cons wsub_ok TabPOk.nil)))) (TabHOk.cons mn_ent mn_ok (TabHOk.cons mred_ent mred_ok (TabHOk.cons qsub_ent qsub_ok (TabHOk.cons n130 g130_ok TabHOk.nil)))) TabLOk.nil TabDOk.nil
theorem cx91 : Ctx PR e91 [] (fun _ => none) 2000 91 := ctx_of e91_ok mixed (fn := Go.Proofs.Tryz.f91) (by kernel_rfl) (by kernel_rfl) (by kernel_rfl) (tabOk_none _)
theorem n91 : Enters PR 91 := enters_of (fn := Go.Proofs.Tryz.f91) (by kernel_rfl) (by kernel_rfl) (by kernel_rfl)
noncomputable def g91 : List AV → AH → Nat → Option (Bool × AV × AH) := deepC PR e91 7 2000 91 4096 true
theorem g91_ok : ActOk PR 4096 91 g91 := deepC_ok cx91 rfl rfl

/-! reliquary/suite.Inv -/
noncomputable def e47 : Env := envD eqsT [] [] [] [(83, g83), (91, g91)] [9] false [83, 91]
theorem e47_ok : EnvOk PR e47 := envD_ok eqsT_ok TabPOk.nil TabHOk.nil TabLOk.nil (TabDOk.cons n83 g83_ok (TabDOk.cons n91 g91_ok TabDOk.nil))
theorem cx47 : Ctx PR e47 [] (fun _ => none) 2000 47 := ctx_of e47_ok mixed (fn := Go.Proofs.Tryz.f47) (by kernel_rfl) (by kernel_rfl) (by kernel_rfl) (tabOk_none _)
theorem n47 : Enters PR 47 := enters_of (fn := Go.Proofs.Tryz.f47) (by kernel_rfl) (by kernel_rfl) (by kernel_rfl)
noncomputable def g47 : List AV → Option (Bool × AV) := (inlineC PR e47 5 2000 47)
theorem g47_ok : CallOk PR 47 g47 := (.inl ⟨n47, inlineC_ok cx47 rfl rfl⟩)

/-! reliquary/proof.Extract -/
noncomputable def e13 : Env := envD eqsT [(10, g10), (31, g31), (45, (fn2 c6.agg c6.agg (kInt .i64) fun a b => chainV (cmpL a b) 0)), (46, g46), (47, g47)] [] [] [] [9] false []
theorem e13_ok : EnvOk PR e13 := envD_ok eqsT_ok (TabPOk.cons g10_ok (TabPOk.cons g31_ok (TabPOk.cons cmp_ok (TabPOk.cons g46_ok (TabPOk.cons g47_ok TabPOk.nil))))) TabHOk.nil TabLOk.nil TabDOk.nil
theorem cx13 : Ctx PR e13 [] (fun _ => none) 2000 13 := ctx_of e13_ok mixed (fn := Go.Proofs.Tryz.f13) (by kernel_rfl) (by kernel_rfl) (by kernel_rfl) (tabOk_none _)
theorem n13 : Enters PR 13 := enters_of (fn := Go.Proofs.Tryz.f13) (by kernel_rfl) (by kernel_rfl) (by kernel_rfl)
noncomputable def g13 : List AV → Option (Bool × AV) := (inlineC PR e13 7 2000 13)
theorem g13_ok : CallOk PR 13 g13 := (.inl ⟨n13, inlineC_ok cx13 rfl rfl⟩)

/-! reliquary/proof.checked -/
noncomputable def e43 : Env := envD eqsT [(31, g31), (45, (fn2 c6.agg c6.agg (kInt .i64) fun a b => chainV (cmpL a b) 0)), (66, g66)] [] [] [] [9] false []
theorem e43_ok : EnvOk PR e43 := envD_ok eqsT_ok (TabPOk.cons g31_ok (TabPOk.cons cmp_ok (TabPOk.cons g66_ok TabPOk.nil))) TabHOk.nil TabLOk.nil TabDOk.nil
theorem cx43 : Ctx PR e43 [] (fun _ => none) 2000 43 := ctx_of e43_ok mixed (fn := Go.Proofs.Tryz.f43) (by kernel_rfl) (by kernel_rfl) (by kernel_rfl) (tabOk_none _)
theorem n43 : Enters PR 43 := enters_of (fn := Go.Proofs.Tryz.f43) (by kernel_rfl) (by kernel_rfl) (by kernel_rfl)
noncomputable def g43 : List AV → AH → Nat → Option (Bool × AV × AH) := deepC PR e43 6 2000 43 4096 true
theorem g43_ok : ActOk PR 4096 43 g43 := deepC_ok cx43 rfl rfl

/-! reliquary/proof.times -/
noncomputable def e49 : Env := envD eqsT [(9, g9)] [] [] [] [9] false []
theorem e49_ok : EnvOk PR e49 := envD_ok eqsT_ok (TabPOk.cons g9_ok TabPOk.nil) TabHOk.nil TabLOk.nil TabDOk.nil
theorem cx49 : Ctx PR e49 [] (fun _ => none) 2000 49 := ctx_of e49_ok mixed (fn := Go.Proofs.Tryz.f49) (by kernel_rfl) (by kernel_rfl) (by kernel_rfl) (tabOk_none _)
theorem n49 : Enters PR 49 := enters_of (fn := Go.Proofs.Tryz.f49) (by kernel_rfl) (by kernel_rfl) (by kernel_rfl)
noncomputable def g49 : List AV → Option (Bool × AV) := (inlineC PR e49 4 2000 49)
theorem g49_ok : CallOk PR 49 g49 := (.inl ⟨n49, inlineC_ok cx49 rfl rfl⟩)

/-! reliquary/suite.bits32 -/
noncomputable def e201 : Env := envD eqsT [] [] [] [] [9] false []
theorem e201_ok : EnvOk PR e201 := envD_ok eqsT_ok TabPOk.nil TabHOk.nil TabLOk.nil TabDOk.nil
theorem cx201 : Ctx PR e201 [] (fun _ => none) 2000 201 := ctx_of e201_ok mixed (fn := Go.Proofs.Tryz.f201) (by kernel_rfl) (by kernel_rfl) (by kernel_rfl) (tabOk_none _)
theorem n201 : Enters PR 201 := enters_of (fn := Go.Proofs.Tryz.f201) (by kernel_rfl) (by kernel_rfl) (by kernel_rfl)
noncomputable def g201 : List AV → AH → Nat → Option (Bool × AV × AH) := deepC PR e201 4 2000 201 4096 true
theorem g201_ok : ActOk PR 4096 201 g201 := deepC_ok cx201 rfl rfl

/-! reliquary/suite.joined -/
noncomputable def e181 : Env := envD eqsT [] [] [] [(201, g201)] [9] false [201]
theorem e181_ok : EnvOk PR e181 := envD_ok eqsT_ok TabPOk.nil TabHOk.nil TabLOk.nil (TabDOk.cons n201 g201_ok TabDOk.nil)
theorem cx181 : Ctx PR e181 [] (fun _ => none) 2000 181 := ctx_of e181_ok mixed (fn := Go.Proofs.Tryz.f181) (by kernel_rfl) (by kernel_rfl) (by kernel_rfl) (tabOk_none _)
theorem n181 : Enters PR 181 := enters_of (fn := Go.Proofs.Tryz.f181) (by kernel_rfl) (by kernel_rfl) (by kernel_rfl)
noncomputable def g181 : List AV → AH → Nat → Option (Bool × AV × AH) := deepC PR e181 5 2000 181 4096 true
theorem g181_ok : ActOk PR 4096 181 g181 := deepC_ok cx181 rfl rfl

/-! reliquary/suite.text -/
noncomputable def e153 : Env := envD eqsT [(72, g72)] [] [] [(181, g181)] [9] false [181]
theorem e153_ok : EnvOk PR e153 := envD_ok eqsT_ok (TabPOk.cons g72_ok TabPOk.nil) TabHOk.nil TabLOk.nil (TabDOk.cons n181 g181_ok TabDOk.nil)
theorem cx153 : Ctx PR e153 [] (fun _ => none) 2000 153 := ctx_of e153_ok mixed (fn := Go.Proofs.Tryz.f153) (by kernel_rfl) (by kernel_rfl) (by kernel_rfl) (tabOk_none _)
theorem n153 : Enters PR 153 := enters_of (fn := Go.Proofs.Tryz.f153) (by kernel_rfl) (by kernel_rfl) (by kernel_rfl)
noncomputable def g153 : List AV → AH → Nat → Option (Bool × AV × AH) := deepC PR e153 5 2000 153 4096 true
theorem g153_ok : ActOk PR 4096 153 g153 := deepC_ok cx153 rfl rfl

/-! reliquary/words.Read -/
noncomputable def e138 : Env := envD eqsT [] [] [] [] [9] false []
theorem e138_ok : EnvOk PR e138 := envD_ok eqsT_ok TabPOk.nil TabHOk.nil TabLOk.nil TabDOk.nil
theorem cx138 : Ctx PR e138 [] (fun _ => none) 2000 138 := ctx_of e138_ok mixed (fn := Go.Proofs.Tryz.f138) (by kernel_rfl) (by kernel_rfl) (by kernel_rfl) (tabOk_none _)
theorem n138 : Enters PR 138 := enters_of (fn := Go.Proofs.Tryz.f138) (by kernel_rfl) (by kernel_rfl) (by kernel_rfl)
noncomputable def g138 : List AV → AH → Nat → Option (Bool × AV × AH) := deepC PR e138 6 2000 138 4096 true
theorem g138_ok : ActOk PR 4096 138 g138 := deepC_ok cx138 rfl rfl

/-! (*reliquary/modulus.Modulus).Wide -/
noncomputable def e183 : Env := envD eqsT [] [(42, (rdp 137 cFa (mc2 c6.agg c6.agg) c6.agg (fun m x => qaddW m x.1 x.2))), (84, (rdp 137 cFa mc0 kBool (fun m _ => moNone m))), (85, (rdp 137 cFa (mc2 c6.agg c6.agg) c6.agg (fun m x => moMontW m x.1 x.2)))] [] [] [9] false [42, 84, 85]
theorem e183_ok : EnvOk PR e183 := envD_ok eqsT_ok TabPOk.nil (TabHOk.cons qadd_ent qadd_ok (TabHOk.cons mn_ent mn_ok (TabHOk.cons mm_ent mm_ok TabHOk.nil))) TabLOk.nil TabDOk.nil
theorem cx183 : Ctx PR e183 [] (fun _ => none) 2000 183 := ctx_of e183_ok mixed (fn := Go.Proofs.Tryz.f183) (by kernel_rfl) (by kernel_rfl) (by kernel_rfl) (tabOk_none _)
theorem n183 : Enters PR 183 := enters_of (fn := Go.Proofs.Tryz.f183) (by kernel_rfl) (by kernel_rfl) (by kernel_rfl)
noncomputable def g183 : List AV → AH → Nat → Option (Bool × AV × AH) := deepC PR e183 5 2000 183 4096 true
theorem g183_ok : ActOk PR 4096 183 g183 := deepC_ok cx183 rfl rfl

/-! reliquary/suite.wide -/
noncomputable def e154 : Env := envD eqsT [] [(182, sumV)] [(127, (layP kMd 137 cFa 0 modS))] [(138, g138), (183, g183)] [9] false [138, 183, 182]
theorem e154_ok : EnvOk PR e154 := envD_ok eqsT_ok TabPOk.nil (TabHOk.cons dsum_ent dsum_ok TabHOk.nil) (TabLOk.cons nw_ent newS_okL TabLOk.nil) (TabDOk.cons n138 g138_ok (TabDOk.cons n183 g183_ok TabDOk.nil))
theorem cx154 : Ctx PR e154 [] (fun _ => none) 2000 154 := ctx_of e154_ok mixed (fn := Go.Proofs.Tryz.f154) (by kernel_rfl) (by kernel_rfl) (by kernel_rfl) (tabOk_none _)
theorem n154 : Enters PR 154 := enters_of (fn := Go.Proofs.Tryz.f154) (by kernel_rfl) (by kernel_rfl) (by kernel_rfl)
noncomputable def g154 : List AV → AH → Nat → Option (Bool × AV × AH) := deepC PR e154 6 2000 154 4096 true
theorem g154_ok : ActOk PR 4096 154 g154 := deepC_ok cx154 rfl rfl
end Go.Rq.Cl

/- A closed law's functions, each gone through where it is called. Written by a program of ours. -/
namespace Go.Rq.Cl
open Go Go.Proofs Go.Rq Go.Rq.Sm

/-! reliquary/suite.HashNum -/
noncomputable def e114 : Env := envD eqsT [(73, g73)] [] [] [(153, g153), (154, g154)] [9] false [153, 154]
theorem e114_ok : EnvOk PR e114 := envD_ok eqsT_ok (TabPOk.cons g73_ok TabPOk.nil) TabHOk.nil TabLOk.nil (TabDOk.cons n153 g153_ok (TabDOk.cons n154 g154_ok TabDOk.nil))
theorem cx114 : Ctx PR e114 [] (fun _ => none) 2000 114 := ctx_of e114_ok mixed (fn := Go.Proofs.Tryz.f114) (by kernel_rfl) (by kernel_rfl) (by kernel_rfl) (tabOk_none _)
theorem n114 : Enters PR 114 := enters_of (fn := Go.Proofs.Tryz.f114) (by kernel_rfl) (by kernel_rfl) (by kernel_rfl)
noncomputable def g114 : List AV → AH → Nat → Option (Bool × AV × AH) := deepC PR e114 5 2000 114 4096 true
theorem g114_ok : ActOk PR 4096 114 g114 := deepC_ok cx114 rfl rfl

/-! reliquary/proof.challenge -/
noncomputable def e70 : Env := envD eqsT [] [] [] [(52, g52), (114, g114)] [9] false [52, 114]
theorem e70_ok : EnvOk PR e70 := envD_ok eqsT_ok TabPOk.nil TabHOk.nil TabLOk.nil (TabDOk.cons n52 g52_ok (TabDOk.cons n114 g114_ok TabDOk.nil))
theorem cx70 : Ctx PR e70 [] (fun _ => none) 2000 70 := ctx_of e70_ok mixed (fn := Go.Proofs.Tryz.f70) (by kernel_rfl) (by kernel_rfl) (by kernel_rfl) (tabOk_none _)
theorem n70 : Enters PR 70 := enters_of (fn := Go.Proofs.Tryz.f70) (by kernel_rfl) (by kernel_rfl) (by kernel_rfl)
noncomputable def g70 : List AV → AH → Nat → Option (Bool × AV × AH) := deepC PR e70 6 2000 70 4096 true
theorem g70_ok : ActOk PR 4096 70 g70 := deepC_ok cx70 rfl rfl

/-! reliquary/suite.Add -/
noncomputable def e11 : Env := envD eqsT [] [] [] [(38, g38)] [9] false [38]
theorem e11_ok : EnvOk PR e11 := envD_ok eqsT_ok TabPOk.nil TabHOk.nil TabLOk.nil (TabDOk.cons n38 g38_ok TabDOk.nil)
theorem cx11 : Ctx PR e11 [] (fun _ => none) 2000 11 := ctx_of e11_ok mixed (fn := Go.Proofs.Tryz.f11) (by kernel_rfl) (by kernel_rfl) (by kernel_rfl) (tabOk_none _)
theorem n11 : Enters PR 11 := enters_of (fn := Go.Proofs.Tryz.f11) (by kernel_rfl) (by kernel_rfl) (by kernel_rfl)
noncomputable def g11 : List AV → Option (Bool × AV) := (inlineC PR e11 4 2000 11)
theorem g11_ok : CallOk PR 11 g11 := (.inl ⟨n11, inlineC_ok cx11 rfl rfl⟩)

/-! reliquary/proof.answer -/
noncomputable def e71 : Env := envD eqsT [(10, g10), (11, g11)] [] [] [] [9] false []
theorem e71_ok : EnvOk PR e71 := envD_ok eqsT_ok (TabPOk.cons g10_ok (TabPOk.cons g11_ok TabPOk.nil)) TabHOk.nil TabLOk.nil TabDOk.nil
theorem cx71 : Ctx PR e71 [] (fun _ => none) 2000 71 := ctx_of e71_ok mixed (fn := Go.Proofs.Tryz.f71) (by kernel_rfl) (by kernel_rfl) (by kernel_rfl) (tabOk_none _)
theorem n71 : Enters PR 71 := enters_of (fn := Go.Proofs.Tryz.f71) (by kernel_rfl) (by kernel_rfl) (by kernel_rfl)
noncomputable def g71 : List AV → Option (Bool × AV) := (inlineC PR e71 5 2000 71)
theorem g71_ok : CallOk PR 71 g71 := (.inl ⟨n71, inlineC_ok cx71 rfl rfl⟩)

/-! reliquary/proof.Know -/
noncomputable def e28 : Env := envD eqsT [(49, g49), (71, g71)] [] [] [(43, g43), (70, g70)] [9] false [43, 70]
theorem e28_ok : EnvOk PR e28 := envD_ok eqsT_ok (TabPOk.cons g49_ok (TabPOk.cons g71_ok TabPOk.nil)) TabHOk.nil TabLOk.nil (TabDOk.cons n43 g43_ok (TabDOk.cons n70 g70_ok TabDOk.nil))
theorem cx28 : Ctx PR e28 [] (fun _ => none) 2000 28 := ctx_of e28_ok mixed (fn := Go.Proofs.Tryz.f28) (by kernel_rfl) (by kernel_rfl) (by kernel_rfl) (tabOk_none _)
theorem n28 : Enters PR 28 := enters_of (fn := Go.Proofs.Tryz.f28) (by kernel_rfl) (by kernel_rfl) (by kernel_rfl)
end Go.Rq.Cl
