import Derived.Test.YtbamkkbefjgeoaaGreatDoorRq05
import Derived.Test.YtbamkkbefjgeoaaGreatDoorRq26
import Derived.Test.YtbamkkbefjgeoaaGreatDoorRq27
import Derived.Test.YtbamkkbefjgeoaaGreatDoorRq16
import Derived.Test.YtbamkkbefjgeoaaGreatDoorRq20
import Derived.Test.YtbamkkbefjgeoaaGreatDoorRq10
namespace Go.Rq.Cl
open Go Go.Proofs Go.Rq Go.Rq.Sm
theorem dsum_ent : Enters PR 182 := entersB (by kernel_rfl)
theorem dsum_gives (s : SA) (c1 : Nat) (t : TypeId) (l : List Int) (hs : shS s = true) (hl : l.length = s.len) : GivesH (afun PR (sdE shaF) [] (fun _ => none) 10 182 [s.at 0 c1] (hpS 0 s t (encL (cInt .u8) l)) 1) ((cBy 32).agg.val (shaG shaF l)) := by
 cases s with
 | nil => cases hs
 | slc n => cases hs
 | own es n =>
  unfold shS at hs
  obtain ⟨h1, h2⟩ := and_parts hs
  obtain rfl := Nat.eq_of_beq_eq_true h1
  have hm : n ∈ lensS := memN_spec.1 h2
  have hn : l.length = n := hl
  rw [lstB_of l]
  generalize (fun i => l.getD i 0) = b
  rw [hn]
  simp only [lensS, List.mem_cons, List.not_mem_nil, or_false] at hm
  rcases hm with rfl
  . exact givesH (dg_run74 shaF b t) (holds_leaf ((cBy 32).agg.h1 _))
theorem dsum_ok : HeapOk PR 182 sumV := by
 rw [sumV_eq]
 exact s1V_ok (E := fun _ => sdE shaF) (sym := []) (lf := 10) (fun _ => sdE_ok) mixed (fn := Tryz.f182) (c := bodyOf PR 182) (by kernel_rfl) (by kernel_rfl) (fun _ => sd_cod) dsum_gives
theorem tx21_ent : Enters PR 29 := entersB (by kernel_rfl)
def tx21 : List AV -> Nat -> Option (Bool × AV × Blk) := layK 5 ⟨false, 5, [.v (.int .u8 119), .v (.int .u8 111), .v (.int .u8 114), .v (.int .u8 100), .v (.int .u8 115)]⟩
theorem tx21_ok : LayOk PR 29 tx21 :=
 layK_ok (fn := Tryz.f29) (t := 47) (e := 5) Tryz.func29 rfl ⟨rfl, rfl, rfl⟩ ⟨rfl, rfl, rfl⟩ ⟨rfl, rfl, rfl⟩ ⟨rfl, rfl, rfl⟩ rfl rfl (by kernel_rfl) (by kernel_rfl) (fun z => by kernel_rfl)
structure TmE where
 s : Su
 x : Nat
 y : Nat
 z : Bool
 n : Nat
 rx : Nat
 ry : Nat
 rz : Bool
def TmE.p (e : TmE) : Lp := (BitVec.ofNat 64 e.x, BitVec.ofNat 64 e.y, e.z)
def TmE.r (e : TmE) : Lp := (BitVec.ofNat 64 e.rx, BitVec.ofNat 64 e.ry, e.rz)
def TmE.fact (e : TmE) : Prop := lTimes e.s e.p (BitVec.ofNat 64 e.n) = e.r
def eqSu : Su -> Su -> Bool
 | .lit, .lit => true
 | .mid, .mid => true
 | _, _ => false
theorem eqSu_ok {a b : Su} (h : eqSu a b = true) : a = b := by cases a <;> cases b <;> first | rfl | cases h
def eqU (a : BitVec 64) (n : Nat) : Bool := Nat.beq a.toNat (BitVec.ofNat 64 n).toNat
theorem eqU_ok {a : BitVec 64} {n : Nat} (h : eqU a n = true) : a = BitVec.ofNat 64 n := BitVec.eq_of_toNat_eq (Nat.eq_of_beq_eq_true h)
def eqBl (a b : Bool) : Bool := bif a then b else !b
theorem eqBl_ok {a b : Bool} (h : eqBl a b = true) : a = b := by cases a <;> cases b <;> first | rfl | cases h
def lookTm : List TmE -> Su -> Lp -> BitVec 64 -> Option Lp
 | [], _, _, _ => none
 | e :: t, s, p, n => bif eqU p.1 e.x then (bif eqU n e.n then (bif eqU p.2.1 e.y && (eqBl p.2.2 e.z && eqSu s e.s) then some e.r else lookTm t s p n) else lookTm t s p n) else lookTm t s p n
def TmOk (T : List TmE) : Prop := ∀ e ∈ T, e.fact
theorem TmOk.nil : TmOk [] := fun _ h => by cases h
theorem TmOk.cons {e : TmE} {T : List TmE} (h : e.fact) (t : TmOk T) : TmOk (e :: T) := fun d hd => by
 rcases List.mem_cons.1 hd with rfl | hd
 . exact h
 . exact t d hd
theorem lookTm_ok : ∀ {T : List TmE} {s : Su} {p : Lp} {n : BitVec 64} {r : Lp}, TmOk T -> lookTm T s p n = some r -> lTimes s p n = r
 | [], _, _, _, _, _, h => by cases h
 | e :: t, s, p, n, r, ok, h => by
  have rest : lookTm t s p n = some r -> lTimes s p n = r := lookTm_ok (fun d hd => ok d (List.mem_cons_of_mem _ hd))
  simp only [lookTm] at h
  cases h1 : eqU p.1 e.x with
  | false => rw [h1] at h; exact rest h
  | true =>
   cases h2 : eqU n e.n with
   | false => rw [h1, h2] at h; exact rest h
   | true =>
    cases h3 : (eqU p.2.1 e.y && (eqBl p.2.2 e.z && eqSu s e.s)) with
    | false => rw [h1, h2, h3] at h; exact rest h
    | true =>
     rw [h1, h2, h3] at h
     simp only [cond_true, Option.some.injEq] at h
     simp only [Bool.and_eq_true] at h3
     obtain ⟨h3, h4, h5⟩ := h3
     have hp : p = e.p := by
      obtain ⟨a, b, c⟩ := p
      show (a, b, c) = _
      unfold TmE.p
      rw [<- eqU_ok h1, <- eqU_ok h3, <- eqBl_ok h4]
     rw [hp, eqU_ok h2, eqSu_ok h5, <- h]
     exact ok e (List.mem_cons_self)
noncomputable def lTimesT (T : List TmE) (s : Su) (p : Lp) (n : BitVec 64) : Lp := match lookTm T s p n with
 | some r => r
 | none => lTimes s p n
theorem lTimesT_eq {T : List TmE} (h : TmOk T) : lTimesT T = lTimes := by
 funext s p n
 unfold lTimesT
 split
 . rename_i r hr; exact (lookTm_ok h hr).symm
 . rfl
noncomputable def inFT (T : List TmE) (s : Su) (p : Lp) : Bool := bif onF s p then (lTimesT T s p (suR s)).2.2 else false
theorem inFT_eq {T : List TmE} (h : TmOk T) : inFT T = inF := by
 funext s p
 unfold inFT inF
 rw [lTimesT_eq h]
def tme0 : TmE := ⟨.lit, 0, 0, true, 65521, 0, 0, true⟩
theorem tmf0 : lTimes tme0.s tme0.p (BitVec.ofNat 64 tme0.n) = tme0.r := by kernel_rfl
def tme1 : TmE := ⟨.lit, 140810, 235378, false, 65521, 0, 0, true⟩
theorem tmf1 : lTimes tme1.s tme1.p (BitVec.ofNat 64 tme1.n) = tme1.r := by kernel_rfl
def tme2 : TmE := ⟨.lit, 208957, 682018, false, 11, 260218, 412545, false⟩
theorem tmf2 : lTimes tme2.s tme2.p (BitVec.ofNat 64 tme2.n) = tme2.r := by kernel_rfl
def tme3 : TmE := ⟨.lit, 208957, 682018, false, 65521, 0, 0, true⟩
theorem tmf3 : lTimes tme3.s tme3.p (BitVec.ofNat 64 tme3.n) = tme3.r := by kernel_rfl
def tme4 : TmE := ⟨.lit, 208957, 682018, false, 7, 655008, 53940, false⟩
theorem tmf4 : lTimes tme4.s tme4.p (BitVec.ofNat 64 tme4.n) = tme4.r := by kernel_rfl
def tme5 : TmE := ⟨.lit, 227013, 574401, false, 65521, 0, 0, true⟩
theorem tmf5 : lTimes tme5.s tme5.p (BitVec.ofNat 64 tme5.n) = tme5.r := by kernel_rfl
def tme6 : TmE := ⟨.lit, 235929, 424835, false, 11, 227013, 574401, false⟩
theorem tmf6 : lTimes tme6.s tme6.p (BitVec.ofNat 64 tme6.n) = tme6.r := by kernel_rfl
def tme7 : TmE := ⟨.lit, 235929, 424835, false, 65521, 0, 0, true⟩
theorem tmf7 : lTimes tme7.s tme7.p (BitVec.ofNat 64 tme7.n) = tme7.r := by kernel_rfl
def tme8 : TmE := ⟨.lit, 235929, 424835, false, 7, 140810, 235378, false⟩
theorem tmf8 : lTimes tme8.s tme8.p (BitVec.ofNat 64 tme8.n) = tme8.r := by kernel_rfl
def tme9 : TmE := ⟨.lit, 260218, 412545, false, 65521, 0, 0, true⟩
theorem tmf9 : lTimes tme9.s tme9.p (BitVec.ofNat 64 tme9.n) = tme9.r := by kernel_rfl
def tme10 : TmE := ⟨.lit, 286073, 714627, false, 5, 227013, 574401, false⟩
theorem tmf10 : lTimes tme10.s tme10.p (BitVec.ofNat 64 tme10.n) = tme10.r := by kernel_rfl
def tme11 : TmE := ⟨.lit, 286073, 714627, false, 65521, 0, 0, true⟩
theorem tmf11 : lTimes tme11.s tme11.p (BitVec.ofNat 64 tme11.n) = tme11.r := by kernel_rfl
def tme12 : TmE := ⟨.lit, 286073, 714627, false, 9, 260218, 412545, false⟩
theorem tmf12 : lTimes tme12.s tme12.p (BitVec.ofNat 64 tme12.n) = tme12.r := by kernel_rfl
def tme13 : TmE := ⟨.lit, 489674, 271737, false, 5, 140810, 235378, false⟩
theorem tmf13 : lTimes tme13.s tme13.p (BitVec.ofNat 64 tme13.n) = tme13.r := by kernel_rfl
def tme14 : TmE := ⟨.lit, 489674, 271737, false, 65521, 0, 0, true⟩
theorem tmf14 : lTimes tme14.s tme14.p (BitVec.ofNat 64 tme14.n) = tme14.r := by kernel_rfl
def tme15 : TmE := ⟨.lit, 489674, 271737, false, 9, 655008, 53940, false⟩
theorem tmf15 : lTimes tme15.s tme15.p (BitVec.ofNat 64 tme15.n) = tme15.r := by kernel_rfl
def tme16 : TmE := ⟨.lit, 655008, 53940, false, 65521, 0, 0, true⟩
theorem tmf16 : lTimes tme16.s tme16.p (BitVec.ofNat 64 tme16.n) = tme16.r := by kernel_rfl
def tme17 : TmE := ⟨.lit, 9723, 164643, false, 11, 286073, 714627, false⟩
theorem tmf17 : lTimes tme17.s tme17.p (BitVec.ofNat 64 tme17.n) = tme17.r := by kernel_rfl
def tme18 : TmE := ⟨.lit, 9723, 164643, false, 5, 235929, 424835, false⟩
theorem tmf18 : lTimes tme18.s tme18.p (BitVec.ofNat 64 tme18.n) = tme18.r := by kernel_rfl
def tme19 : TmE := ⟨.lit, 9723, 164643, false, 65521, 0, 0, true⟩
theorem tmf19 : lTimes tme19.s tme19.p (BitVec.ofNat 64 tme19.n) = tme19.r := by kernel_rfl
def tme20 : TmE := ⟨.lit, 9723, 164643, false, 7, 489674, 271737, false⟩
theorem tmf20 : lTimes tme20.s tme20.p (BitVec.ofNat 64 tme20.n) = tme20.r := by kernel_rfl
def tme21 : TmE := ⟨.lit, 9723, 164643, false, 9, 208957, 682018, false⟩
theorem tmf21 : lTimes tme21.s tme21.p (BitVec.ofNat 64 tme21.n) = tme21.r := by kernel_rfl
def tmAll : List TmE := [tme0, tme1, tme2, tme3, tme4, tme5, tme6, tme7, tme8, tme9, tme10, tme11, tme12, tme13, tme14, tme15, tme16, tme17, tme18, tme19, tme20, tme21]
theorem tmAll_ok : TmOk tmAll := (TmOk.cons tmf0 (TmOk.cons tmf1 (TmOk.cons tmf2 (TmOk.cons tmf3 (TmOk.cons tmf4 (TmOk.cons tmf5 (TmOk.cons tmf6 (TmOk.cons tmf7 (TmOk.cons tmf8 (TmOk.cons tmf9 (TmOk.cons tmf10 (TmOk.cons tmf11 (TmOk.cons tmf12 (TmOk.cons tmf13 (TmOk.cons tmf14 (TmOk.cons tmf15 (TmOk.cons tmf16 (TmOk.cons tmf17 (TmOk.cons tmf18 (TmOk.cons tmf19 (TmOk.cons tmf20 (TmOk.cons tmf21 TmOk.nil))))))))))))))))))))))
theorem tmT_ok : CallOk PR 82 (fn3 kCv cLp.agg kU cLp.agg (lTimesT tmAll)) := by rw [lTimesT_eq tmAll_ok]; exact tm_ok
theorem linT_ok : CallOk PR 143 (fn2 kCv cLp.agg kBool (inFT tmAll)) := by rw [inFT_eq tmAll_ok]; exact lin_ok
noncomputable def e141 : Env := envD eqsT [] [] [] [] [9] false []
theorem e141_ok : EnvOk PR e141 := envD_ok eqsT_ok TabPOk.nil TabHOk.nil TabLOk.nil TabDOk.nil
theorem cx141 : Ctx PR e141 [] (fun _ => none) 2000 141 := ctxB e141_ok mixed (by kernel_rfl)
theorem n141 : Enters PR 141 := entersB (by kernel_rfl)
noncomputable def g141 : List AV -> Option (Bool × AV) := (inlineC PR e141 1 2000 141)
theorem g141_ok : CallOk PR 141 g141 := (.inl ⟨n141, inlineC_ok cx141 rfl rfl⟩)
noncomputable def e156 : Env := envD eqsT [(45, (fn2 c6.agg c6.agg (kInt .i64) fun a b => chainV (cmpL a b) 0)), (141, g141)] [] [] [] [9] false []
theorem e156_ok : EnvOk PR e156 := envD_ok eqsT_ok (TabPOk.cons cmp_ok (TabPOk.cons g141_ok TabPOk.nil)) TabHOk.nil TabLOk.nil TabDOk.nil
theorem cx156 : Ctx PR e156 [] (fun _ => none) 2000 156 := ctxB e156_ok mixed (by kernel_rfl)
theorem n156 : Enters PR 156 := entersB (by kernel_rfl)
noncomputable def g156 : List AV -> Option (Bool × AV) := (inlineC PR e156 3 2000 156)
theorem g156_ok : CallOk PR 156 g156 := (.inl ⟨n156, inlineC_ok cx156 rfl rfl⟩)
noncomputable def e120 : Env := envD eqsT [(156, g156)] [] [] [] [9] false []
theorem e120_ok : EnvOk PR e120 := envD_ok eqsT_ok (TabPOk.cons g156_ok TabPOk.nil) TabHOk.nil TabLOk.nil TabDOk.nil
theorem cx120 : Ctx PR e120 [] (fun _ => none) 2000 120 := ctxB e120_ok mixed (by kernel_rfl)
theorem n120 : Enters PR 120 := entersB (by kernel_rfl)
noncomputable def g120 : List AV -> Option (Bool × AV) := (inlineC PR e120 4 2000 120)
theorem g120_ok : CallOk PR 120 g120 := (.inl ⟨n120, inlineC_ok cx120 rfl rfl⟩)
noncomputable def e187 : Env := envD eqsT [] [] [] [] [9] false []
theorem e187_ok : EnvOk PR e187 := envD_ok eqsT_ok TabPOk.nil TabHOk.nil TabLOk.nil TabDOk.nil
theorem cx187 : Ctx PR e187 [] (fun _ => none) 2000 187 := ctxB e187_ok mixed (by kernel_rfl)
theorem n187 : Enters PR 187 := entersB (by kernel_rfl)
noncomputable def g187 : List AV -> Option (Bool × AV) := (inlineC PR e187 1 2000 187)
theorem g187_ok : CallOk PR 187 g187 := (.inl ⟨n187, inlineC_ok cx187 rfl rfl⟩)
noncomputable def e186 : Env := envD eqsT [(118, (fn3 kU kU kBit kUB sub64)), (187, g187)] [] [] [] [9] false []
theorem e186_ok : EnvOk PR e186 := envD_ok eqsT_ok (TabPOk.cons sub64_ok (TabPOk.cons g187_ok TabPOk.nil)) TabHOk.nil TabLOk.nil TabDOk.nil
theorem cx186 : Ctx PR e186 [] (fun _ => none) 2000 186 := ctxB e186_ok mixed (by kernel_rfl)
theorem n186 : Enters PR 186 := entersB (by kernel_rfl)
noncomputable def g186 : List AV -> Option (Bool × AV) := (inlineC PR e186 5 2000 186)
theorem g186_ok : CallOk PR 186 g186 := (.inl ⟨n186, inlineC_ok cx186 rfl rfl⟩)
noncomputable def e160 : Env := envD eqsT [(128, (fn2 kU kU kUU mul64)), (129, (fn3 kU kU kBit kUB add64)), (186, g186), (187, g187)] [] [] [] [9] false []
theorem e160_ok : EnvOk PR e160 := envD_ok eqsT_ok (TabPOk.cons mul64_ok (TabPOk.cons add64_ok (TabPOk.cons g186_ok (TabPOk.cons g187_ok TabPOk.nil)))) TabHOk.nil TabLOk.nil TabDOk.nil
theorem cx160 : Ctx PR e160 [] (fun _ => none) 2000 160 := ctxB e160_ok mixed (by kernel_rfl)
theorem n160 : Enters PR 160 := entersB (by kernel_rfl)
noncomputable def g160 : List AV -> Option (Bool × AV) := (inlineC PR e160 8 2000 160)
theorem g160_ok : CallOk PR 160 g160 := (.inl ⟨n160, inlineC_ok cx160 rfl rfl⟩)
noncomputable def e185 : Env := envD eqsT [] [] [] [] [9] false []
theorem e185_ok : EnvOk PR e185 := envD_ok eqsT_ok TabPOk.nil TabHOk.nil TabLOk.nil TabDOk.nil
theorem cx185 : Ctx PR e185 [] (fun _ => none) 2000 185 := ctxB e185_ok mixed (by kernel_rfl)
theorem n185 : Enters PR 185 := entersB (by kernel_rfl)
noncomputable def g185 : List AV -> Option (Bool × AV) := (inlineC PR e185 1 2000 185)
theorem g185_ok : CallOk PR 185 g185 := (.inl ⟨n185, inlineC_ok cx185 rfl rfl⟩)
noncomputable def e157 : Env := envD eqsT [(160, g160), (185, g185)] [] [] [] [9] false []
theorem e157_ok : EnvOk PR e157 := envD_ok eqsT_ok (TabPOk.cons g160_ok (TabPOk.cons g185_ok TabPOk.nil)) TabHOk.nil TabLOk.nil TabDOk.nil
theorem cx157 : Ctx PR e157 [] (fun _ => none) 2000 157 := ctxB e157_ok mixed (by kernel_rfl)
theorem n157 : Enters PR 157 := entersB (by kernel_rfl)
noncomputable def g157 : List AV -> Option (Bool × AV) := (inlineC PR e157 3 2000 157)
theorem g157_ok : CallOk PR 157 g157 := (.inl ⟨n157, inlineC_ok cx157 rfl rfl⟩)
noncomputable def e121 : Env := envD eqsT [(157, g157)] [] [] [] [9] false []
theorem e121_ok : EnvOk PR e121 := envD_ok eqsT_ok (TabPOk.cons g157_ok TabPOk.nil) TabHOk.nil TabLOk.nil TabDOk.nil
theorem cx121 : Ctx PR e121 [] (fun _ => none) 2000 121 := ctxB e121_ok mixed (by kernel_rfl)
theorem n121 : Enters PR 121 := entersB (by kernel_rfl)
noncomputable def g121 : List AV -> Option (Bool × AV) := (inlineC PR e121 4 2000 121)
theorem g121_ok : CallOk PR 121 g121 := (.inl ⟨n121, inlineC_ok cx121 rfl rfl⟩)
noncomputable def e162 : Env := envD eqsT [] [] [] [] [9] false []
theorem e162_ok : EnvOk PR e162 := envD_ok eqsT_ok TabPOk.nil TabHOk.nil TabLOk.nil TabDOk.nil
theorem cx162 : Ctx PR e162 [] (fun _ => none) 2000 162 := ctxB e162_ok mixed (by kernel_rfl)
theorem n162 : Enters PR 162 := entersB (by kernel_rfl)
noncomputable def g162 : List AV -> Option (Bool × AV) := (inlineC PR e162 1 2000 162)
theorem g162_ok : CallOk PR 162 g162 := (.inl ⟨n162, inlineC_ok cx162 rfl rfl⟩)
noncomputable def e158 : Env := envD eqsT [(129, (fn3 kU kU kBit kUB add64)), (186, g186)] [] [] [] [9] false []
theorem e158_ok : EnvOk PR e158 := envD_ok eqsT_ok (TabPOk.cons add64_ok (TabPOk.cons g186_ok TabPOk.nil)) TabHOk.nil TabLOk.nil TabDOk.nil
theorem cx158 : Ctx PR e158 [] (fun _ => none) 2000 158 := ctxB e158_ok mixed (by kernel_rfl)
theorem n158 : Enters PR 158 := entersB (by kernel_rfl)
noncomputable def g158 : List AV -> Option (Bool × AV) := (inlineC PR e158 5 2000 158)
theorem g158_ok : CallOk PR 158 g158 := (.inl ⟨n158, inlineC_ok cx158 rfl rfl⟩)
noncomputable def e122 : Env := envD eqsT [(27, (fn1 kU c6.agg ofW)), (157, g157), (162, g162)] [] [] [] [9] false []
theorem e122_ok : EnvOk PR e122 := envD_ok eqsT_ok (TabPOk.cons of_ok (TabPOk.cons g157_ok (TabPOk.cons g162_ok TabPOk.nil))) TabHOk.nil TabLOk.nil TabDOk.nil
theorem cx122 : Ctx PR e122 [] (fun _ => none) 2000 122 := ctxB e122_ok mixed (by kernel_rfl)
theorem n122 : Enters PR 122 := entersB (by kernel_rfl)
noncomputable def g122 : List AV -> AH -> Nat -> Option (Bool × AV × AH) := deepC PR e122 3 2000 122 4096 true
theorem g122_ok : ActOk PR 4096 122 g122 := deepC_ok cx122 rfl rfl
noncomputable def e163 : Env := envA eqsT [(160, g160), (158, g158)] [] [] [] [] [] true []
theorem e163_ok : EnvOk PR e163 := envA_ok eqsT_ok (TabPOk.cons g160_ok (TabPOk.cons g158_ok TabPOk.nil)) TabHOk.nil TabLOk.nil TabAOk.nil
theorem cx163 : Ctx PR e163 [] (fun _ => none) 2000 163 := ctxB e163_ok mixed (by kernel_rfl)
theorem n163 : Enters PR 163 := entersB (by kernel_rfl)
noncomputable def g163 : List AV -> AH -> Nat -> Option (Bool × AV × AH) := deepC PR e163 6 2000 163 4096 true
theorem g163_ok : ActOk PR 4096 163 g163 := deepC_ok cx163 rfl rfl
noncomputable def e149 : Env := envD eqsT [] [] [] [(163, g163)] [9] false [163]
theorem e149_ok : EnvOk PR e149 := envD_ok eqsT_ok TabPOk.nil TabHOk.nil TabLOk.nil (TabDOk.cons n163 g163_ok TabDOk.nil)
theorem cx149 : Ctx PR e149 [] (fun _ => none) 2000 149 := ctxB e149_ok mixed (by kernel_rfl)
theorem n149 : Enters PR 149 := entersB (by kernel_rfl)
noncomputable def g149 : List AV -> AH -> Nat -> Option (Bool × AV × AH) := deepC PR e149 5 2000 149 4096 true
theorem g149_ok : ActOk PR 4096 149 g149 := deepC_ok cx149 rfl rfl
noncomputable def e109 : Env := envD eqsT [(120, g120), (121, g121)] [] [] [(122, g122), (149, g149)] [9] false [122, 149]
theorem e109_ok : EnvOk PR e109 := envD_ok eqsT_ok (TabPOk.cons g120_ok (TabPOk.cons g121_ok TabPOk.nil)) TabHOk.nil TabLOk.nil (TabDOk.cons n122 g122_ok (TabDOk.cons n149 g149_ok TabDOk.nil))
theorem cx109 : Ctx PR e109 [] (fun _ => none) 2000 109 := ctxB e109_ok mixed (by kernel_rfl)
theorem n109 : Enters PR 109 := entersB (by kernel_rfl)
noncomputable def g109 : List AV -> Option (Bool × AV) := (inlineC PR e109 4 2000 109)
theorem g109_ok : CallOk PR 109 g109 := (.inl ⟨n109, inlineC_ok cx109 rfl rfl⟩)
noncomputable def e79 : Env := envD eqsT [] [] [] [] [9] false []
theorem e79_ok : EnvOk PR e79 := envD_ok eqsT_ok TabPOk.nil TabHOk.nil TabLOk.nil TabDOk.nil
theorem cx79 : Ctx PR e79 [] (fun _ => none) 2000 79 := ctxB e79_ok mixed (by kernel_rfl)
theorem n79 : Enters PR 79 := entersB (by kernel_rfl)
noncomputable def g79 : List AV -> Option (Bool × AV) := (inlineC PR e79 4 2000 79)
theorem g79_ok : CallOk PR 79 g79 := (.inl ⟨n79, inlineC_ok cx79 rfl rfl⟩)
noncomputable def e110 : Env := envD eqsT [(79, g79), (143, (fn2 kCv cLp.agg kBool (inFT tmAll)))] [] [] [] [9] false []
theorem e110_ok : EnvOk PR e110 := envD_ok eqsT_ok (TabPOk.cons g79_ok (TabPOk.cons linT_ok TabPOk.nil)) TabHOk.nil TabLOk.nil TabDOk.nil
theorem cx110 : Ctx PR e110 [] (fun _ => none) 2000 110 := ctxB e110_ok mixed (by kernel_rfl)
theorem n110 : Enters PR 110 := entersB (by kernel_rfl)
noncomputable def g110 : List AV -> Option (Bool × AV) := (inlineC PR e110 5 2000 110)
theorem g110_ok : CallOk PR 110 g110 := (.inl ⟨n110, inlineC_ok cx110 rfl rfl⟩)
noncomputable def e66 : Env := envD eqsT [(109, g109), (110, g110)] [] [] [] [9] false []
theorem e66_ok : EnvOk PR e66 := envD_ok eqsT_ok (TabPOk.cons g109_ok (TabPOk.cons g110_ok TabPOk.nil)) TabHOk.nil TabLOk.nil TabDOk.nil
theorem cx66 : Ctx PR e66 [] (fun _ => none) 2000 66 := ctxB e66_ok mixed (by kernel_rfl)
theorem n66 : Enters PR 66 := entersB (by kernel_rfl)
noncomputable def g66 : List AV -> Option (Bool × AV) := (inlineC PR e66 5 2000 66)
theorem g66_ok : CallOk PR 66 g66 := (.inl ⟨n66, inlineC_ok cx66 rfl rfl⟩)
noncomputable def e72 : Env := envD eqsT [] [] [] [] [9] false []
theorem e72_ok : EnvOk PR e72 := envD_ok eqsT_ok TabPOk.nil TabHOk.nil TabLOk.nil TabDOk.nil
theorem cx72 : Ctx PR e72 [] (fun _ => none) 2000 72 := ctxB e72_ok mixed (by kernel_rfl)
theorem n72 : Enters PR 72 := entersB (by kernel_rfl)
noncomputable def g72 : List AV -> Option (Bool × AV) := (inlineC PR e72 4 2000 72)
theorem g72_ok : CallOk PR 72 g72 := (.inl ⟨n72, inlineC_ok cx72 rfl rfl⟩)
noncomputable def e116 : Env := envD eqsT [(79, g79)] [] [] [] [9] false []
theorem e116_ok : EnvOk PR e116 := envD_ok eqsT_ok (TabPOk.cons g79_ok TabPOk.nil) TabHOk.nil TabLOk.nil TabDOk.nil
theorem cx116 : Ctx PR e116 [] (fun _ => none) 2000 116 := ctxB e116_ok mixed (by kernel_rfl)
theorem n116 : Enters PR 116 := entersB (by kernel_rfl)
noncomputable def g116 : List AV -> Option (Bool × AV) := (inlineC PR e116 4 2000 116)
theorem g116_ok : CallOk PR 116 g116 := (.inl ⟨n116, inlineC_ok cx116 rfl rfl⟩)
noncomputable def e73 : Env := envD eqsT [(27, (fn1 kU c6.agg ofW)), (116, g116)] [] [] [] [9] false []
theorem e73_ok : EnvOk PR e73 := envD_ok eqsT_ok (TabPOk.cons of_ok (TabPOk.cons g116_ok TabPOk.nil)) TabHOk.nil TabLOk.nil TabDOk.nil
theorem cx73 : Ctx PR e73 [] (fun _ => none) 2000 73 := ctxB e73_ok mixed (by kernel_rfl)
theorem n73 : Enters PR 73 := entersB (by kernel_rfl)
noncomputable def g73 : List AV -> Option (Bool × AV) := (inlineC PR e73 4 2000 73)
theorem g73_ok : CallOk PR 73 g73 := (.inl ⟨n73, inlineC_ok cx73 rfl rfl⟩)
noncomputable def e31 : Env := envD eqsT [(72, g72), (73, g73)] [] [] [] [9] false []
theorem e31_ok : EnvOk PR e31 := envD_ok eqsT_ok (TabPOk.cons g72_ok (TabPOk.cons g73_ok TabPOk.nil)) TabHOk.nil TabLOk.nil TabDOk.nil
theorem cx31 : Ctx PR e31 [] (fun _ => none) 2000 31 := ctxB e31_ok mixed (by kernel_rfl)
theorem n31 : Enters PR 31 := entersB (by kernel_rfl)
noncomputable def g31 : List AV -> Option (Bool × AV) := (inlineC PR e31 4 2000 31)
theorem g31_ok : CallOk PR 31 g31 := (.inl ⟨n31, inlineC_ok cx31 rfl rfl⟩)
noncomputable def e81 : Env := envD eqsT [(79, g79), (125, (fn2 kCv cLp.agg kBool onF))] [] [] [] [9] false []
theorem e81_ok : EnvOk PR e81 := envD_ok eqsT_ok (TabPOk.cons g79_ok (TabPOk.cons lo_ok TabPOk.nil)) TabHOk.nil TabLOk.nil TabDOk.nil
theorem cx81 : Ctx PR e81 [] (fun _ => none) 2000 81 := ctxB e81_ok mixed (by kernel_rfl)
theorem n81 : Enters PR 81 := entersB (by kernel_rfl)
noncomputable def g81 : List AV -> AH -> Nat -> Option (Bool × AV × AH) := deepC PR e81 5 2000 81 4096 true
theorem g81_ok : ActOk PR 4096 81 g81 := deepC_ok cx81 rfl rfl
noncomputable def e137 : Env := envD eqsT [] [] [] [] [9] false []
theorem e137_ok : EnvOk PR e137 := envD_ok eqsT_ok TabPOk.nil TabHOk.nil TabLOk.nil TabDOk.nil
theorem cx137 : Ctx PR e137 [] (fun _ => none) 2000 137 := ctxB e137_ok mixed (by kernel_rfl)
theorem n137 : Enters PR 137 := entersB (by kernel_rfl)
noncomputable def g137 : List AV -> Option (Bool × AV) := (inlineC PR e137 6 2000 137)
theorem g137_ok : CallOk PR 137 g137 := (.inl ⟨n137, inlineC_ok cx137 rfl rfl⟩)
noncomputable def e97 : Env := envD eqsT [(137, g137)] [] [] [(81, g81)] [9] false [81]
theorem e97_ok : EnvOk PR e97 := envD_ok eqsT_ok (TabPOk.cons g137_ok TabPOk.nil) TabHOk.nil TabLOk.nil (TabDOk.cons n81 g81_ok TabDOk.nil)
theorem cx97 : Ctx PR e97 [] (fun _ => none) 2000 97 := ctxB e97_ok mixed (by kernel_rfl)
theorem n97 : Enters PR 97 := entersB (by kernel_rfl)
noncomputable def g97 : List AV -> AH -> Nat -> Option (Bool × AV × AH) := deepC PR e97 5 2000 97 4096 true
theorem g97_ok : ActOk PR 4096 97 g97 := deepC_ok cx97 rfl rfl
noncomputable def e52 : Env := envD eqsT [(66, g66)] [] [] [(97, g97)] [9] false [97]
theorem e52_ok : EnvOk PR e52 := envD_ok eqsT_ok (TabPOk.cons g66_ok TabPOk.nil) TabHOk.nil TabLOk.nil (TabDOk.cons n97 g97_ok TabDOk.nil)
theorem cx52 : Ctx PR e52 [] (fun _ => none) 2000 52 := ctxB e52_ok mixed (by kernel_rfl)
theorem n52 : Enters PR 52 := entersB (by kernel_rfl)
noncomputable def g52 : List AV -> AH -> Nat -> Option (Bool × AV × AH) := deepC PR e52 5 2000 52 4096 true
theorem g52_ok : ActOk PR 4096 52 g52 := deepC_ok cx52 rfl rfl
noncomputable def e34 : Env := envD eqsT [(79, g79)] [] [] [] [9] false []
theorem e34_ok : EnvOk PR e34 := envD_ok eqsT_ok (TabPOk.cons g79_ok TabPOk.nil) TabHOk.nil TabLOk.nil TabDOk.nil
theorem cx34 : Ctx PR e34 [] (fun _ => none) 2000 34 := ctxB e34_ok mixed (by kernel_rfl)
theorem n34 : Enters PR 34 := entersB (by kernel_rfl)
noncomputable def g34 : List AV -> Option (Bool × AV) := (inlineC PR e34 4 2000 34)
theorem g34_ok : CallOk PR 34 g34 := (.inl ⟨n34, inlineC_ok cx34 rfl rfl⟩)
noncomputable def e8 : Env := envD eqsT [(34, g34)] [] [] [] [9] false []
theorem e8_ok : EnvOk PR e8 := envD_ok eqsT_ok (TabPOk.cons g34_ok TabPOk.nil) TabHOk.nil TabLOk.nil TabDOk.nil
theorem cx8 : Ctx PR e8 [] (fun _ => none) 2000 8 := ctxB e8_ok mixed (by kernel_rfl)
theorem n8 : Enters PR 8 := entersB (by kernel_rfl)
noncomputable def g8 : List AV -> Option (Bool × AV) := (inlineC PR e8 5 2000 8)
theorem g8_ok : CallOk PR 8 g8 := (.inl ⟨n8, inlineC_ok cx8 rfl rfl⟩)
noncomputable def e35 : Env := envD eqsT [(45, (fn2 c6.agg c6.agg (kInt .i64) fun a b => chainV (cmpL a b) 0)), (66, g66), (73, g73)] [] [] [] [9] false []
theorem e35_ok : EnvOk PR e35 := envD_ok eqsT_ok (TabPOk.cons cmp_ok (TabPOk.cons g66_ok (TabPOk.cons g73_ok TabPOk.nil))) TabHOk.nil TabLOk.nil TabDOk.nil
theorem cx35 : Ctx PR e35 [] (fun _ => none) 2000 35 := ctxB e35_ok mixed (by kernel_rfl)
theorem n35 : Enters PR 35 := entersB (by kernel_rfl)
noncomputable def g35 : List AV -> AH -> Nat -> Option (Bool × AV × AH) := deepC PR e35 6 2000 35 4096 true
theorem g35_ok : ActOk PR 4096 35 g35 := deepC_ok cx35 rfl rfl
noncomputable def e37 : Env := envD eqsT [(82, (fn3 kCv cLp.agg kU cLp.agg (lTimesT tmAll)))] [] [] [(81, g81)] [9] false [81]
theorem e37_ok : EnvOk PR e37 := envD_ok eqsT_ok (TabPOk.cons tmT_ok TabPOk.nil) TabHOk.nil TabLOk.nil (TabDOk.cons n81 g81_ok TabDOk.nil)
theorem cx37 : Ctx PR e37 [] (fun _ => none) 2000 37 := ctxB e37_ok mixed (by kernel_rfl)
theorem n37 : Enters PR 37 := entersB (by kernel_rfl)
noncomputable def g37 : List AV -> Option (Bool × AV) := (inlineC PR e37 5 2000 37)
theorem g37_ok : CallOk PR 37 g37 := (.inl ⟨n37, inlineC_ok cx37 rfl rfl⟩)
noncomputable def e9 : Env := envD eqsT [(37, g37)] [] [] [(35, g35)] [9] false [35]
theorem e9_ok : EnvOk PR e9 := envD_ok eqsT_ok (TabPOk.cons g37_ok TabPOk.nil) TabHOk.nil TabLOk.nil (TabDOk.cons n35 g35_ok TabDOk.nil)
theorem cx9 : Ctx PR e9 [] (fun _ => none) 2000 9 := ctxB e9_ok mixed (by kernel_rfl)
theorem n9 : Enters PR 9 := entersB (by kernel_rfl)
noncomputable def g9 : List AV -> Option (Bool × AV) := (inlineC PR e9 6 2000 9)
theorem g9_ok : CallOk PR 9 g9 := (.inl ⟨n9, inlineC_ok cx9 rfl rfl⟩)
end Go.Rq.Cl
