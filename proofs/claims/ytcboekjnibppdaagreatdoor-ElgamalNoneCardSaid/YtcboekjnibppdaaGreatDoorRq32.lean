/- SHA-256's block, reckoned by numbers where they are told. -/
import Derived.Test.YtcboekjnibppdaaGreatDoorRq17
import Derived.Test.YtcboekjnibppdaaGreatDoorRq30
import Derived.Test.YtcboekjnibppdaaGreatDoorRq31
import Derived.Test.YtcboekjnibppdaaGreatDoorRq09
namespace Go.Rq
open Go Go.Proofs

def allW : List Int → Bool
  | [] => true
  | .ofNat n :: t => Nat.blt n 4294967296 && allW t
  | _ => false
theorem allW_is : ∀ {l : List Int}, allW l = true → l = (natsOf l).map Int.ofNat ∧ ∀ x ∈ natsOf l, x < 4294967296
  | [], _ => ⟨rfl, fun x h => by simp [natsOf] at h⟩
  | .ofNat n :: t, h => by
    simp only [allW, Bool.and_eq_true] at h
    obtain ⟨h1, h2⟩ := allW_is h.2
    refine ⟨?_, fun x hx => ?_⟩
    · show Int.ofNat n :: t = Int.ofNat n :: (natsOf t).map Int.ofNat
      rw [← h1]
    · simp only [natsOf, List.mem_cons] at hx
      rcases hx with rfl | hx
      · exact Nat.le_of_ble_eq_true h.1
      · exact h2 x hx
  | .negSucc n :: t, h => by simp [allW] at h
theorem natsOf_len : ∀ (l : List Int), (natsOf l).length = l.length
  | [] => rfl
  | _ :: t => by simp only [natsOf, List.length_cons, natsOf_len t]
noncomputable def shaQ {γ : Type} (s b : List Int) (k : (Nat → Int) → γ) : γ :=
  bif (allW s && Nat.beq s.length 8) && (allBy b && Nat.beq b.length 64) then
    frcL frcN (nSha (natsOf s) (natsOf b)) fun z => k fun i => bif Nat.blt i 8 then Int.ofNat (z.getD i 0) else shaF (fnL s) (fnL b) i
  else k (shaF (fnL s) (fnL b))
theorem shaN_at {s b : List Int} (h1 : allW s = true) (h2 : s.length = 8) (h3 : allBy b = true) (h4 : b.length = 64) (i : Nat) (hi : i < 8) :
    Int.ofNat ((nSha (natsOf s) (natsOf b)).getD i 0) = shaF (fnL s) (fnL b) i := by
  obtain ⟨es, ls⟩ := allW_is h1
  obtain ⟨eb, lb⟩ := allBy_is h3
  have l8 : (natsOf s).length = 8 := by rw [natsOf_len]; exact h2
  have l64 : (natsOf b).length = 64 := by rw [natsOf_len]; exact h4
  generalize natsOf s = ns at es ls l8 ⊢
  generalize natsOf b = nb at eb lb l64 ⊢
  subst es
  subst eb
  match ns, l8, ls with
  | [a, c, d, e, f, g, h, j], _, ls =>
    have hv : V8 (fnL ([a, c, d, e, f, g, h, j].map Int.ofNat)) a c d e f g h j :=
      ⟨⟨rfl, ls _ (by simp)⟩, ⟨rfl, ls _ (by simp)⟩, ⟨rfl, ls _ (by simp)⟩, ⟨rfl, ls _ (by simp)⟩, ⟨rfl, ls _ (by simp)⟩, ⟨rfl, ls _ (by simp)⟩, ⟨rfl, ls _ (by simp)⟩, ⟨rfl, ls _ (by simp)⟩⟩
    obtain ⟨a', c', d', e', f', g', h', i', r1, r2⟩ := nSha_ok (s := fnL ([a, c, d, e, f, g, h, j].map Int.ofNat)) (b := fnL (nb.map Int.ofNat)) hv l64 (fun q hq => by
      rw [fnL_map (by rw [l64]; exact hq)]
      refine ⟨rfl, ?_⟩
      have hlt : q < nb.length := by rw [l64]; exact hq
      have : nb.getD q 0 ∈ nb := by
        rw [List.getD_eq_getElem?_getD, List.getElem?_eq_getElem hlt]
        exact List.getElem_mem hlt
      have := lb _ this
      omega)
    rw [r1]
    match i, hi with
    | 0, _ => exact r2.a.1.symm
    | 1, _ => exact r2.b.1.symm
    | 2, _ => exact r2.c.1.symm
    | 3, _ => exact r2.d.1.symm
    | 4, _ => exact r2.e.1.symm
    | 5, _ => exact r2.f.1.symm
    | 6, _ => exact r2.g.1.symm
    | 7, _ => exact r2.h.1.symm
theorem shaQ_eq {γ : Type} (s b : List Int) (k : (Nat → Int) → γ) : shaQ s b k = k (shaF (fnL s) (fnL b)) := by
  unfold shaQ
  cases hc : (allW s && Nat.beq s.length 8) && (allBy b && Nat.beq b.length 64) with
  | false => rw [cond_false]
  | true =>
    rw [cond_true, frcL_eq frcN_eq]
    obtain ⟨h1, h2⟩ := and_parts hc
    obtain ⟨h1, h3⟩ := and_parts h1
    obtain ⟨h2, h4⟩ := and_parts h2
    refine congrArg k (funext fun i => ?_)
    cases hi : Nat.blt i 8 with
    | false => rw [cond_false]
    | true =>
      rw [cond_true]
      exact shaN_at h1 (Nat.eq_of_beq_eq_true h3) h2 (Nat.eq_of_beq_eq_true h4) i (Nat.le_of_ble_eq_true hi)
noncomputable def specAN : AH → Nat → Option (AV × AH)
  | [(i, some ⟨wr, ty, cs⟩)], n => bif Nat.beq i 0 && (wr && (Nat.beq ty 345 && Nat.beq n 1)) then
      (match u32D 8 (cs.take 8), bytD 64 ((cs.drop 8).take 64), tailH (cs.drop 72) with
      | some s, some b, some (n, md) => shaQ s b fun z => some (.tup [], bpHeap2 z (fnL b) (.hash n md))
      | _, _, _ => none) else none
  | _, _ => none
noncomputable def specRN (h : AH) (n : Nat) : Option (AV × AH) := match rowH h n with
  | some (cs, wb, ds) => match u32D 8 cs with
    | some s => match bytD 64 ds with
      | some b => shaQ s b fun z => some (.tup [], bpHeap2 z (fnL b) (.row wb))
      | none => match bytD 64 (ds.take 64), bytD 64 (ds.drop 64) with
        | some b, some q => shaQ s b fun z => some (.tup [], bpHeap2 z (fnL b) (.low wb (fnL q)))
        | _, _ => none
    | none => none
  | none => none
noncomputable def specHN (h : AH) (n : Nat) : Option (AV × AH) := match rowH h n with
  | some (cs, wb, ds) => match u32D 8 cs with
    | some s => match bytD 64 (ds.take 64), bytD 64 (ds.drop 64) with
      | some q, some b => shaQ s b fun z => some (.tup [], bpHeap2 z (fnL b) (.high wb (fnL q)))
      | _, _ => none
    | none => none
  | none => none
noncomputable def bkSpecN (args : List AV) (h : AH) (n : Nat) : Option (AV × AH) :=
  bif isA args then specAN h n else bif isB 0 args then specRN h n else bif isB 64 args then specHN h n else none
theorem specAN_eq : specAN = specA shaF := by
  funext h n
  unfold specAN
  simp only [shaQ_eq]
  rfl
theorem specRN_eq : specRN = specR shaF := by
  funext h n
  unfold specRN
  simp only [shaQ_eq]
  rfl
theorem specHN_eq : specHN = specH shaF := by
  funext h n
  unfold specHN
  simp only [shaQ_eq]
  rfl
theorem bkSpecN_eq : bkSpecN = bkSpec shaF := by
  funext args h n
  unfold bkSpecN bkSpec
  rw [specAN_eq, specRN_eq, specHN_eq]
noncomputable def bkN : List AV → AH → Nat → Option (Bool × AV × AH) := deepS bkSpecN 4096 false
theorem bkN_ok : ActOk PR 4096 293 bkN := by
  unfold bkN
  rw [bkSpecN_eq]
  exact bk_ok 4096
end Go.Rq

/- A closed law's functions, each gone through where it is called. Written by a program of ours. -/
namespace Go.Rq
open Go Go.Proofs

/-! reliquary/reliquarykit.SameBytes -/
noncomputable def e36 : Env := envD eqsT [] [] [] [] [9] false []
theorem e36_ok : EnvOk PR e36 := envD_ok eqsT_ok TabPOk.nil TabHOk.nil TabLOk.nil TabDOk.nil
theorem cx36 : Ctx PR e36 [] (fun _ => none) 2000 36 := ctx_of e36_ok mixed (fn := Go.Proofs.Tryz.f36) (by kernel_rfl) (by kernel_rfl) (by kernel_rfl) (tabOk_none _)
theorem n36 : Enters PR 36 := enters_of (fn := Go.Proofs.Tryz.f36) (by kernel_rfl) (by kernel_rfl) (by kernel_rfl)
noncomputable def g36 : List AV → AH → Nat → Option (Bool × AV × AH) := deepC PR e36 4 2000 36 4096 true
theorem g36_ok : ActOk PR 4096 36 g36 := deepC_ok cx36 rfl rfl

/-! reliquary/share.Faults -/
noncomputable def e125 : Env := envD eqsT [] [] [] [] [9] false []
theorem e125_ok : EnvOk PR e125 := envD_ok eqsT_ok TabPOk.nil TabHOk.nil TabLOk.nil TabDOk.nil
theorem cx125 : Ctx PR e125 [] (fun _ => none) 2000 125 := ctx_of e125_ok mixed (fn := Go.Proofs.Tryz.f125) (by kernel_rfl) (by kernel_rfl) (by kernel_rfl) (tabOk_none _)
theorem n125 : Enters PR 125 := enters_of (fn := Go.Proofs.Tryz.f125) (by kernel_rfl) (by kernel_rfl) (by kernel_rfl)
noncomputable def g125 : List AV → Option (Bool × AV) := (inlineC PR e125 3 2000 125)
theorem g125_ok : CallOk PR 125 g125 := (.inl ⟨n125, inlineC_ok cx125 rfl rfl⟩)

/-! (*reliquary/elgamal.Session).none -/
noncomputable def e137 : Env := envD eqsT [] [] [] [] [9] false []
theorem e137_ok : EnvOk PR e137 := envD_ok eqsT_ok TabPOk.nil TabHOk.nil TabLOk.nil TabDOk.nil
theorem cx137 : Ctx PR e137 [] (fun _ => none) 2000 137 := ctx_of e137_ok mixed (fn := Go.Proofs.Tryz.f137) (by kernel_rfl) (by kernel_rfl) (by kernel_rfl) (tabOk_none _)
theorem n137 : Enters PR 137 := enters_of (fn := Go.Proofs.Tryz.f137) (by kernel_rfl) (by kernel_rfl) (by kernel_rfl)
noncomputable def g137 : List AV → AH → Nat → Option (Bool × AV × AH) := deepC PR e137 4 2000 137 4096 true
theorem g137_ok : ActOk PR 4096 137 g137 := deepC_ok cx137 rfl rfl

/-! slices.Clone[[]int,int] -/
noncomputable def e164 : Env := envD eqsT [] [] [] [] [9] false []
theorem e164_ok : EnvOk PR e164 := envD_ok eqsT_ok TabPOk.nil TabHOk.nil TabLOk.nil TabDOk.nil
theorem cx164 : Ctx PR e164 [] (fun _ => none) 2000 164 := ctx_of e164_ok mixed (fn := Go.Proofs.Tryz.f164) (by kernel_rfl) (by kernel_rfl) (by kernel_rfl) (tabOk_none _)
theorem n164 : Enters PR 164 := enters_of (fn := Go.Proofs.Tryz.f164) (by kernel_rfl) (by kernel_rfl) (by kernel_rfl)
noncomputable def g164 : List AV → AH → Nat → Option (Bool × AV × AH) := deepC PR e164 3 2000 164 4096 true
theorem g164_ok : ActOk PR 4096 164 g164 := deepC_ok cx164 rfl rfl

/-! (*reliquary/dkg.Session).nodes$1 -/
noncomputable def e221 : Env := envD eqsT [] [] [] [] [9] false []
theorem e221_ok : EnvOk PR e221 := envD_ok eqsT_ok TabPOk.nil TabHOk.nil TabLOk.nil TabDOk.nil
theorem cx221 : Ctx PR e221 [] (fun _ => none) 2000 221 := ctx_of e221_ok mixed (fn := Go.Proofs.Tryz.f221) (by kernel_rfl) (by kernel_rfl) (by kernel_rfl) (tabOk_none _)
theorem n221 : Enters PR 221 := enters_of (fn := Go.Proofs.Tryz.f221) (by kernel_rfl) (by kernel_rfl) (by kernel_rfl)
noncomputable def g221 : List AV → AH → Nat → Option (Bool × AV × AH) := deepC PR e221 4 2000 221 4096 true
theorem g221_ok : ActOk PR 4096 221 g221 := deepC_ok cx221 rfl rfl

/-! reliquary/share.places$1 -/
noncomputable def e303 : Env := envD eqsT [] [] [] [] [9] false []
theorem e303_ok : EnvOk PR e303 := envD_ok eqsT_ok TabPOk.nil TabHOk.nil TabLOk.nil TabDOk.nil
theorem cx303 : Ctx PR e303 [] (fun _ => none) 2000 303 := ctx_of e303_ok mixed (fn := Go.Proofs.Tryz.f303) (by kernel_rfl) (by kernel_rfl) (by kernel_rfl) (tabOk_none _)
theorem n303 : Enters PR 303 := enters_of (fn := Go.Proofs.Tryz.f303) (by kernel_rfl) (by kernel_rfl) (by kernel_rfl)
noncomputable def g303 : List AV → Option (Bool × AV) := (inlineC PR e303 4 2000 303)
theorem g303_ok : CallOk PR 303 g303 := (.inl ⟨n303, inlineC_ok cx303 rfl rfl⟩)

/-! (*reliquary/dkg.Session).Accuse$1 -/
noncomputable def e163 : Env := envD eqsT [] [] [] [] [9] false []
theorem e163_ok : EnvOk PR e163 := envD_ok eqsT_ok TabPOk.nil TabHOk.nil TabLOk.nil TabDOk.nil
theorem cx163 : Ctx PR e163 [] (fun _ => none) 2000 163 := ctx_of e163_ok mixed (fn := Go.Proofs.Tryz.f163) (by kernel_rfl) (by kernel_rfl) (by kernel_rfl) (tabOk_none _)
theorem n163 : Enters PR 163 := enters_of (fn := Go.Proofs.Tryz.f163) (by kernel_rfl) (by kernel_rfl) (by kernel_rfl)
noncomputable def g163 : List AV → AH → Nat → Option (Bool × AV × AH) := deepC PR e163 3 2000 163 4096 true
theorem g163_ok : ActOk PR 4096 163 g163 := deepC_ok cx163 rfl rfl

/-! slices.IndexFunc[[]int,int] -/
noncomputable def e224 : Env := envD eqsT [(303, g303)] [] [] [(221, g221), (163, g163)] [9] false [221, 163]
theorem e224_ok : EnvOk PR e224 := envD_ok eqsT_ok (TabPOk.cons g303_ok TabPOk.nil) TabHOk.nil TabLOk.nil (TabDOk.cons n221 g221_ok (TabDOk.cons n163 g163_ok TabDOk.nil))
theorem cx224 : Ctx PR e224 [] (fun _ => none) 2000 224 := ctx_of e224_ok mixed (fn := Go.Proofs.Tryz.f224) (by kernel_rfl) (by kernel_rfl) (by kernel_rfl) (tabOk_none _)
theorem n224 : Enters PR 224 := enters_of (fn := Go.Proofs.Tryz.f224) (by kernel_rfl) (by kernel_rfl) (by kernel_rfl)
noncomputable def g224 : List AV → AH → Nat → Option (Bool × AV × AH) := deepC PR e224 5 2000 224 4096 true
theorem g224_ok : ActOk PR 4096 224 g224 := deepC_ok cx224 rfl rfl

/-! slices.ContainsFunc[[]int,int] -/
noncomputable def e220 : Env := envD eqsT [] [] [] [(224, g224)] [9] false [224]
theorem e220_ok : EnvOk PR e220 := envD_ok eqsT_ok TabPOk.nil TabHOk.nil TabLOk.nil (TabDOk.cons n224 g224_ok TabDOk.nil)
theorem cx220 : Ctx PR e220 [] (fun _ => none) 2000 220 := ctx_of e220_ok mixed (fn := Go.Proofs.Tryz.f220) (by kernel_rfl) (by kernel_rfl) (by kernel_rfl) (tabOk_none _)
theorem n220 : Enters PR 220 := enters_of (fn := Go.Proofs.Tryz.f220) (by kernel_rfl) (by kernel_rfl) (by kernel_rfl)
noncomputable def g220 : List AV → AH → Nat → Option (Bool × AV × AH) := deepC PR e220 4 2000 220 4096 true
theorem g220_ok : ActOk PR 4096 220 g220 := deepC_ok cx220 rfl rfl

/-! cmp.isNaN[int] -/
noncomputable def e349 : Env := envD eqsT [] [] [] [] [9] false []
theorem e349_ok : EnvOk PR e349 := envD_ok eqsT_ok TabPOk.nil TabHOk.nil TabLOk.nil TabDOk.nil
theorem cx349 : Ctx PR e349 [] (fun _ => none) 2000 349 := ctx_of e349_ok mixed (fn := Go.Proofs.Tryz.f349) (by kernel_rfl) (by kernel_rfl) (by kernel_rfl) (tabOk_none _)
theorem n349 : Enters PR 349 := enters_of (fn := Go.Proofs.Tryz.f349) (by kernel_rfl) (by kernel_rfl) (by kernel_rfl)
noncomputable def g349 : List AV → Option (Bool × AV) := (inlineC PR e349 3 2000 349)
theorem g349_ok : CallOk PR 349 g349 := (.inl ⟨n349, inlineC_ok cx349 rfl rfl⟩)

/-! cmp.Less[int] -/
noncomputable def e339 : Env := envD eqsT [(349, g349)] [] [] [] [9] false []
theorem e339_ok : EnvOk PR e339 := envD_ok eqsT_ok (TabPOk.cons g349_ok TabPOk.nil) TabHOk.nil TabLOk.nil TabDOk.nil
theorem cx339 : Ctx PR e339 [] (fun _ => none) 2000 339 := ctx_of e339_ok mixed (fn := Go.Proofs.Tryz.f339) (by kernel_rfl) (by kernel_rfl) (by kernel_rfl) (tabOk_none _)
theorem n339 : Enters PR 339 := enters_of (fn := Go.Proofs.Tryz.f339) (by kernel_rfl) (by kernel_rfl) (by kernel_rfl)
noncomputable def g339 : List AV → Option (Bool × AV) := (inlineC PR e339 5 2000 339)
theorem g339_ok : CallOk PR 339 g339 := (.inl ⟨n339, inlineC_ok cx339 rfl rfl⟩)

/-! slices.insertionSortOrdered[int] -/
noncomputable def e333 : Env := envD eqsT [(339, g339)] [] [] [] [9] false []
theorem e333_ok : EnvOk PR e333 := envD_ok eqsT_ok (TabPOk.cons g339_ok TabPOk.nil) TabHOk.nil TabLOk.nil TabDOk.nil
theorem cx333 : Ctx PR e333 [] (fun _ => none) 2000 333 := ctx_of e333_ok mixed (fn := Go.Proofs.Tryz.f333) (by kernel_rfl) (by kernel_rfl) (by kernel_rfl) (tabOk_none _)
theorem n333 : Enters PR 333 := enters_of (fn := Go.Proofs.Tryz.f333) (by kernel_rfl) (by kernel_rfl) (by kernel_rfl)
noncomputable def g333 : List AV → AH → Nat → Option (Bool × AV × AH) := deepC PR e333 6 2000 333 4096 false
theorem g333_ok : ActOk PR 4096 333 g333 := deepC_ok cx333 rfl rfl

/-! slices.siftDownOrdered[int] -/
noncomputable def e344 : Env := envD eqsT [(339, g339)] [] [] [] [9] false []
theorem e344_ok : EnvOk PR e344 := envD_ok eqsT_ok (TabPOk.cons g339_ok TabPOk.nil) TabHOk.nil TabLOk.nil TabDOk.nil
theorem cx344 : Ctx PR e344 [] (fun _ => none) 2000 344 := ctx_of e344_ok mixed (fn := Go.Proofs.Tryz.f344) (by kernel_rfl) (by kernel_rfl) (by kernel_rfl) (tabOk_none _)
theorem n344 : Enters PR 344 := enters_of (fn := Go.Proofs.Tryz.f344) (by kernel_rfl) (by kernel_rfl) (by kernel_rfl)
noncomputable def g344 : List AV → AH → Nat → Option (Bool × AV × AH) := deepC PR e344 7 2000 344 4096 false
theorem g344_ok : ActOk PR 4096 344 g344 := deepC_ok cx344 rfl rfl

/-! slices.heapSortOrdered[int] -/
noncomputable def e334 : Env := envD eqsT [] [] [] [(344, g344)] [9] false []
theorem e334_ok : EnvOk PR e334 := envD_ok eqsT_ok TabPOk.nil TabHOk.nil TabLOk.nil (TabDOk.cons n344 g344_ok TabDOk.nil)
theorem cx334 : Ctx PR e334 [] (fun _ => none) 2000 334 := ctx_of e334_ok mixed (fn := Go.Proofs.Tryz.f334) (by kernel_rfl) (by kernel_rfl) (by kernel_rfl) (tabOk_none _)
theorem n334 : Enters PR 334 := enters_of (fn := Go.Proofs.Tryz.f334) (by kernel_rfl) (by kernel_rfl) (by kernel_rfl)
noncomputable def g334 : List AV → AH → Nat → Option (Bool × AV × AH) := deepC PR e334 6 2000 334 4096 false
theorem g334_ok : ActOk PR 4096 334 g334 := deepC_ok cx334 rfl rfl

/-! math/bits.Len32 -/
noncomputable def e342 : Env := envD eqsT [] [] [] [] [9] false []
theorem e342_ok : EnvOk PR e342 := envD_ok eqsT_ok TabPOk.nil TabHOk.nil TabLOk.nil TabDOk.nil
theorem cx342 : Ctx PR e342 [] (fun _ => none) 2000 342 := ctx_of e342_ok mixed (fn := Go.Proofs.Tryz.f342) (by kernel_rfl) (by kernel_rfl) (by kernel_rfl) (tabOk_none _)
theorem n342 : Enters PR 342 := enters_of (fn := Go.Proofs.Tryz.f342) (by kernel_rfl) (by kernel_rfl) (by kernel_rfl)
noncomputable def g342 : List AV → Option (Bool × AV) := (inlineC PR e342 5 2000 342)
theorem g342_ok : CallOk PR 342 g342 := (.inl ⟨n342, inlineC_ok cx342 rfl rfl⟩)

/-! math/bits.Len -/
noncomputable def e324 : Env := envD eqsT [(250, (fn1 kU (kInt .i64) fun x => ((bl x.toNat : Nat) : Int))), (342, g342)] [] [] [] [9] false []
theorem e324_ok : EnvOk PR e324 := envD_ok eqsT_ok (TabPOk.cons len64_ok (TabPOk.cons g342_ok TabPOk.nil)) TabHOk.nil TabLOk.nil TabDOk.nil
theorem cx324 : Ctx PR e324 [] (fun _ => none) 2000 324 := ctx_of e324_ok mixed (fn := Go.Proofs.Tryz.f324) (by kernel_rfl) (by kernel_rfl) (by kernel_rfl) (tabOk_none _)
theorem n324 : Enters PR 324 := enters_of (fn := Go.Proofs.Tryz.f324) (by kernel_rfl) (by kernel_rfl) (by kernel_rfl)
noncomputable def g324 : List AV → Option (Bool × AV) := (inlineC PR e324 3 2000 324)
theorem g324_ok : CallOk PR 324 g324 := (.inl ⟨n324, inlineC_ok cx324 rfl rfl⟩)

/-! slices.nextPowerOfTwo -/
noncomputable def e345 : Env := envD eqsT [(324, g324)] [] [] [] [9] false []
theorem e345_ok : EnvOk PR e345 := envD_ok eqsT_ok (TabPOk.cons g324_ok TabPOk.nil) TabHOk.nil TabLOk.nil TabDOk.nil
theorem cx345 : Ctx PR e345 [] (fun _ => none) 2000 345 := ctx_of e345_ok mixed (fn := Go.Proofs.Tryz.f345) (by kernel_rfl) (by kernel_rfl) (by kernel_rfl) (tabOk_none _)
theorem n345 : Enters PR 345 := enters_of (fn := Go.Proofs.Tryz.f345) (by kernel_rfl) (by kernel_rfl) (by kernel_rfl)
noncomputable def g345 : List AV → Option (Bool × AV) := (inlineC PR e345 3 2000 345)
theorem g345_ok : CallOk PR 345 g345 := (.inl ⟨n345, inlineC_ok cx345 rfl rfl⟩)

/-! (*slices.xorshift).Next -/
noncomputable def e346 : Env := envD eqsT [] [] [] [] [9] false []
theorem e346_ok : EnvOk PR e346 := envD_ok eqsT_ok TabPOk.nil TabHOk.nil TabLOk.nil TabDOk.nil
theorem cx346 : Ctx PR e346 [] (fun _ => none) 2000 346 := ctx_of e346_ok mixed (fn := Go.Proofs.Tryz.f346) (by kernel_rfl) (by kernel_rfl) (by kernel_rfl) (tabOk_none _)
theorem n346 : Enters PR 346 := enters_of (fn := Go.Proofs.Tryz.f346) (by kernel_rfl) (by kernel_rfl) (by kernel_rfl)
noncomputable def g346 : List AV → AH → Nat → Option (Bool × AV × AH) := deepC PR e346 6 2000 346 4096 false
theorem g346_ok : ActOk PR 4096 346 g346 := deepC_ok cx346 rfl rfl

/-! slices.breakPatternsOrdered[int] -/
noncomputable def e335 : Env := envD eqsT [(345, g345)] [] [] [(346, g346)] [9] false []
theorem e335_ok : EnvOk PR e335 := envD_ok eqsT_ok (TabPOk.cons g345_ok TabPOk.nil) TabHOk.nil TabLOk.nil (TabDOk.cons n346 g346_ok TabDOk.nil)
theorem cx335 : Ctx PR e335 [] (fun _ => none) 2000 335 := ctx_of e335_ok mixed (fn := Go.Proofs.Tryz.f335) (by kernel_rfl) (by kernel_rfl) (by kernel_rfl) (tabOk_none _)
theorem n335 : Enters PR 335 := enters_of (fn := Go.Proofs.Tryz.f335) (by kernel_rfl) (by kernel_rfl) (by kernel_rfl)
noncomputable def g335 : List AV → AH → Nat → Option (Bool × AV × AH) := deepC PR e335 7 2000 335 4096 false
theorem g335_ok : ActOk PR 4096 335 g335 := deepC_ok cx335 rfl rfl

/-! slices.order2Ordered[int] -/
noncomputable def e351 : Env := envD eqsT [(339, g339)] [] [] [] [9] false []
theorem e351_ok : EnvOk PR e351 := envD_ok eqsT_ok (TabPOk.cons g339_ok TabPOk.nil) TabHOk.nil TabLOk.nil TabDOk.nil
theorem cx351 : Ctx PR e351 [] (fun _ => none) 2000 351 := ctx_of e351_ok mixed (fn := Go.Proofs.Tryz.f351) (by kernel_rfl) (by kernel_rfl) (by kernel_rfl) (tabOk_none _)
theorem n351 : Enters PR 351 := enters_of (fn := Go.Proofs.Tryz.f351) (by kernel_rfl) (by kernel_rfl) (by kernel_rfl)
noncomputable def g351 : List AV → AH → Nat → Option (Bool × AV × AH) := deepC PR e351 5 2000 351 4096 false
theorem g351_ok : ActOk PR 4096 351 g351 := deepC_ok cx351 rfl rfl

/-! slices.medianOrdered[int] -/
noncomputable def e348 : Env := envD eqsT [] [] [] [(351, g351)] [9] false []
theorem e348_ok : EnvOk PR e348 := envD_ok eqsT_ok TabPOk.nil TabHOk.nil TabLOk.nil (TabDOk.cons n351 g351_ok TabDOk.nil)
theorem cx348 : Ctx PR e348 [] (fun _ => none) 2000 348 := ctx_of e348_ok mixed (fn := Go.Proofs.Tryz.f348) (by kernel_rfl) (by kernel_rfl) (by kernel_rfl) (tabOk_none _)
theorem n348 : Enters PR 348 := enters_of (fn := Go.Proofs.Tryz.f348) (by kernel_rfl) (by kernel_rfl) (by kernel_rfl)
noncomputable def g348 : List AV → AH → Nat → Option (Bool × AV × AH) := deepC PR e348 6 2000 348 4096 false
theorem g348_ok : ActOk PR 4096 348 g348 := deepC_ok cx348 rfl rfl

/-! slices.medianAdjacentOrdered[int] -/
noncomputable def e347 : Env := envD eqsT [] [] [] [(348, g348)] [9] false []
theorem e347_ok : EnvOk PR e347 := envD_ok eqsT_ok TabPOk.nil TabHOk.nil TabLOk.nil (TabDOk.cons n348 g348_ok TabDOk.nil)
theorem cx347 : Ctx PR e347 [] (fun _ => none) 2000 347 := ctx_of e347_ok mixed (fn := Go.Proofs.Tryz.f347) (by kernel_rfl) (by kernel_rfl) (by kernel_rfl) (tabOk_none _)
theorem n347 : Enters PR 347 := enters_of (fn := Go.Proofs.Tryz.f347) (by kernel_rfl) (by kernel_rfl) (by kernel_rfl)
noncomputable def g347 : List AV → AH → Nat → Option (Bool × AV × AH) := deepC PR e347 4 2000 347 4096 false
theorem g347_ok : ActOk PR 4096 347 g347 := deepC_ok cx347 rfl rfl

/-! slices.choosePivotOrdered[int] -/
noncomputable def e336 : Env := envD eqsT [] [] [] [(347, g347), (348, g348)] [9] false []
theorem e336_ok : EnvOk PR e336 := envD_ok eqsT_ok TabPOk.nil TabHOk.nil TabLOk.nil (TabDOk.cons n347 g347_ok (TabDOk.cons n348 g348_ok TabDOk.nil))
theorem cx336 : Ctx PR e336 [] (fun _ => none) 2000 336 := ctx_of e336_ok mixed (fn := Go.Proofs.Tryz.f336) (by kernel_rfl) (by kernel_rfl) (by kernel_rfl) (tabOk_none _)
theorem n336 : Enters PR 336 := enters_of (fn := Go.Proofs.Tryz.f336) (by kernel_rfl) (by kernel_rfl) (by kernel_rfl)
noncomputable def g336 : List AV → AH → Nat → Option (Bool × AV × AH) := deepC PR e336 6 2000 336 4096 false
theorem g336_ok : ActOk PR 4096 336 g336 := deepC_ok cx336 rfl rfl

/-! slices.reverseRangeOrdered[int] -/
noncomputable def e337 : Env := envD eqsT [] [] [] [] [9] false []
theorem e337_ok : EnvOk PR e337 := envD_ok eqsT_ok TabPOk.nil TabHOk.nil TabLOk.nil TabDOk.nil
theorem cx337 : Ctx PR e337 [] (fun _ => none) 2000 337 := ctx_of e337_ok mixed (fn := Go.Proofs.Tryz.f337) (by kernel_rfl) (by kernel_rfl) (by kernel_rfl) (tabOk_none _)
theorem n337 : Enters PR 337 := enters_of (fn := Go.Proofs.Tryz.f337) (by kernel_rfl) (by kernel_rfl) (by kernel_rfl)
noncomputable def g337 : List AV → AH → Nat → Option (Bool × AV × AH) := deepC PR e337 5 2000 337 4096 false
theorem g337_ok : ActOk PR 4096 337 g337 := deepC_ok cx337 rfl rfl

/-! slices.partialInsertionSortOrdered[int] -/
noncomputable def e338 : Env := envD eqsT [(339, g339)] [] [] [] [9] false []
theorem e338_ok : EnvOk PR e338 := envD_ok eqsT_ok (TabPOk.cons g339_ok TabPOk.nil) TabHOk.nil TabLOk.nil TabDOk.nil
theorem cx338 : Ctx PR e338 [] (fun _ => none) 2000 338 := ctx_of e338_ok mixed (fn := Go.Proofs.Tryz.f338) (by kernel_rfl) (by kernel_rfl) (by kernel_rfl) (tabOk_none _)
theorem n338 : Enters PR 338 := enters_of (fn := Go.Proofs.Tryz.f338) (by kernel_rfl) (by kernel_rfl) (by kernel_rfl)
noncomputable def g338 : List AV → AH → Nat → Option (Bool × AV × AH) := deepC PR e338 8 2000 338 4096 false
theorem g338_ok : ActOk PR 4096 338 g338 := deepC_ok cx338 rfl rfl

/-! slices.partitionEqualOrdered[int] -/
noncomputable def e340 : Env := envD eqsT [(339, g339)] [] [] [] [9] false []
theorem e340_ok : EnvOk PR e340 := envD_ok eqsT_ok (TabPOk.cons g339_ok TabPOk.nil) TabHOk.nil TabLOk.nil TabDOk.nil
theorem cx340 : Ctx PR e340 [] (fun _ => none) 2000 340 := ctx_of e340_ok mixed (fn := Go.Proofs.Tryz.f340) (by kernel_rfl) (by kernel_rfl) (by kernel_rfl) (tabOk_none _)
theorem n340 : Enters PR 340 := enters_of (fn := Go.Proofs.Tryz.f340) (by kernel_rfl) (by kernel_rfl) (by kernel_rfl)
noncomputable def g340 : List AV → AH → Nat → Option (Bool × AV × AH) := deepC PR e340 7 2000 340 4096 false
theorem g340_ok : ActOk PR 4096 340 g340 := deepC_ok cx340 rfl rfl

/-! slices.partitionOrdered[int] -/
noncomputable def e341 : Env := envD eqsT [(339, g339)] [] [] [] [9] false []
theorem e341_ok : EnvOk PR e341 := envD_ok eqsT_ok (TabPOk.cons g339_ok TabPOk.nil) TabHOk.nil TabLOk.nil TabDOk.nil
theorem cx341 : Ctx PR e341 [] (fun _ => none) 2000 341 := ctx_of e341_ok mixed (fn := Go.Proofs.Tryz.f341) (by kernel_rfl) (by kernel_rfl) (by kernel_rfl) (tabOk_none _)
theorem n341 : Enters PR 341 := enters_of (fn := Go.Proofs.Tryz.f341) (by kernel_rfl) (by kernel_rfl) (by kernel_rfl)
noncomputable def g341 : List AV → AH → Nat → Option (Bool × AV × AH) := deepC PR e341 8 2000 341 4096 false
theorem g341_ok : ActOk PR 4096 341 g341 := deepC_ok cx341 rfl rfl

/-! slices.pdqsortOrdered[int] -/
noncomputable def e323 : Env := envD eqsT [(339, g339)] [] [] [(333, g333), (334, g334), (335, g335), (336, g336), (337, g337), (338, g338), (340, g340), (341, g341)] [9] false []
theorem e323_ok : EnvOk PR e323 := envD_ok eqsT_ok (TabPOk.cons g339_ok TabPOk.nil) TabHOk.nil TabLOk.nil (TabDOk.cons n333 g333_ok (TabDOk.cons n334 g334_ok (TabDOk.cons n335 g335_ok (TabDOk.cons n336 g336_ok (TabDOk.cons n337 g337_ok (TabDOk.cons n338 g338_ok (TabDOk.cons n340 g340_ok (TabDOk.cons n341 g341_ok TabDOk.nil))))))))
theorem cx323 : Ctx PR e323 [] (fun _ => none) 2000 323 := ctx_of e323_ok mixed (fn := Go.Proofs.Tryz.f323) (by kernel_rfl) (by kernel_rfl) (by kernel_rfl) (tabOk_none _)
theorem n323 : Enters PR 323 := enters_of (fn := Go.Proofs.Tryz.f323) (by kernel_rfl) (by kernel_rfl) (by kernel_rfl)
noncomputable def g323 : List AV → AH → Nat → Option (Bool × AV × AH) := deepC PR e323 8 2000 323 4096 false
theorem g323_ok : ActOk PR 4096 323 g323 := deepC_ok cx323 rfl rfl

/-! slices.Sort[[]int,int] -/
noncomputable def e304 : Env := envD eqsT [(324, g324)] [] [] [(323, g323)] [9] false []
theorem e304_ok : EnvOk PR e304 := envD_ok eqsT_ok (TabPOk.cons g324_ok TabPOk.nil) TabHOk.nil TabLOk.nil (TabDOk.cons n323 g323_ok TabDOk.nil)
theorem cx304 : Ctx PR e304 [] (fun _ => none) 2000 304 := ctx_of e304_ok mixed (fn := Go.Proofs.Tryz.f304) (by kernel_rfl) (by kernel_rfl) (by kernel_rfl) (tabOk_none _)
theorem n304 : Enters PR 304 := enters_of (fn := Go.Proofs.Tryz.f304) (by kernel_rfl) (by kernel_rfl) (by kernel_rfl)
noncomputable def g304 : List AV → AH → Nat → Option (Bool × AV × AH) := deepC PR e304 4 2000 304 4096 false
theorem g304_ok : ActOk PR 4096 304 g304 := deepC_ok cx304 rfl rfl

/-! slices.Compact[[]int,int] -/
noncomputable def e305 : Env := envD eqsT [] [] [] [] [9] false []
theorem e305_ok : EnvOk PR e305 := envD_ok eqsT_ok TabPOk.nil TabHOk.nil TabLOk.nil TabDOk.nil
theorem cx305 : Ctx PR e305 [] (fun _ => none) 2000 305 := ctx_of e305_ok mixed (fn := Go.Proofs.Tryz.f305) (by kernel_rfl) (by kernel_rfl) (by kernel_rfl) (tabOk_none _)
theorem n305 : Enters PR 305 := enters_of (fn := Go.Proofs.Tryz.f305) (by kernel_rfl) (by kernel_rfl) (by kernel_rfl)
noncomputable def g305 : List AV → AH → Nat → Option (Bool × AV × AH) := deepC PR e305 6 2000 305 4096 false
theorem g305_ok : ActOk PR 4096 305 g305 := deepC_ok cx305 rfl rfl

/-! reliquary/share.places -/
noncomputable def e261 : Env := envD eqsT [] [] [] [(164, g164), (220, g220), (304, g304), (305, g305)] [9] false [164, 220]
theorem e261_ok : EnvOk PR e261 := envD_ok eqsT_ok TabPOk.nil TabHOk.nil TabLOk.nil (TabDOk.cons n164 g164_ok (TabDOk.cons n220 g220_ok (TabDOk.cons n304 g304_ok (TabDOk.cons n305 g305_ok TabDOk.nil))))
theorem cx261 : Ctx PR e261 [] (fun _ => none) 2000 261 := ctx_of e261_ok mixed (fn := Go.Proofs.Tryz.f261) (by kernel_rfl) (by kernel_rfl) (by kernel_rfl) (tabOk_none _)
theorem n261 : Enters PR 261 := enters_of (fn := Go.Proofs.Tryz.f261) (by kernel_rfl) (by kernel_rfl) (by kernel_rfl)
noncomputable def g261 : List AV → AH → Nat → Option (Bool × AV × AH) := deepC PR e261 6 2000 261 4096 true
theorem g261_ok : ActOk PR 4096 261 g261 := deepC_ok cx261 rfl rfl

/-! reliquary/share.at -/
noncomputable def e208 : Env := envD eqsT [(16, (fn1 kU c6.agg ofW))] [] [] [] [9] false []
theorem e208_ok : EnvOk PR e208 := envD_ok eqsT_ok (TabPOk.cons of_ok TabPOk.nil) TabHOk.nil TabLOk.nil TabDOk.nil
theorem cx208 : Ctx PR e208 [] (fun _ => none) 2000 208 := ctx_of e208_ok mixed (fn := Go.Proofs.Tryz.f208) (by kernel_rfl) (by kernel_rfl) (by kernel_rfl) (tabOk_none _)
theorem n208 : Enters PR 208 := enters_of (fn := Go.Proofs.Tryz.f208) (by kernel_rfl) (by kernel_rfl) (by kernel_rfl)
noncomputable def g208 : List AV → Option (Bool × AV) := (inlineC PR e208 3 2000 208)
theorem g208_ok : CallOk PR 208 g208 := (.inl ⟨n208, inlineC_ok cx208 rfl rfl⟩)

/-! reliquary/little.Order -/
noncomputable def e202 : Env := envD eqsT [(171, g171)] [] [] [] [9] false []
theorem e202_ok : EnvOk PR e202 := envD_ok eqsT_ok (TabPOk.cons g171_ok TabPOk.nil) TabHOk.nil TabLOk.nil TabDOk.nil
theorem cx202 : Ctx PR e202 [] (fun _ => none) 2000 202 := ctx_of e202_ok mixed (fn := Go.Proofs.Tryz.f202) (by kernel_rfl) (by kernel_rfl) (by kernel_rfl) (tabOk_none _)
theorem n202 : Enters PR 202 := enters_of (fn := Go.Proofs.Tryz.f202) (by kernel_rfl) (by kernel_rfl) (by kernel_rfl)
noncomputable def g202 : List AV → Option (Bool × AV) := (inlineC PR e202 4 2000 202)
theorem g202_ok : CallOk PR 202 g202 := (.inl ⟨n202, inlineC_ok cx202 rfl rfl⟩)

/-! reliquary/suite.order -/
noncomputable def e123 : Env := envD eqsT [(16, (fn1 kU c6.agg ofW)), (202, g202)] [] [] [] [9] false []
theorem e123_ok : EnvOk PR e123 := envD_ok eqsT_ok (TabPOk.cons of_ok (TabPOk.cons g202_ok TabPOk.nil)) TabHOk.nil TabLOk.nil TabDOk.nil
theorem cx123 : Ctx PR e123 [] (fun _ => none) 2000 123 := ctx_of e123_ok mixed (fn := Go.Proofs.Tryz.f123) (by kernel_rfl) (by kernel_rfl) (by kernel_rfl) (tabOk_none _)
theorem n123 : Enters PR 123 := enters_of (fn := Go.Proofs.Tryz.f123) (by kernel_rfl) (by kernel_rfl) (by kernel_rfl)
noncomputable def g123 : List AV → Option (Bool × AV) := (inlineC PR e123 4 2000 123)
theorem g123_ok : CallOk PR 123 g123 := (.inl ⟨n123, inlineC_ok cx123 rfl rfl⟩)

/-! reliquary/suite.scalars -/
noncomputable def e197 : Env := envD eqsT [(98, (fn2 c6.agg c6.agg (kInt .i64) fun a b => chainV (cmpL a b) 0)), (104, g104), (123, g123)] [] [(179, (layP kMd 291 cFa 0 modS))] [] [9] false []
theorem e197_ok : EnvOk PR e197 := envD_ok eqsT_ok (TabPOk.cons cmp_ok (TabPOk.cons g104_ok (TabPOk.cons g123_ok TabPOk.nil))) TabHOk.nil (TabLOk.cons nw_ent newS_okL TabLOk.nil) TabDOk.nil
theorem cx197 : Ctx PR e197 [] (fun _ => none) 2000 197 := ctx_of e197_ok mixed (fn := Go.Proofs.Tryz.f197) (by kernel_rfl) (by kernel_rfl) (by kernel_rfl) (tabOk_none _)
theorem n197 : Enters PR 197 := enters_of (fn := Go.Proofs.Tryz.f197) (by kernel_rfl) (by kernel_rfl) (by kernel_rfl)
noncomputable def g197 : List AV → AH → Nat → Option (Bool × AV × AH) := deepC PR e197 5 2000 197 4096 true
theorem g197_ok : ActOk PR 4096 197 g197 := deepC_ok cx197 rfl rfl

/-! reliquary/suite.Sub$1 -/
noncomputable def e195 : Env := envD eqsT [] [(196, (rdp 291 cFa (mc2 c6.agg c6.agg) c6.agg (fun m x => qsubW m x.1 x.2)))] [] [] [9] false [196]
theorem e195_ok : EnvOk PR e195 := envD_ok eqsT_ok TabPOk.nil (TabHOk.cons qsub_ent qsub_ok TabHOk.nil) TabLOk.nil TabDOk.nil
theorem cx195 : Ctx PR e195 [] (fun _ => none) 2000 195 := ctx_of e195_ok mixed (fn := Go.Proofs.Tryz.f195) (by kernel_rfl) (by kernel_rfl) (by kernel_rfl) (tabOk_none _)
theorem n195 : Enters PR 195 := enters_of (fn := Go.Proofs.Tryz.f195) (by kernel_rfl) (by kernel_rfl) (by kernel_rfl)
noncomputable def g195 : List AV → AH → Nat → Option (Bool × AV × AH) := deepC PR e195 4 2000 195 4096 true
theorem g195_ok : ActOk PR 4096 195 g195 := deepC_ok cx195 rfl rfl

/-! reliquary/suite.Mul$1 -/
noncomputable def e199 : Env := envD eqsT [] [(200, (rdp 291 cFa (mc2 c6.agg c6.agg) c6.agg (fun m x => qmulW m x.1 x.2)))] [] [] [9] false [200]
theorem e199_ok : EnvOk PR e199 := envD_ok eqsT_ok TabPOk.nil (TabHOk.cons qmul_ent qmul_ok TabHOk.nil) TabLOk.nil TabDOk.nil
theorem cx199 : Ctx PR e199 [] (fun _ => none) 2000 199 := ctx_of e199_ok mixed (fn := Go.Proofs.Tryz.f199) (by kernel_rfl) (by kernel_rfl) (by kernel_rfl) (tabOk_none _)
theorem n199 : Enters PR 199 := enters_of (fn := Go.Proofs.Tryz.f199) (by kernel_rfl) (by kernel_rfl) (by kernel_rfl)
noncomputable def g199 : List AV → AH → Nat → Option (Bool × AV × AH) := deepC PR e199 4 2000 199 4096 true
theorem g199_ok : ActOk PR 4096 199 g199 := deepC_ok cx199 rfl rfl

/-! reliquary/suite.Add$1 -/
noncomputable def e254 : Env := envD eqsT [] [(176, (rdp 291 cFa (mc2 c6.agg c6.agg) c6.agg (fun m x => qaddW m x.1 x.2)))] [] [] [9] false [176]
theorem e254_ok : EnvOk PR e254 := envD_ok eqsT_ok TabPOk.nil (TabHOk.cons qadd_ent qadd_ok TabHOk.nil) TabLOk.nil TabDOk.nil
theorem cx254 : Ctx PR e254 [] (fun _ => none) 2000 254 := ctx_of e254_ok mixed (fn := Go.Proofs.Tryz.f254) (by kernel_rfl) (by kernel_rfl) (by kernel_rfl) (tabOk_none _)
theorem n254 : Enters PR 254 := enters_of (fn := Go.Proofs.Tryz.f254) (by kernel_rfl) (by kernel_rfl) (by kernel_rfl)
noncomputable def g254 : List AV → AH → Nat → Option (Bool × AV × AH) := deepC PR e254 4 2000 254 4096 true
theorem g254_ok : ActOk PR 4096 254 g254 := deepC_ok cx254 rfl rfl

/-! reliquary/suite.done -/
noncomputable def e194 : Env := envD eqsT [] [] [] [(197, g197), (195, g195), (199, g199), (254, g254)] [9] false [197, 195, 199, 254]
theorem e194_ok : EnvOk PR e194 := envD_ok eqsT_ok TabPOk.nil TabHOk.nil TabLOk.nil (TabDOk.cons n197 g197_ok (TabDOk.cons n195 g195_ok (TabDOk.cons n199 g199_ok (TabDOk.cons n254 g254_ok TabDOk.nil))))
theorem cx194 : Ctx PR e194 [] (fun _ => none) 2000 194 := ctx_of e194_ok mixed (fn := Go.Proofs.Tryz.f194) (by kernel_rfl) (by kernel_rfl) (by kernel_rfl) (tabOk_none _)
theorem n194 : Enters PR 194 := enters_of (fn := Go.Proofs.Tryz.f194) (by kernel_rfl) (by kernel_rfl) (by kernel_rfl)
noncomputable def g194 : List AV → AH → Nat → Option (Bool × AV × AH) := deepC PR e194 5 2000 194 4096 true
theorem g194_ok : ActOk PR 4096 194 g194 := deepC_ok cx194 rfl rfl

/-! reliquary/suite.Mul -/
noncomputable def e122 : Env := envD eqsT [] [] [] [(194, g194)] [9] false [194]
theorem e122_ok : EnvOk PR e122 := envD_ok eqsT_ok TabPOk.nil TabHOk.nil TabLOk.nil (TabDOk.cons n194 g194_ok TabDOk.nil)
theorem cx122 : Ctx PR e122 [] (fun _ => none) 2000 122 := ctx_of e122_ok mixed (fn := Go.Proofs.Tryz.f122) (by kernel_rfl) (by kernel_rfl) (by kernel_rfl) (tabOk_none _)
theorem n122 : Enters PR 122 := enters_of (fn := Go.Proofs.Tryz.f122) (by kernel_rfl) (by kernel_rfl) (by kernel_rfl)
noncomputable def g122 : List AV → Option (Bool × AV) := (inlineC PR e122 4 2000 122)
theorem g122_ok : CallOk PR 122 g122 := (.inl ⟨n122, inlineC_ok cx122 rfl rfl⟩)
end Go.Rq

/- A closed law's functions, each gone through where it is called. Written by a program of ours. -/
namespace Go.Rq
open Go Go.Proofs

/-! (reliquary/share.field).mul -/
noncomputable def e264 : Env := envD eqsT [(122, g122)] [] [] [] [9] false []
theorem e264_ok : EnvOk PR e264 := envD_ok eqsT_ok (TabPOk.cons g122_ok TabPOk.nil) TabHOk.nil TabLOk.nil TabDOk.nil
theorem cx264 : Ctx PR e264 [] (fun _ => none) 2000 264 := ctx_of e264_ok mixed (fn := Go.Proofs.Tryz.f264) (by kernel_rfl) (by kernel_rfl) (by kernel_rfl) (tabOk_none _)
theorem n264 : Enters PR 264 := enters_of (fn := Go.Proofs.Tryz.f264) (by kernel_rfl) (by kernel_rfl) (by kernel_rfl)
noncomputable def g264 : List AV → Option (Bool × AV) := (inlineC PR e264 5 2000 264)
theorem g264_ok : CallOk PR 264 g264 := (.inl ⟨n264, inlineC_ok cx264 rfl rfl⟩)

/-! reliquary/suite.Sub -/
noncomputable def e120 : Env := envD eqsT [] [] [] [(194, g194)] [9] false [194]
theorem e120_ok : EnvOk PR e120 := envD_ok eqsT_ok TabPOk.nil TabHOk.nil TabLOk.nil (TabDOk.cons n194 g194_ok TabDOk.nil)
theorem cx120 : Ctx PR e120 [] (fun _ => none) 2000 120 := ctx_of e120_ok mixed (fn := Go.Proofs.Tryz.f120) (by kernel_rfl) (by kernel_rfl) (by kernel_rfl) (tabOk_none _)
theorem n120 : Enters PR 120 := enters_of (fn := Go.Proofs.Tryz.f120) (by kernel_rfl) (by kernel_rfl) (by kernel_rfl)
noncomputable def g120 : List AV → Option (Bool × AV) := (inlineC PR e120 4 2000 120)
theorem g120_ok : CallOk PR 120 g120 := (.inl ⟨n120, inlineC_ok cx120 rfl rfl⟩)

/-! (reliquary/share.field).sub -/
noncomputable def e306 : Env := envD eqsT [(120, g120)] [] [] [] [9] false []
theorem e306_ok : EnvOk PR e306 := envD_ok eqsT_ok (TabPOk.cons g120_ok TabPOk.nil) TabHOk.nil TabLOk.nil TabDOk.nil
theorem cx306 : Ctx PR e306 [] (fun _ => none) 2000 306 := ctx_of e306_ok mixed (fn := Go.Proofs.Tryz.f306) (by kernel_rfl) (by kernel_rfl) (by kernel_rfl) (tabOk_none _)
theorem n306 : Enters PR 306 := enters_of (fn := Go.Proofs.Tryz.f306) (by kernel_rfl) (by kernel_rfl) (by kernel_rfl)
noncomputable def g306 : List AV → Option (Bool × AV) := (inlineC PR e306 5 2000 306)
theorem g306_ok : CallOk PR 306 g306 := (.inl ⟨n306, inlineC_ok cx306 rfl rfl⟩)

/-! reliquary/words.Shift -/
noncomputable def e241 : Env := envD eqsT [] [] [] [] [9] false []
theorem e241_ok : EnvOk PR e241 := envD_ok eqsT_ok TabPOk.nil TabHOk.nil TabLOk.nil TabDOk.nil
theorem cx241 : Ctx PR e241 [] (fun _ => none) 2000 241 := ctx_of e241_ok mixed (fn := Go.Proofs.Tryz.f241) (by kernel_rfl) (by kernel_rfl) (by kernel_rfl) (tabOk_none _)
theorem n241 : Enters PR 241 := enters_of (fn := Go.Proofs.Tryz.f241) (by kernel_rfl) (by kernel_rfl) (by kernel_rfl)
noncomputable def g241 : List AV → Option (Bool × AV) := (inlineC PR e241 7 2000 241)
theorem g241_ok : CallOk PR 241 g241 := (.inl ⟨n241, inlineC_ok cx241 rfl rfl⟩)

/-! (*reliquary/modulus.Modulus).half -/
noncomputable def e258 : Env := envD eqsT [(235, (fn2 c6.agg c6.agg kWB wAddW)), (241, g241)] [] [] [] [9] false []
theorem e258_ok : EnvOk PR e258 := envD_ok eqsT_ok (TabPOk.cons wadd_ok (TabPOk.cons g241_ok TabPOk.nil)) TabHOk.nil TabLOk.nil TabDOk.nil
theorem cx258 : Ctx PR e258 [] (fun _ => none) 2000 258 := ctx_of e258_ok mixed (fn := Go.Proofs.Tryz.f258) (by kernel_rfl) (by kernel_rfl) (by kernel_rfl) (tabOk_none _)
theorem n258 : Enters PR 258 := enters_of (fn := Go.Proofs.Tryz.f258) (by kernel_rfl) (by kernel_rfl) (by kernel_rfl)
noncomputable def g258 : List AV → AH → Option (Bool × AV × AH) := viewG PR e258 [] 2000 258
theorem g258_ok : HeapOk PR 258 g258 := view_ok cx258

/-! (*reliquary/modulus.Modulus).Inv -/
noncomputable def e198 : Env := envD eqsT [(16, (fn1 kU c6.agg ofW)), (98, (fn2 c6.agg c6.agg (kInt .i64) fun a b => chainV (cmpL a b) 0)), (241, g241), (257, (fn2 c6.agg c6.agg kWB wSubW))] [(174, (rdp 291 cFa (mc1 c6.agg) c6.agg moRedW)), (196, (rdp 291 cFa (mc2 c6.agg c6.agg) c6.agg (fun m x => qsubW m x.1 x.2))), (232, (rdp 291 cFa mc0 kBool (fun m _ => moNone m))), (258, g258)] [] [] [9] false [174, 196, 232, 258]
theorem e198_ok : EnvOk PR e198 := envD_ok eqsT_ok (TabPOk.cons of_ok (TabPOk.cons cmp_ok (TabPOk.cons g241_ok (TabPOk.cons wsub_ok TabPOk.nil)))) (TabHOk.cons mred_ent mred_ok (TabHOk.cons qsub_ent qsub_ok (TabHOk.cons mn_ent mn_ok (TabHOk.cons n258 g258_ok TabHOk.nil)))) TabLOk.nil TabDOk.nil
theorem cx198 : Ctx PR e198 [] (fun _ => none) 2000 198 := ctx_of e198_ok mixed (fn := Go.Proofs.Tryz.f198) (by kernel_rfl) (by kernel_rfl) (by kernel_rfl) (tabOk_none _)
theorem n198 : Enters PR 198 := enters_of (fn := Go.Proofs.Tryz.f198) (by kernel_rfl) (by kernel_rfl) (by kernel_rfl)
noncomputable def g198 : List AV → AH → Nat → Option (Bool × AV × AH) := deepC PR e198 7 2000 198 4096 true
theorem g198_ok : ActOk PR 4096 198 g198 := deepC_ok cx198 rfl rfl

/-! reliquary/suite.Inv -/
noncomputable def e121 : Env := envD eqsT [] [] [] [(197, g197), (198, g198)] [9] false [197, 198]
theorem e121_ok : EnvOk PR e121 := envD_ok eqsT_ok TabPOk.nil TabHOk.nil TabLOk.nil (TabDOk.cons n197 g197_ok (TabDOk.cons n198 g198_ok TabDOk.nil))
theorem cx121 : Ctx PR e121 [] (fun _ => none) 2000 121 := ctx_of e121_ok mixed (fn := Go.Proofs.Tryz.f121) (by kernel_rfl) (by kernel_rfl) (by kernel_rfl) (tabOk_none _)
theorem n121 : Enters PR 121 := enters_of (fn := Go.Proofs.Tryz.f121) (by kernel_rfl) (by kernel_rfl) (by kernel_rfl)
end Go.Rq
