/- Powers by the great prime: a contract. -/
import Derived.Test.YtdbcjiggimppdaaRq20
import Derived.Test.YtdbcjiggimppdaaRq12
import Derived.Test.YtdbcjiggimppdaaRq17
namespace Go.Rq
open Go Go.Proofs

def eqMo (a b : Mo) : Bool := bif eqW a.1 b.1 then (bif a.2.1 == b.2.1 then eqW a.2.2 b.2.2 else false) else false
theorem eqMo_ok (a b : Mo) (h : eqMo a b = true) : a = b := by
  obtain ⟨a1, a2, a3⟩ := a
  obtain ⟨b1, b2, b3⟩ := b
  unfold eqMo at h
  dsimp only at h
  cases h1 : eqW a1 b1 with
  | false => rw [h1] at h; cases h
  | true =>
    cases h2 : (a2 == b2) with
    | false => rw [h1, h2] at h; cases h
    | true =>
      rw [h1, h2] at h
      have h2 : a2 = b2 := by simpa using h2
      rw [(eqW_iff _ _).1 h1, h2, (eqW_iff _ _).1 h]
/-- The prime's modulus in a block. -/
def cMP : CC Unit := ccIs cFa modP eqMo (fun x h => eqMo_ok x modP h)

/-- What is left open. -/
structure PQ where
  mm : Mo → W6 → W6 → W6
  ln : W6 → Int
  bt : W6 → Int → Int
def pqT (t : PQ) : PureTab := [(63, fn1 kU c6.agg ofW), (116, fn1 c6.agg (kInt .i64) t.ln), (177, fn2 c6.agg (kInt .i64) (kInt .i64) t.bt)]
noncomputable def pqE (t : PQ) : Env := envA eqsT (pqT t) [(119, rdp 165 cFa mc0 kBool (fun m _ => moNone m)), (120, rdp 165 cFa (mc2 c6.agg c6.agg) c6.agg (fun m x => t.mm m x.1 x.2))]
  [] [] [] [] true [119, 120]
def pqK : Keep := ⟨[0, 5, 6, 7, 8, 9], [0, 2, 3, 20, 21], 28⟩
@[irreducible] noncomputable def pqX (t : PQ) (a e : W6) : XS := entryOf PR (pqE t) [31, 41] (fun _ => none) 10 195 [.ptr 0 0, c6.agg.enc a, c6.agg.enc e] (oneAH cMP 165 ()) 1 0 pqK
@[irreducible] noncomputable def pqI (t : PQ) (a e : W6) (d : Int × W6) : XS := ((pqX t a e).setT 9 (.v (.int .i64 d.1))).setB 21 (c6.enc d.2)
@[irreducible] noncomputable def pqC : Code := roundOf PR 195 0
def pqA (t : PQ) (a : W6) : W6 := t.mm modP a modP.2.2
def pq1 (t : PQ) : W6 := t.mm modP (ofW (bitW true)) modP.2.2
set_option maxRecDepth 1000000 in
theorem pq_round (t : PQ) (a e : W6) (z : Int) (out : W6) : (roundT PR (pqE t) [31, 41] (fun _ => none) 10 pqK pqK pqK pqC (pqI t a e (z, out))).strict =
    .br (decide (z ≥ 0))
      (.br (t.bt e z == 1)
        (.leaf (.normal, pqI t a e (IntKind.i64.wrap (z - 1), t.mm modP (t.mm modP out out) (pqA t a))))
        (.leaf (.normal, pqI t a e (IntKind.i64.wrap (z - 1), t.mm modP out out))))
      (.leaf (.exit 0, pqI t a e (z, out))) := by kernel_rfl
set_option maxRecDepth 1000000 in
theorem pq_head (t : PQ) (a e : W6) : pqX t a e = pqI t a e (IntKind.i64.wrap (t.ln e - 1), pq1 t) := by kernel_rfl
theorem pq_blk : blkAll 0 (bodyOf PR 195) = [.loop pqC] := by kernel_rfl
@[irreducible] noncomputable def pqB (t : PQ) (a e : W6) (r : W6) : BEnt := ⟨pqK.tm, pqK.ids, pqK.n, pqX t a e, .leaf (.normal, pqI t a e (-1, r))⟩
theorem pqB_n (t : PQ) (a e r : W6) : (pqB t a e r).n = 28 ∧ (pqB t a e r).pre = pqX t a e ∧ (pqB t a e r).post = .leaf (.normal, pqI t a e (-1, r)) := by
  unfold pqB
  exact ⟨rfl, rfl, rfl⟩
set_option maxRecDepth 1000000 in
theorem pq_run (t : PQ) (a e r : W6) : ((afun PR (pqE t) [31, 41] (tabOf [(0, pqB t a e r)]) 10 195 [.ptr 0 0, c6.agg.enc a, c6.agg.enc e] (oneAH cMP 165 ()) 1).bind fun q => .leaf q.1).strict =
    .same (pqX t a e) (pqX t a e) (.leaf (c6.agg.enc (t.mm modP r (ofW (bitW true))))) := by kernel_rfl

def pqO : PQ := ⟨moMontW, lenI, bitI⟩
theorem pqT_eq : [(63, fn1 kU c6.agg ofW), (116, fn1 c6.agg (kInt .i64) lenI), (177, fn2 c6.agg (kInt .i64) (kInt .i64) bitI)] = pqT pqO := by kernel_rfl
theorem pqT_ok : TabPOk PR (pqT pqO) := Eq.subst (motive := TabPOk PR) pqT_eq (TabPOk.cons of_ok (TabPOk.cons len_ok (TabPOk.cons bit_ok TabPOk.nil)))
theorem pqE_ok : EnvOk PR (pqE pqO) := envA_ok eqsT_ok pqT_ok (TabHOk.cons mn_ent mn_ok (TabHOk.cons mm_ent mm_ok TabHOk.nil)) TabLOk.nil TabAOk.nil
theorem pq_codeOk : codeOk (pqE pqO) pqC = true := by kernel_rfl
def pqG (t : PQ) (a e : W6) (k : Nat) (u : W6) : W6 := sqG (fun u => t.mm modP u u) (fun u => t.mm modP u (pqA t a)) (t.bt e) k u
def pqR (a e : W6) : W6 := pqG pqO a e (lenI e).toNat (pq1 pqO)
theorem pq_start (a e : W6) : ∀ d : Int × W6, d = (IntKind.i64.wrap (pqO.ln e - 1), pq1 pqO) → -1 ≤ d.1 ∧ d.1 ≤ 383 ∧ pqG pqO a e (d.1 + 1).toNat d.2 = pqR a e := by
  rintro d rfl
  have hl := lenI_le e
  have hw : IntKind.i64.wrap (pqO.ln e - 1) = lenI e - 1 := wrap_id (n := lenI e - 1) (by omega) (by omega)
  rw [hw]
  refine ⟨?_, ?_, ?_⟩
  · show -1 ≤ lenI e - 1
    omega
  · show lenI e - 1 ≤ 383
    omega
  · show pqG pqO a e (lenI e - 1 + 1).toNat _ = pqG pqO a e (lenI e).toNat _
    rw [show lenI e - 1 + 1 = lenI e by omega]
theorem pq_loop (a e : W6) {Fr0 : Fr} {ds : List Deferred} {Q : AExit → XS → Prop} (hK : Q .normal (pqI pqO a e (-1, pqR a e))) :
    Tri PR Fr0 ds 1 (.block 0 (.loop pqC)) (pqX pqO a e) Q :=
  Eq.subst (motive := fun y => Tri PR Fr0 ds 1 (.block 0 (.loop pqC)) y Q) (pq_head pqO a e).symm <| blockLoop (m := 1) pqE_ok mixed (sym := [31, 41]) (tab := fun _ => none) (lf := 10) (k := pqK) (kx := pqK) (kr := pqK) (by decide) (by decide) (by decide) pq_codeOk (tabOk_none _)
    (pqI pqO a e) (fun d => -1 ≤ d.1 ∧ d.1 ≤ 383 ∧ pqG pqO a e (d.1 + 1).toNat d.2 = pqR a e) (fun d => (d.1 + 1).toNat) _ (pq_start a e _ rfl)
    (sq_law (fun u => pqO.mm modP u u) (fun u => pqO.mm modP u (pqA pqO a)) (pqO.bt e) _ (pqI pqO a e) (pq_round pqO a e) hK)
def powP (a e : W6) : W6 := pqO.mm modP (pqR a e) (ofW (bitW true))
theorem pow_ent : Enters PR 195 := enters_of (fn := Try.f195) (by kernel_rfl) (by kernel_rfl) (by kernel_rfl)
theorem sameH {t : Tree (AV × AH)} {x : XS} {B : Cod W6} {y : W6} (h : (t.bind fun q => .leaf q.1).strict = .same x x (.leaf (B.enc y))) : GivesH t (B.val y) :=
  ⟨Tree.holds_bind (K := fun q : AV => flat q = some (B.val y)) (g := fun q : AV × AH => Tree.leaf q.1) (Tree.holds_strict (by rw [h]; exact ⟨rfl, B.h1 y⟩))⟩
theorem pow_gives (t : PQ) (x : W6 × W6) (r : W6) : GivesH (afun PR (pqE t) [31, 41] (tabOf [(0, pqB t x.1 x.2 r)]) 10 195 (.ptr 0 0 :: (mc2 c6.agg c6.agg).enc x) (oneAH cMP 165 ()) 1) (c6.agg.val (t.mm modP r (ofW (bitW true)))) :=
  sameH (pq_run t x.1 x.2 r)
theorem pow_giv (x : W6 × W6) : GivesH (afun PR (pqE pqO) [31, 41] (tabOf [(0, pqB pqO x.1 x.2 (pqR x.1 x.2))]) 10 195 (.ptr 0 0 :: (mc2 c6.agg c6.agg).enc x) (oneAH cMP 165 ()) 1) (c6.agg.val (powP x.1 x.2)) := by
  unfold powP
  exact pow_gives pqO x (pqR x.1 x.2)
theorem pow_tab (x : W6 × W6) : TabOk PR 1 (tabOf [(0, pqB pqO x.1 x.2 (pqR x.1 x.2))]) (bodyOf PR 195) :=
  tabOk_one (by rw [(pqB_n pqO x.1 x.2 (pqR x.1 x.2)).1]; decide) pq_blk fun Fr0 ds Q h => by
    obtain ⟨-, h2, h3⟩ := pqB_n pqO x.1 x.2 (pqR x.1 x.2)
    rw [h3] at h
    rw [h2]
    exact pq_loop x.1 x.2 h
end Go.Rq

/- Powers by the great prime: the contract. -/
namespace Go.Rq
open Go Go.Proofs
noncomputable def pqTab (_ : Unit) (x : W6 × W6) : BTab := tabOf [(0, pqB pqO x.1 x.2 (pqR x.1 x.2))]
def powF (_ : Unit) (x : W6 × W6) : W6 := powP x.1 x.2
theorem pow_tab2 (u : Unit) (x : W6 × W6) : TabOk PR 1 (pqTab u x) (bodyOf PR 195) := by
  unfold pqTab
  exact pow_tab x
theorem pow_giv2 (u : Unit) (x : W6 × W6) : GivesH (afun PR (pqE pqO) [31, 41] (pqTab u x) 10 195 (.ptr 0 0 :: (mc2 c6.agg c6.agg).enc x) (oneAH cMP 165 u) 1) (c6.agg.val (powF u x)) := by
  unfold pqTab powF
  cases u
  exact pow_giv x
theorem pow_code : codeOk (pqE pqO) (bodyOf PR 195) = true := by kernel_rfl
theorem pow_body : (Try.f195).body = some (bodyOf PR 195) := by kernel_rfl
theorem pow_fn : PR.funcs.toList[195]? = some Try.f195 := by kernel_rfl
theorem pow_okH : HeapOk PR 195 (rdp 165 cMP (mc2 c6.agg c6.agg) c6.agg powF) :=
  rdpT_ok (E := pqE pqO) (sym := [31, 41]) (lf := 10) (tab := pqTab) pqE_ok mixed pow_fn pow_body pow_code pow_tab2 pow_giv2
end Go.Rq

/- What the base's modulus comes to at the first generator. Written by a program of ours. -/
namespace Go.Rq
open Go Go.Proofs

def gX : W6 := ⟨0xfb3af00adb22c6bb#64, 0x6c55e83ff97a1aef#64, 0xa14e3a3f171bac58#64, 0xc3688c4f9774b905#64, 0x2695638c4fa9ac0f#64, 0x17f1d3a73197d794#64⟩
def gV1 : W6 := ⟨0x362863c0d062b979#64, 0x4071ac337f56b79f#64, 0x8a102615bff619c0#64, 0xe072f5eab6da1fce#64, 0x47b60aab6103fd71#64, 0xa959cfb3b492808#64⟩
def gV2 : W6 := ⟨0x3799e0afe2779a52#64, 0x3f6e07f754b6e793#64, 0x454b95a7d6a93f85#64, 0xf459c87e11ab01b3#64, 0xdab071ff6d880ae0#64, 0x64a3a594868a2a4#64⟩
def gV3 : W6 := ⟨0x3799e0afe2779a56#64, 0x3f6e07f754b6e793#64, 0x454b95a7d6a93f85#64, 0xf459c87e11ab01b3#64, 0xdab071ff6d880ae0#64, 0x64a3a594868a2a4#64⟩
def gE : W6 := ⟨0xee7fbfffffffeaab#64, 0x7aaffffac54ffff#64, 0xd9cc34a83dac3d89#64, 0xd91dd2e13ce144af#64, 0x92c6e9ed90d2eb35#64, 0x680447a8e5ff9a6#64⟩
def gC : W6 := ⟨0xcaa232946c5e7e1#64, 0xd03cc744a2888ae4#64, 0xdb18cb2c04b3ed#64, 0xfcf5e095d5d00af6#64, 0xa09e30ed741d8ae4#64, 0x8b3f481e3aaa0f1#64⟩
def gNg : W6 := ⟨0xad54dcd6b939c2ca#64, 0x4e6f38ba0ecb751b#64, 0x6655b9d5caac4236#64, 0x67816aef1db507c9#64, 0xaa7d76c8cf2e21f2#64, 0x114d1d6855d545a8#64⟩
/-- What is listed, else what is reckoned. -/
def tabF {α β : Type} (e : α → α → Bool) (tab : List (α × β)) (F : α → β) (z : α) : β := match lookT e tab z with
  | some y => y
  | none => F z
theorem tabF_eq {α β : Type} {e : α → α → Bool} (he : ∀ x y, e x y = true → x = y) {tab : List (α × β)} {F : α → β} (ht : ∀ p ∈ tab, F p.1 = p.2) : tabF e tab F = F := by
  funext z
  unfold tabF
  split
  · rename_i y hy
    exact (ht _ (lookT_mem he hy)).symm
  · rfl
/-- Likewise, for one modulus. -/
def tabM {α β : Type} (e : α → α → Bool) (tab : List (α × β)) (F : Mo → α → β) (m : Mo) (z : α) : β := bif eqMo m modP then tabF e tab (F modP) z else F m z
theorem tabM_eq {α β : Type} {e : α → α → Bool} (he : ∀ x y, e x y = true → x = y) {tab : List (α × β)} {F : Mo → α → β} (ht : ∀ p ∈ tab, F modP p.1 = p.2) : tabM e tab F = F := by
  funext m z
  unfold tabM
  cases h : eqMo m modP with
  | true => rw [cond_true, tabF_eq he ht, eqMo_ok m modP h]
  | false => rfl
def eqW2 : W6 × W6 → W6 × W6 → Bool := pairB eqW eqW
theorem eqW2_ok (x y : W6 × W6) (h : eqW2 x y = true) : x = y := pairB_eq eqW_ok eqW_ok x y h

/-! Products and powers, as numbers. -/
theorem wide_mm {a b w r p : Nat} (h : w * r * r % p = 1) : (a * w * r % p) * b * r % p = a * b % p := by
  rw [Nat.mul_assoc, Nat.mod_mul_mod, show a * w * r * (b * r) = a * b * (w * r * r) by
    simp only [Nat.mul_comm, Nat.mul_left_comm], Nat.mul_mod, h, Nat.mul_one, Nat.mod_mod]
def sqN (p r A : Nat) (bt : Nat → Bool) : Nat → Nat → Nat
  | 0, u => u
  | k + 1, u => forceN (bif bt k then (u * u * r % p) * A * r % p else u * u * r % p) fun v => sqN p r A bt k v
theorem sq_nat {p r : Nat} {mm : W6 → W6 → W6} (hp : 0 < p) (hm : ∀ a b, b.val < p → (mm a b).val = a.val * b.val * r % p) {x : W6} (hx : x.val < p) (bt : Int → Int) : ∀ (k : Nat) (u : W6), u.val < p →
    (sqG (fun u => mm u u) (fun u => mm u x) bt k u).val = sqN p r x.val (fun i => bt (i : Int) == 1) k u.val
  | 0, u, h => rfl
  | k + 1, u, h => by
    have h1 := hm u u h
    have h2 := hm (mm u u) x hx
    simp only [sqG, sqN, forceN_eq]
    cases bt (k : Int) == 1
    · simp only [cond_false]
      rw [sq_nat hp hm hx bt k (mm u u) (by rw [h1]; exact Nat.mod_lt _ hp), h1]
    · simp only [cond_true]
      rw [sq_nat hp hm hx bt k (mm (mm u u) x) (by rw [h2]; exact Nat.mod_lt _ hp), h2, h1]
theorem mqO_no : mqO.no = moNone := by simp only [mqO]
theorem mqO_mm : mqO.mm = moMontW := by simp only [mqO]
theorem qmulG_def (t : MQ) (m : Mo) (a b : W6) : qmulG t m a b = bif t.no m then zeroW else t.mm m (t.mm m a m.2.2) b := rfl
theorem qmul_def (a b : W6) : qmulW modP a b = bif moNone modP then zeroW else moMontW modP (moMontW modP a modP.2.2) b := by
  unfold qmulW
  rw [qmulG_def, mqO_no, mqO_mm]
theorem moNone_p : moNone modP = false := by decide +kernel
theorem wide_lt : modP.2.2.val < pN := by rw [wideP_val]; decide +kernel
theorem oneV_val : (ofW (bitW true)).val = 1 := by decide +kernel
theorem oneV_lt : (ofW (bitW true)).val < pN := by rw [oneV_val]; decide +kernel
theorem qmul_nat {a b : W6} (hb : b.val < pN) : (qmulW modP a b).val = a.val * b.val % pN := by
  rw [qmul_def, moNone_p, cond_false, mpMont_nat _ _ hb, mpMont_nat a modP.2.2 wide_lt, wideP_val]
  exact wide_mm wideP_twice
theorem qmul_is {a b c : W6} (hb : b.val < pN) (h : a.val * b.val % pN = c.val) : qmulW modP a b = c := W6.val_inj (by rw [qmul_nat hb, h])
theorem red_is {a c : W6} (h : a.val % pN = c.val) : moRedW modP a = c := W6.val_inj (by rw [mpRed_nat, h])
theorem pqO_mm : pqO.mm = moMontW := by simp only [pqO]
theorem pqO_bt : pqO.bt = bitI := by simp only [pqO]
theorem pow_def (a e : W6) : powF () (a, e) = moMontW modP (sqG (fun u => moMontW modP u u) (fun u => moMontW modP u (moMontW modP a modP.2.2)) (bitI e) (lenI e).toNat (moMontW modP (ofW (bitW true)) modP.2.2)) (ofW (bitW true)) := by
  unfold powF powP pqR pqG pqA pq1
  rw [pqO_mm, pqO_bt]
theorem pow_is {a e c : W6} (h : sqN pN rinvP (a.val * wideP * rinvP % pN) (fun i => bitI e (i : Int) == 1) (lenI e).toNat (1 * wideP * rinvP % pN) * 1 * rinvP % pN = c.val) : powF () (a, e) = c := by
  apply W6.val_inj
  have h1 := mpMont_nat a modP.2.2 wide_lt
  have h2 := mpMont_nat (ofW (bitW true)) modP.2.2 wide_lt
  rw [wideP_val] at h1 h2
  rw [oneV_val] at h2
  have l1 : (moMontW modP a modP.2.2).val < pN := by rw [h1]; exact Nat.mod_lt _ pN_pos
  have l2 : (moMontW modP (ofW (bitW true)) modP.2.2).val < pN := by rw [h2]; exact Nat.mod_lt _ pN_pos
  have h3 := sq_nat pN_pos (mm := moMontW modP) (r := rinvP) (fun a b hb => mpMont_nat a b hb) l1 (bitI e) (lenI e).toNat (moMontW modP (ofW (bitW true)) modP.2.2) l2
  rw [pow_def, mpMont_nat _ _ oneV_lt, h3, h1, h2, oneV_val, h]

/-! The tables. -/
def qmulF (m : Mo) (x : W6 × W6) : W6 := qmulW m x.1 x.2
def qaddF (m : Mo) (x : W6 × W6) : W6 := qaddW m x.1 x.2
def qnegF (m : Mo) (x : W6) : W6 := qsubW m zeroW x
def tMul : List ((W6 × W6) × W6) := [((gX, gX), gV1), ((gV1, gX), gV2), ((gC, gC), gV3)]
theorem tMul_ok : ∀ p ∈ tMul, qmulF modP p.1 = p.2 := fun p hp => by
  simp only [tMul, List.mem_cons, List.not_mem_nil, or_false] at hp
  rcases hp with rfl | rfl | rfl
  · exact qmul_is (by decide +kernel) (by decide +kernel)
  · exact qmul_is (by decide +kernel) (by decide +kernel)
  · exact qmul_is (by decide +kernel) (by decide +kernel)
def tRed : List (W6 × W6) := [(gV3, gV3)]
theorem tRed_ok : ∀ p ∈ tRed, moRedW modP p.1 = p.2 := fun p hp => by
  simp only [tRed, List.mem_cons, List.not_mem_nil, or_false] at hp
  rw [hp]
  exact red_is (by decide +kernel)
def tAdd : List ((W6 × W6) × W6) := [((gV2, ofW 4#64), gV3)]
theorem tAdd_ok : ∀ p ∈ tAdd, qaddF modP p.1 = p.2 := fun p hp => by
  simp only [tAdd, List.mem_cons, List.not_mem_nil, or_false] at hp
  rw [hp]
  decide +kernel
def tNeg : List (W6 × W6) := [(gC, gNg)]
theorem tNeg_ok : ∀ p ∈ tNeg, qnegF modP p.1 = p.2 := fun p hp => by
  simp only [tNeg, List.mem_cons, List.not_mem_nil, or_false] at hp
  rw [hp]
  decide +kernel
def tPow : List ((W6 × W6) × W6) := [((gV3, gE), gC)]
theorem tPow_ok : ∀ p ∈ tPow, powF () p.1 = p.2 := fun p hp => by
  simp only [tPow, List.mem_cons, List.not_mem_nil, or_false] at hp
  rw [hp]
  exact pow_is (by decide +kernel)
end Go.Rq

/- What the examples of points as bytes come to. -/
namespace Go.Rq
open Go Go.Proofs

/-! A root. -/
def shr2 (a : W6) : W6 := ⟨a.w1 <<< 62 ||| a.w0 >>> 2, a.w2 <<< 62 ||| a.w1 >>> 2, a.w3 <<< 62 ||| a.w2 >>> 2, a.w4 <<< 62 ||| a.w3 >>> 2, a.w5 <<< 62 ||| a.w4 >>> 2, 0#64 ||| a.w5 >>> 2⟩
set_option maxRecDepth 100000 in
theorem shr2_run (a : W6) : (afunR PR (envOf eqsT []) [] (fun _ => none) 40 60 [c6.agg.enc a, (kInt .i64).enc (-2)]).strict = .leaf (c6.agg.enc (shr2 a)) := by kernel_rfl
theorem shr2_ok : CallOk PR 60 (fn2 c6.agg (kAt .i64 (-2)) c6.agg (fun a _ => shr2 a)) :=
  .inl ⟨enters_of (fn := Try.f60) (by kernel_rfl) (by kernel_rfl) (by kernel_rfl), pure2 (C := kAt .i64 (-2)) shift_ctx (fun a _ => leafVal (B := c6.agg) (y := shr2 a) (shr2_run a))⟩

noncomputable def hMul : List AV → AH → Option (Bool × AV × AH) := rdp 165 cFa (mc2 c6.agg c6.agg) c6.agg (tabM eqW2 tMul qmulF)
noncomputable def hAdd : List AV → AH → Option (Bool × AV × AH) := rdp 165 cFa (mc2 c6.agg c6.agg) c6.agg (tabM eqW2 tAdd qaddF)
noncomputable def hRed : List AV → AH → Option (Bool × AV × AH) := rdp 165 cFa (mc1 c6.agg) c6.agg (tabM eqW tRed moRedW)
noncomputable def hNeg : List AV → AH → Option (Bool × AV × AH) := rdp 165 cFa (mc1 c6.agg) c6.agg (tabM eqW tNeg qnegF)
noncomputable def hPow : List AV → AH → Option (Bool × AV × AH) := rdp 165 cMP (mc2 c6.agg c6.agg) c6.agg (fun u => tabF eqW2 tPow (powF u))
theorem qmul_okF : HeapOk PR 191 (rdp 165 cFa (mc2 c6.agg c6.agg) c6.agg qmulF) := qmul_ok
theorem qadd_okF : HeapOk PR 190 (rdp 165 cFa (mc2 c6.agg c6.agg) c6.agg qaddF) := qadd_ok
theorem qneg_okF : HeapOk PR 196 (rdp 165 cFa (mc1 c6.agg) c6.agg qnegF) := qneg_ok
theorem hMul_ok : HeapOk PR 191 hMul := by
  unfold hMul
  rw [tabM_eq (F := qmulF) eqW2_ok tMul_ok]
  exact qmul_okF
theorem hAdd_ok : HeapOk PR 190 hAdd := by
  unfold hAdd
  rw [tabM_eq (F := qaddF) eqW2_ok tAdd_ok]
  exact qadd_okF
theorem hRed_ok : HeapOk PR 67 hRed := by
  unfold hRed
  rw [tabM_eq (F := moRedW) eqW_ok tRed_ok]
  exact mred_ok
theorem hNeg_ok : HeapOk PR 196 hNeg := by
  unfold hNeg
  rw [tabM_eq (F := qnegF) eqW_ok tNeg_ok]
  exact qneg_okF
theorem hPow_ok : HeapOk PR 195 hPow := by
  have e : (fun u => tabF eqW2 tPow (powF u)) = powF := by
    funext u
    cases u
    exact tabF_eq eqW2_ok tPow_ok
  unfold hPow
  rw [e]
  exact pow_okH

def rtT : PureTab := [(61, fn2 c6.agg c6.agg kWB wAddW), (60, fn2 c6.agg (kAt .i64 (-2)) c6.agg (fun a _ => shr2 a)), (117, fn2 c6.agg c6.agg (kInt .i64) fun a b => chainV (cmpL a b) 0), (63, fn1 kU c6.agg ofW)]
noncomputable def rtH : HeapTab := [(119, rdp 165 cFa mc0 kBool (fun m _ => moNone m)), (195, hPow), (191, hMul), (67, hRed), (196, hNeg)]
noncomputable def rtE : Env := envA eqsT rtT rtH [] [] [] [] true [119, 195, 191, 67, 196]
theorem rtE_ok : EnvOk PR rtE := envA_ok eqsT_ok (TabPOk.cons wadd_ok (TabPOk.cons shr2_ok (TabPOk.cons cmp_ok (TabPOk.cons of_ok TabPOk.nil))))
  (TabHOk.cons mn_ent mn_ok (TabHOk.cons pow_ent hPow_ok (TabHOk.cons qmul_ent hMul_ok (TabHOk.cons mred_ent hRed_ok (TabHOk.cons qneg_ent hNeg_ok TabHOk.nil))))) TabLOk.nil TabAOk.nil
theorem rt_ctx : Ctx PR rtE [] (fun _ => none) 10 189 :=
  ctx_of rtE_ok mixed (fn := Try.f189) (by kernel_rfl) (by kernel_rfl) (by kernel_rfl) (tabOk_none _)
theorem rt_ent : Enters PR 189 := enters_of (fn := Try.f189) (by kernel_rfl) (by kernel_rfl) (by kernel_rfl)
noncomputable def rtV : List AV → AH → Option (Bool × AV × AH) := viewG PR rtE [] 10 189
theorem rtV_ok : HeapOk PR 189 rtV := view_ok rt_ctx
set_option maxRecDepth 1000000 in
theorem rt_at : rtV [.ptr 3 0, c6.agg.enc gV3] [(3, some ⟨true, 165, cFa.enc modP⟩)] = some (true, .tup [c6.agg.enc gC, .v (.int .i64 0)], []) := by kernel_rfl

/-! The base's modulus. -/
noncomputable def bsE : Env := envA eqsT [(168, fn0 c6.agg primeW)] [] [(66, layP kPri 165 cFa 0 (fun _ => modP))] [] [] [] true []
theorem bsE_ok : EnvOk PR bsE := envA_ok eqsT_ok (TabPOk.cons base_ok TabPOk.nil) TabHOk.nil (TabLOk.cons nw_ent newP_okL TabLOk.nil) TabAOk.nil
theorem bs_ctx : Ctx PR bsE [] (fun _ => none) 10 188 :=
  ctx_of bsE_ok mixed (fn := Try.f188) (by kernel_rfl) (by kernel_rfl) (by kernel_rfl) (tabOk_none _)
theorem bs_ent : Enters PR 188 := enters_of (fn := Try.f188) (by kernel_rfl) (by kernel_rfl) (by kernel_rfl)
noncomputable def bsV : List AV → AH → Nat → Option (Bool × AV × AH) := actG PR bsE [] 10 188
theorem bsV_ok : ActOk PR 188 bsV := act_ok bs_ctx
theorem bs_at : bsV [] [] 7 = some (true, .ptr 7 0, [(7, some ⟨true, 165, cFa.enc modP⟩)]) := by kernel_rfl

/-! The point with an X. -/
noncomputable def atE : Env := envA eqsT [(63, fn1 kU c6.agg ofW)] [(191, hMul), (190, hAdd), (189, rtV)] [] [(188, bsV)] [] [] true
  [191, 190, 189]
theorem atE_ok : EnvOk PR atE := envA_ok eqsT_ok (TabPOk.cons of_ok TabPOk.nil) (TabHOk.cons qmul_ent hMul_ok (TabHOk.cons qadd_ent hAdd_ok (TabHOk.cons rt_ent rtV_ok TabHOk.nil))) TabLOk.nil (TabAOk.cons bs_ent bsV_ok TabAOk.nil)
theorem at_ctx : Ctx PR atE [] (fun _ => none) 10 167 :=
  ctx_of atE_ok mixed (fn := Try.f167) (by kernel_rfl) (by kernel_rfl) (by kernel_rfl) (tabOk_none _)
theorem at_ent : Enters PR 167 := enters_of (fn := Try.f167) (by kernel_rfl) (by kernel_rfl) (by kernel_rfl)
noncomputable def atV : List AV → AH → Option (Bool × AV × AH) := viewG PR atE [] 10 167
theorem atV_ok : HeapOk PR 167 atV := view_ok at_ctx
end Go.Rq

/- What the chapter's example of points as bytes comes to: awake. -/
namespace Go.Rq
open Go Go.Proofs

/-! Bytes without flags; a number out of bytes; bytes that are the same. -/
noncomputable def clE : Env := envA eqsT [] [] [] [] [] [] true []
theorem clE_ok : EnvOk PR clE := envA_ok eqsT_ok TabPOk.nil TabHOk.nil TabLOk.nil TabAOk.nil
theorem cl_ctx : Ctx PR clE [] (fun _ => none) 60 187 :=
  ctx_of clE_ok mixed (fn := Try.f187) (by kernel_rfl) (by kernel_rfl) (by kernel_rfl) (tabOk_none _)
theorem cl_ent : Enters PR 187 := enters_of (fn := Try.f187) (by kernel_rfl) (by kernel_rfl) (by kernel_rfl)
noncomputable def clV : List AV → AH → Nat → Option (Bool × AV × AH) := actG PR clE [] 60 187
theorem clV_ok : ActOk PR 187 clV := act_ok cl_ctx
noncomputable def brE : Env := envA eqsT [] [] [] [(187, clV)] [] [] true []
theorem brE_ok : EnvOk PR brE := envA_ok eqsT_ok TabPOk.nil TabHOk.nil TabLOk.nil (TabAOk.cons cl_ent clV_ok TabAOk.nil)
theorem bre_ctx : Ctx PR brE [] (fun _ => none) 60 166 :=
  ctx_of brE_ok mixed (fn := Try.f166) (by kernel_rfl) (by kernel_rfl) (by kernel_rfl) (tabOk_none _)
theorem bre_ent : Enters PR 166 := enters_of (fn := Try.f166) (by kernel_rfl) (by kernel_rfl) (by kernel_rfl)
noncomputable def brV : List AV → AH → Nat → Option (Bool × AV × AH) := actG PR brE [] 60 166
theorem brV_ok : ActOk PR 166 brV := act_ok bre_ctx
theorem rd_ctx : Ctx PR clE [] (fun _ => none) 60 165 :=
  ctx_of clE_ok mixed (fn := Try.f165) (by kernel_rfl) (by kernel_rfl) (by kernel_rfl) (tabOk_none _)
theorem rd_ent : Enters PR 165 := enters_of (fn := Try.f165) (by kernel_rfl) (by kernel_rfl) (by kernel_rfl)
noncomputable def rdV : List AV → AH → Option (Bool × AV × AH) := viewG PR clE [] 60 165
theorem rdV_ok : HeapOk PR 165 rdV := view_ok rd_ctx
theorem eq_ctx : Ctx PR sbE [] (fun _ => none) 40 169 :=
  ctx_of sbE_ok mixed (fn := Try.f169) (by kernel_rfl) (by kernel_rfl) (by kernel_rfl) (tabOk_none _)
theorem eq_ent : Enters PR 169 := enters_of (fn := Try.f169) (by kernel_rfl) (by kernel_rfl) (by kernel_rfl)
noncomputable def eqV : List AV → AH → Option (Bool × AV × AH) := viewG PR sbE [] 40 169
theorem eqV_ok : HeapOk PR 169 eqV := view_ok eq_ctx

/-! The bytes of the generator. -/
theorem layN_weaken {P : Program} {f : Nat} {α γ : Type} {A : Cod α} {t : TypeId} {C : CC γ} {ok ok' : α → Bool} {R : AV} {F : α → γ} (h : ∀ x, ok' x = true → ok x = true) (k : LayOk P f (layN A t C ok R F)) : LayOk P f (layN A t C ok' R F) := by
  constructor
  intro F' ρ args xs hh z r B w hg hx hw hz
  refine k.run F' ρ args xs hh z r B w ?_ hx hw hz
  unfold layN at hg ⊢
  split at hg
  · split at hg
    · cases hg
    · rename_i x hd
      simp only [Option.some.injEq, Prod.mk.injEq] at hg
      obtain ⟨h1, h2, h3⟩ := hg
      simp only [h x h1, h2, h3]
  · cases hg
noncomputable def gbL : List AV → Nat → Option (Bool × AV × Blk) := layN aW.agg 5 (cBy 48) (fun p => eqAp p gen1P) bR1 byP1
theorem gbL_ok : LayOk PR 69 gbL := by
  unfold gbL
  exact layN_weaken (fun x h => by rw [eqAp_ok _ _ h]; exact check_gen) b1_okL

/-! The point of bytes. -/
def r1T : PureTab := [(117, fn2 c6.agg c6.agg (kInt .i64) fun a b => chainV (cmpL a b) 0), (168, fn0 c6.agg primeW), (31, fnT1 aW.agg kBool eqAp tIn1)]
noncomputable def r1E : Env := envA eqsT r1T [(169, eqV), (165, rdV), (167, atV)] [(69, gbL)] [(166, brV)] [] [] true [169, 165, 167]
theorem r1E_ok : EnvOk PR r1E := envA_ok eqsT_ok (TabPOk.cons cmp_ok (TabPOk.cons base_ok (TabPOk.cons (callT1 eqAp_ok tIn1_ok isinp1_ok) TabPOk.nil)))
  (TabHOk.cons eq_ent eqV_ok (TabHOk.cons rd_ent rdV_ok (TabHOk.cons at_ent atV_ok TabHOk.nil))) (TabLOk.cons b1_ent gbL_ok TabLOk.nil) (TabAOk.cons bre_ent brV_ok TabAOk.nil)
theorem r1_ctx : Ctx PR r1E [] (fun _ => none) 60 121 :=
  ctx_of r1E_ok mixed (fn := Try.f121) (by kernel_rfl) (by kernel_rfl) (by kernel_rfl) (tabOk_none _)
theorem r1_ent : Enters PR 121 := enters_of (fn := Try.f121) (by kernel_rfl) (by kernel_rfl) (by kernel_rfl)
noncomputable def r1V : List AV → AH → Option (Bool × AV × AH) := viewG PR r1E [] 60 121
theorem r1V_ok : HeapOk PR 121 r1V := view_ok r1_ctx

/-! The examples. -/
noncomputable def a5E : Env := envA eqsT [(33, fn0 aW.agg gen1P)] [(121, r1V)] [(69, gbL)] [] [] [] true [121]
theorem a5E_ok : EnvOk PR a5E := envA_ok eqsT_ok (TabPOk.cons gen1_ok TabPOk.nil) (TabHOk.cons r1_ent r1V_ok TabHOk.nil) (TabLOk.cons b1_ent gbL_ok TabLOk.nil) TabAOk.nil
theorem a5_ctx : Ctx PR a5E [] (fun _ => none) 10 68 :=
  ctx_of a5E_ok mixed (fn := Try.f68) (by kernel_rfl) (by kernel_rfl) (by kernel_rfl) (tabOk_none _)
set_option maxRecDepth 1000000 in
theorem a5_run : (afunR PR a5E [] (fun _ => none) 10 68 []).strict = .leaf (.v (.bool true)) := by kernel_rfl
theorem aw5_ok : CallOk PR 68 (fn0 kBool true) :=
  .inl ⟨enters_of (fn := Try.f68) (by kernel_rfl) (by kernel_rfl) (by kernel_rfl), pure0 a5_ctx (givesOf a5_run (holds_leaf (v := kBool.val true) rfl))⟩
end Go.Rq
