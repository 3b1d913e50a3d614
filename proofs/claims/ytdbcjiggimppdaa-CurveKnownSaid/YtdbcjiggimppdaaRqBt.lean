/- The functions at the chapter's examples. -/
import Derived.Test.YtdbcjiggimppdaaRqBs
namespace Go.Rq
open Go Go.Proofs

def eqAp (a b : Ap W6) : Bool := bif eqW a.x b.x then (bif eqW a.y b.y then a.zero == b.zero else false) else false
theorem eqAp_ok (a b : Ap W6) (h : eqAp a b = true) : a = b := by
  obtain ⟨ax, ay, az⟩ := a
  obtain ⟨bx, bw, bz⟩ := b
  unfold eqAp at h
  dsimp only at h
  cases h1 : eqW ax bx with
  | false => rw [h1] at h; cases h
  | true =>
    cases h2 : eqW ay bw with
    | false => rw [h1, h2] at h; cases h
    | true =>
      rw [h1, h2] at h
      have h3 : az = bz := by simpa using h
      rw [(eqW_iff _ _).1 h1, (eqW_iff _ _).1 h2, h3]
def eqAd (a b : Ap D6) : Bool := bif eqD a.x b.x then (bif eqD a.y b.y then a.zero == b.zero else false) else false
theorem eqAd_ok (a b : Ap D6) (h : eqAd a b = true) : a = b := by
  obtain ⟨ax, ay, az⟩ := a
  obtain ⟨bx, bw, bz⟩ := b
  unfold eqAd at h
  dsimp only at h
  cases h1 : eqD ax bx with
  | false => rw [h1] at h; cases h
  | true =>
    cases h2 : eqD ay bw with
    | false => rw [h1, h2] at h; cases h
    | true =>
      rw [h1, h2] at h
      have h3 : az = bz := by simpa using h
      rw [(eqD_iff _ _).1 h1, (eqD_iff _ _).1 h2, h3]
theorem eqW_ok (a b : W6) (h : eqW a b = true) : a = b := (eqW_iff a b).1 h

def tCheck1 : List (Ap W6 × Bool) := [(zeroP, true), (oddP, true), (badP, false), (offP, false), (gen1P, true)]
theorem tCheck1_ok : ∀ p ∈ tCheck1, checkP1 p.1 = p.2 := fun p hp => by
  simp only [tCheck1, List.mem_cons, List.not_mem_nil, or_false] at hp
  rcases hp with rfl | rfl | rfl | rfl | rfl
  · exact check_zero
  · exact check_odd
  · exact check_bad
  · exact check_off
  · exact check_gen
def tIn1 : List (Ap W6 × Bool) := [(gen1P, true), (oddP, false)]
theorem tIn1_ok : ∀ p ∈ tIn1, inGroup1 p.1 = p.2 := fun p hp => by
  simp only [tIn1, List.mem_cons, List.not_mem_nil, or_false] at hp
  rcases hp with rfl | rfl
  · exact in_gen
  · exact in_odd
def tNeg1 : List (Ap W6 × (Ap W6 × Int)) := [(gen1P, (ngP, 0))]
theorem tNeg1_ok : ∀ p ∈ tNeg1, negP1 p.1 = p.2 := fun p hp => by
  simp only [tNeg1, List.mem_cons, List.not_mem_nil, or_false] at hp
  rw [hp]
  exact neg_gen
def tAdd1 : List ((Ap W6 × Ap W6) × (Ap W6 × Int)) := [((gen1P, ngP), (zeroP, 0)), ((gen1P, offP), (errP, 5)), ((gen1P, gen1P), (dbP, 0))]
theorem tAdd1_ok : ∀ p ∈ tAdd1, addP1 p.1.1 p.1.2 = p.2 := fun p hp => by
  simp only [tAdd1, List.mem_cons, List.not_mem_nil, or_false] at hp
  rcases hp with rfl | rfl | rfl
  · exact add_ng
  · exact add_off
  · exact add_gen
def tMul1 : List ((Ap W6 × W6) × (Ap W6 × Int)) := [((gen1P, zeroW), (zeroP, 0)), ((gen1P, orderW), (zeroP, 0)), ((gen1P, ofW 2#64), (dbP, 0))]
theorem tMul1_ok : ∀ p ∈ tMul1, sumP1W p.1.1 p.1.2 = p.2 := fun p hp => by
  simp only [tMul1, List.mem_cons, List.not_mem_nil, or_false] at hp
  rcases hp with rfl | rfl | rfl
  · exact mul_zero
  · exact mul_order
  · exact mul_two
def tMul2 : List ((Ap D6 × W6) × (Ap D6 × Int)) := [((gen2P, moreW), (gen2P, 0))]
theorem tMul2_ok : ∀ p ∈ tMul2, sumP1D p.1.1 p.1.2 = p.2 := fun p hp => by
  simp only [tMul2, List.mem_cons, List.not_mem_nil, or_false] at hp
  rw [hp]
  exact mul_more
def tCheck2 : List (Ap D6 × Bool) := [(gen2P, true)]
theorem tCheck2_ok : ∀ p ∈ tCheck2, checkP2 p.1 = p.2 := fun p hp => by
  simp only [tCheck2, List.mem_cons, List.not_mem_nil, or_false] at hp
  rw [hp]
  exact check_gen2

/-! The sum of two numbers. -/
def wAddW (a b : W6) : W6 × Bool := ((adds a b).1, (adds a b).2 == true)
def wAddT : PureTab := [(114, fn3 kU kU kBit kUB add64)]
theorem wAddT_ok : TabPOk PR wAddT := TabPOk.cons add64_ok TabPOk.nil
theorem wadd_ctx : Ctx PR (envOf eqsT wAddT) [] (fun _ => none) 40 61 :=
  ctx_of (envOf_ok eqsT_ok wAddT_ok) mixed (fn := Try.f61) (by kernel_rfl) (by kernel_rfl) (by kernel_rfl) (tabOk_none _)
set_option maxRecDepth 100000 in
theorem wadd_run (a b : W6) : (afunR PR (envOf eqsT wAddT) [] (fun _ => none) 40 61 [c6.agg.enc a, c6.agg.enc b]).strict = .leaf (kWB.enc (wAddW a b)) := by kernel_rfl
theorem wadd_ok : CallOk PR 61 (fn2 c6.agg c6.agg kWB wAddW) :=
  .inl ⟨enters_of (fn := Try.f61) (by kernel_rfl) (by kernel_rfl) (by kernel_rfl), pure2 wadd_ctx (fun a b => leafVal (B := kWB) (y := wAddW a b) (wadd_run a b))⟩

/-! The digits of the generator. -/
def textT : PureTab := [(116, fn1 c6.agg (kInt .i64) lenI)]
theorem textT_ok : TabPOk PR textT := TabPOk.cons len_ok TabPOk.nil
noncomputable def textE : Env := envS eqsT textT [] [9]
theorem textE_ok : EnvOk PR textE := envS_ok eqsT_ok textT_ok TabHOk.nil
theorem text_ctx : Ctx PR textE [] (fun _ => none) 110 65 :=
  ctx_of textE_ok mixed (fn := Try.f65) (by kernel_rfl) (by kernel_rfl) (by kernel_rfl) (tabOk_none _)
set_option maxRecDepth 1000000 in
theorem text_run : (afunR PR textE [] (fun _ => none) 110 65 [c6.agg.enc genN0]).strict = .leaf (kStr.enc genS0) := by kernel_rfl
def tText : List (W6 × ByteArray) := [(genN0, genS0)]
theorem text_ok : CallOk PR 65 (fnT1 c6.agg kStr eqW tText) :=
  .inl ⟨enters_of (fn := Try.f65) (by kernel_rfl) (by kernel_rfl) (by kernel_rfl), tabT1 (B := kStr) text_ctx eqW_ok (fun p hp => by
    simp only [tText, List.mem_cons, List.not_mem_nil, or_false] at hp
    rw [hp]
    exact leafVal (B := kStr) text_run)⟩

/-! Sums of unlike lists. -/
noncomputable def gaV : Env := envH eqsT [] []
theorem gaV_ok : EnvOk PR gaV := envH_ok eqsT_ok TabPOk.nil TabHOk.nil
theorem gaV_ctx : Ctx PR gaV [] (fun _ => none) 10 112 :=
  ctx_of gaV_ok mixed (fn := Try.f112) (by kernel_rfl) (by kernel_rfl) (by kernel_rfl) (tabOk_none _)
noncomputable def suV : Env := envH eqsT (suTW suOW) [(112, viewG PR gaV [] 10 112)]
theorem suV_ok : EnvOk PR suV := envH_ok eqsT_ok suT_okW (TabHOk.cons ga_entW (view_ok gaV_ctx) TabHOk.nil)
theorem suV_ctx : Ctx PR suV [] (fun _ => none) 10 56 :=
  ctx_of suV_ok mixed (fn := Try.f56) (by kernel_rfl) (by kernel_rfl) (by kernel_rfl) (tabOk_none _)

/-! The functions, at the examples. -/
def knT0 : PureTab := [(33, fn0 aW.agg gen1P), (46, fn0 aD.agg gen2P), (63, fn1 kU c6.agg ofW), (64, fn0 c6.agg orderW),
  (30, fnT1 aW.agg kBool eqAp tCheck1), (43, fnT1 aD.agg kBool eqAd tCheck2), (31, fnT1 aW.agg kBool eqAp tIn1), (35, fnT1 aW.agg kPW eqAp tNeg1),
  (36, fnT2 aW.agg aW.agg kPW eqAp eqAp tAdd1), (37, fnT2 aW.agg c6.agg kPW eqAp eqW tMul1), (50, fnT2 aD.agg c6.agg kPD eqAd eqW tMul2),
  (61, fn2 c6.agg c6.agg kWB wAddW), (65, fnT1 c6.agg kStr eqW tText)]
theorem knT0_ok : TabPOk PR knT0 :=
  TabPOk.cons gen1_ok (TabPOk.cons gen2_ok (TabPOk.cons of_ok (TabPOk.cons order_ok (TabPOk.cons (callT1 eqAp_ok tCheck1_ok checkp1_ok) (TabPOk.cons (callT1 eqAd_ok tCheck2_ok checkp2_ok) (TabPOk.cons (callT1 eqAp_ok tIn1_ok isinp1_ok)
  (TabPOk.cons (callT1 eqAp_ok tNeg1_ok negp1_ok) (TabPOk.cons (callT2 eqAp_ok eqAp_ok tAdd1_ok addp1_ok) (TabPOk.cons (callT2 eqAp_ok eqW_ok tMul1_ok mulp1_ok) (TabPOk.cons (callT2 eqAd_ok eqW_ok tMul2_ok mulp2_ok) (TabPOk.cons wadd_ok (TabPOk.cons text_ok TabPOk.nil))))))))))))
noncomputable def awE : Env := envH eqsT knT0 []
theorem awE_ok : EnvOk PR awE := envH_ok eqsT_ok knT0_ok TabHOk.nil
theorem aw_ctx : Ctx PR awE [] (fun _ => none) 10 55 :=
  ctx_of awE_ok mixed (fn := Try.f55) (by kernel_rfl) (by kernel_rfl) (by kernel_rfl) (tabOk_none _)
end Go.Rq
