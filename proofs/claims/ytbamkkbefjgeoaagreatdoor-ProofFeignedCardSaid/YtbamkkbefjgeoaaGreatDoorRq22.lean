/- Keys negated; Feign. -/
import Derived.Test.YtbamkkbefjgeoaaGreatDoorRq21
import Derived.Test.YtbamkkbefjgeoaaGreatDoorRq19
import Derived.Test.YtbamkkbefjgeoaaGreatDoorRq09
import Derived.Test.YtbamkkbefjgeoaaGreatDoorRq08
import Derived.Test.YtbamkkbefjgeoaaGreatDoorRq11
namespace Go.Rq.Sm
open Go Go.Proofs Go.Rq

noncomputable def kneE (K : KK) (R : Sx → W6) (C : W6 → W6 → Int) (A : Px → Px × Int) (Q : Sx → Lp → Bool) (D : Sx → Lp → Lp × Int) : Env :=
  envA eqsT [(92, fn1 cPx.agg kPE A), (93, fnQ2 kSx cLp.agg kLE Q D)] [(35, kysV K R C)] [] [] [] [] true [35]
def kneF (A : Px → Px × Int) (D : Sx → Lp → Lp × Int) : Kx → Kx
  | (.gr, p, _) => (.gr, (A p).1, zLx)
  | (s, _, l) => (s, zPx, (D s l).1)
def kneC (Q : Sx → Lp → Bool) (E : Int) : Kx → Bool
  | (.gr, _, _) => bif E != 0 then false else true
  | (s, _, l) => bif E != 0 then false else (bif (Q s l && true) then true else false)
set_option maxRecDepth 100000 in
theorem kne_err (K : KK) (R : Sx → W6) (C : W6 → W6 → Int) (A : Px → Px × Int) (Q : Sx → Lp → Bool) (D : Sx → Lp → Lp × Int) (a : Kx) :
    valP [true] (afunR PR (kneE K R C A Q D) [11] (fun _ => none) 20 48 [cKx.agg.enc a]) =
      some (bif ky1 K R C zW6 a != 0 then true else false, some (kKE.val (zKx, ky1 K R C zW6 a))) := by
  obtain ⟨s, p, l⟩ := a
  cases s <;> kernel_rfl
set_option maxRecDepth 100000 in
theorem kne_run (K : KK) (R : Sx → W6) (C : W6 → W6 → Int) (A : Px → Px × Int) (Q : Sx → Lp → Bool) (D : Sx → Lp → Lp × Int) (a : Kx) :
    valP [false] (afunR PR (kneE K R C A Q D) [11] (fun _ => none) 20 48 [cKx.agg.enc a]) =
      some (kneC Q (ky1 K R C zW6 a) a, some (kKE.val (kneF A D a, 0))) := by
  obtain ⟨s, p, l⟩ := a
  cases s <;> kernel_rfl
theorem kneC_of {Q : Sx → Lp → Bool} {E : Int} {a : Kx} (hE : (E != 0) = false) (hQ : a.1 ≠ .gr → Q a.1 a.2.2 = true) : kneC Q E a = true := by
  obtain ⟨s, p, l⟩ := a
  cases s with
  | gr => simp [kneC, hE]
  | li => have h := hQ (by simp); simp only at h; simp [kneC, hE, h]
  | mi => have h := hQ (by simp); simp only at h; simp [kneC, hE, h]
  | up n => have h := hQ (by simp); simp only at h; simp [kneC, hE, h]
  | neg n => have h := hQ (by simp); simp only at h; simp [kneC, hE, h]
def kneG (K : KK) (R : Sx → W6) (C : W6 → W6 → Int) (A : Px → Px × Int) (D : Sx → Lp → Lp × Int) (a : Kx) : Kx × Int :=
  bif ky1 K R C zW6 a != 0 then (zKx, ky1 K R C zW6 a) else (kneF A D a, 0)
theorem kne_gives (K : KK) (R : Sx → W6) (C : W6 → W6 → Int) (A : Px → Px × Int) (Q : Sx → Lp → Bool) (D : Sx → Lp → Lp × Int) (hQ : ∀ a : Kx, (ky1 K R C zW6 a != 0) = false → a.1 ≠ .gr → Q a.1 a.2.2 = true) (a : Kx) :
    Gives (afunR PR (kneE K R C A Q D) [11] (fun _ => none) 20 48 [cKx.agg.enc a]) (kKE.val (kneG K R C A D a)) := by
  unfold kneG
  cases hE : ky1 K R C zW6 a != 0 with
  | true =>
    rw [cond_true]
    exact givesP (kne_err K R C A Q D a) (by rw [hE]; rfl)
  | false =>
    rw [cond_false]
    exact givesP (kne_run K R C A Q D a) (kneC_of hE (hQ a hE))
theorem kne_ctx {K : KK} {R : Sx → W6} {C : W6 → W6 → Int} {A : Px → Px × Int} {Q : Sx → Lp → Bool} {D : Sx → Lp → Lp × Int} (hY : HeapOk PR 35 (kysV K R C))
    (hA : CallOk PR 92 (fn1 cPx.agg kPE A)) (hD : CallOk PR 93 (fnQ2 kSx cLp.agg kLE Q D)) : Ctx PR (kneE K R C A Q D) [11] (fun _ => none) 20 48 :=
  ctx_of (envA_ok eqsT_ok (TabPOk.cons hA (TabPOk.cons hD TabPOk.nil)) (TabHOk.cons kys_ent hY TabHOk.nil) TabLOk.nil TabAOk.nil) mixed (fn := Tryz.f48) (by kernel_rfl) (by kernel_rfl) (by kernel_rfl) (tabOk_none _)
theorem kne_ok {K : KK} {R : Sx → W6} {C : W6 → W6 → Int} {A : Px → Px × Int} {Q : Sx → Lp → Bool} {D : Sx → Lp → Lp × Int} (hY : HeapOk PR 35 (kysV K R C))
    (hA : CallOk PR 92 (fn1 cPx.agg kPE A)) (hD : CallOk PR 93 (fnQ2 kSx cLp.agg kLE Q D))
    (hQ : ∀ a : Kx, (ky1 K R C zW6 a != 0) = false → a.1 ≠ .gr → Q a.1 a.2.2 = true) : CallOk PR 48 (fn1 cKx.agg kKE (kneG K R C A D)) :=
  .inl ⟨enters_of (fn := Tryz.f48) (by kernel_rfl) (by kernel_rfl) (by kernel_rfl), pure1 (kne_ctx hY hA hD) fun a => kne_gives K R C A Q D hQ a⟩

/-! Feign -/
def zKz : Kz := (0, zPx, zLx)
noncomputable def pfgE (K : Kz → Bool) (O : Int → W6 × Int) (C : W6 → W6 → Int) (T : Kz → W6 → Kz) (A : ZZ) (N : Kz → Kz × Int) : Env :=
  envA eqsT [(49, fn2 cKz.agg c6.agg cKz.agg T), (50, fn2 cKz.agg cKz.agg kKzE A), (48, fn1 cKz.agg kKzE N)] [(43, pckV K O C)] [] [] [] [] true [43]
set_option maxRecDepth 100000 in
theorem pfg_err (K : Kz → Bool) (O : Int → W6 × Int) (C : W6 → W6 → Int) (T : Kz → W6 → Kz) (A : ZZ) (N : Kz → Kz × Int) (base key : Kz) (c z : W6) :
    valP [true] (afunR PR (pfgE K O C T A N) [21] (fun _ => none) 20 14 [cKz.agg.enc base, cKz.agg.enc key, c6.agg.enc c, c6.agg.enc z]) =
      some (bif pk2 K O C base key c z != 0 then true else false, some (kKzE.val (zKz, pk2 K O C base key c z))) := by kernel_rfl
set_option maxRecDepth 100000 in
theorem pfg_run (K : Kz → Bool) (O : Int → W6 × Int) (C : W6 → W6 → Int) (T : Kz → W6 → Kz) (A : ZZ) (N : Kz → Kz × Int) (base key : Kz) (c z : W6) :
    valP [false] (afunR PR (pfgE K O C T A N) [21] (fun _ => none) 20 14 [cKz.agg.enc base, cKz.agg.enc key, c6.agg.enc c, c6.agg.enc z]) =
      some (bif pk2 K O C base key c z != 0 then false else true, some (kKzE.val (A (T base z) (N (T key c)).1))) := by kernel_rfl
end Go.Rq.Sm

/- Proofs: Extract. -/
namespace Go.Rq.Sm
open Go Go.Proofs Go.Rq

end Go.Rq.Sm

/- Proofs: Extract, Feign, Fits as contracts. -/
namespace Go.Rq.Sm
open Go Go.Proofs Go.Rq

def pfgF (K : Kz → Bool) (O : Int → W6 × Int) (C : W6 → W6 → Int) (T : Kz → W6 → Kz) (A : ZZ) (N : Kz → Kz × Int) (base key : Kz) (c z : W6) : Kz × Int :=
  bif pk2 K O C base key c z != 0 then (zKz, pk2 K O C base key c z) else A (T base z) (N (T key c)).1
theorem pfg_gives (K : Kz → Bool) (O : Int → W6 × Int) (C : W6 → W6 → Int) (T : Kz → W6 → Kz) (A : ZZ) (N : Kz → Kz × Int) (base key : Kz) (c z : W6) :
    Gives (afunR PR (pfgE K O C T A N) [21] (fun _ => none) 20 14 [cKz.agg.enc base, cKz.agg.enc key, c6.agg.enc c, c6.agg.enc z]) (kKzE.val (pfgF K O C T A N base key c z)) := by
  unfold pfgF
  cases h0 : pk2 K O C base key c z != 0 with
  | true => exact givesP (pfg_err K O C T A N base key c z) (by rw [h0]; rfl)
  | false => exact givesP (pfg_run K O C T A N base key c z) (by rw [h0]; rfl)
theorem pfg_ok {K : Kz → Bool} {O : Int → W6 × Int} {C : W6 → W6 → Int} {T : Kz → W6 → Kz} {A : ZZ} {N : Kz → Kz × Int} (hY : HeapOk PR 43 (pckV K O C)) (hT : CallOk PR 49 (fn2 cKz.agg c6.agg cKz.agg T))
    (hA : CallOk PR 50 (fn2 cKz.agg cKz.agg kKzE A)) (hN : CallOk PR 48 (fn1 cKz.agg kKzE N)) : CallOk PR 14 (fn4 cKz.agg cKz.agg c6.agg c6.agg kKzE (pfgF K O C T A N)) :=
  .inl ⟨enters_of (fn := Tryz.f14) (by kernel_rfl) (by kernel_rfl) (by kernel_rfl),
    pure4 (ctx_of (E := pfgE K O C T A N) (envA_ok eqsT_ok (TabPOk.cons hT (TabPOk.cons hA (TabPOk.cons hN TabPOk.nil))) (TabHOk.cons pck_ent hY TabHOk.nil) TabLOk.nil TabAOk.nil) mixed (fn := Tryz.f14) (by kernel_rfl) (by kernel_rfl) (by kernel_rfl) (tabOk_none _))
      fun base key c z => pfg_gives K O C T A N base key c z⟩
theorem pft_ok {T : Kz → W6 → Kz} {A : ZZ} (hT : CallOk PR 49 (fn2 cKz.agg c6.agg cKz.agg T)) (hA : CallOk PR 50 (fn2 cKz.agg cKz.agg kKzE A)) : CallOk PR 44 (pftG T A) :=
  .inl ⟨enters_of (fn := Tryz.f44) (by kernel_rfl) (by kernel_rfl) (by kernel_rfl), inlineS_ok (ctx_of (envA_ok eqsT_ok (TabPOk.cons hT (TabPOk.cons hA TabPOk.nil)) TabHOk.nil TabLOk.nil TabAOk.nil) mixed (fn := Tryz.f44) (by kernel_rfl) (by kernel_rfl) (by kernel_rfl) (tabOk_none _))⟩
end Go.Rq.Sm

/- The suites' orders by any number; what keys lets through is on the curve. -/
namespace Go.Rq.Sm
open Go Go.Proofs Go.Rq

def knwF : Sx → Bool
  | .gr => true
  | .li => true
  | .mi => true
  | _ => false
noncomputable def knwE : Env := envA eqsT [] [] [] [] [] [] true []
theorem knw_run (s : Sx) : valS (afunR PR knwE [] (fun _ => none) 10 72 [kSx.enc s]) = some (kBool.val (knwF s)) := by cases s <;> kernel_rfl
theorem knw_ctx : Ctx PR knwE [] (fun _ => none) 10 72 :=
  ctx_of (envA_ok eqsT_ok TabPOk.nil TabHOk.nil TabLOk.nil TabAOk.nil) mixed (fn := Tryz.f72) (by kernel_rfl) (by kernel_rfl) (by kernel_rfl) (tabOk_none _)
theorem knw_ok : CallOk PR 72 (fn1 kSx kBool knwF) :=
  .inl ⟨enters_of (fn := Tryz.f72) (by kernel_rfl) (by kernel_rfl) (by kernel_rfl), pure1 knw_ctx fun s => givesV (knw_run s)⟩
noncomputable def sorE (N : Sx → Bool) (R : Sx → W6) : Env := envA eqsT [(72, fn1 kSx kBool N), (73, fn1 kSx c6.agg R)] [] [] [] [] [] true []
def sorF (R : Sx → W6) : Sx → W6 × Int
  | .gr => (R .gr, 0)
  | .li => (R .li, 0)
  | .mi => (R .mi, 0)
  | _ => (zW6, 2)
theorem sor_run (R : Sx → W6) (s : Sx) : valS (afunR PR (sorE knwF R) [] (fun _ => none) 10 31 [kSx.enc s]) = some (kWE.val (sorF R s)) := by cases s <;> kernel_rfl
theorem sor_ctx : Ctx PR (sorE knwF (ordF rWx lorF ofW)) [] (fun _ => none) 10 31 :=
  ctx_of (envA_ok eqsT_ok (TabPOk.cons knw_ok (TabPOk.cons ord_ok TabPOk.nil)) TabHOk.nil TabLOk.nil TabAOk.nil) mixed (fn := Tryz.f31) (by kernel_rfl) (by kernel_rfl) (by kernel_rfl) (tabOk_none _)
theorem sor_okx : CallOk PR 31 (fn1 kSx kWE (sorF (ordF rWx lorF ofW))) :=
  .inl ⟨enters_of (fn := Tryz.f31) (by kernel_rfl) (by kernel_rfl) (by kernel_rfl), pure1 sor_ctx fun s => givesV (sor_run _ s)⟩
theorem fnS1 {β : Type} {B : Cod β} {F : Sx → β} : fn1 kSx B F = fn1 (kInt .i64) B (fun i => F (Sx.of i)) := by
  funext args
  unfold fn1
  split
  · rename_i a
    have e : kSx.dec a = ((kInt .i64).dec a).map Sx.of := by
      have e0 : kSx.dec a = (match (kInt .i64).dec a with
        | some i => some (Sx.of i)
        | none => none) := rfl
      rw [e0]
      cases (kInt .i64).dec a <;> rfl
    rw [e]
    cases (kInt .i64).dec a <;> rfl
  · rfl
theorem sor_ok : CallOk PR 31 (fn1 (kInt .i64) kWE (fun i => sorF (ordF rWx lorF ofW) (Sx.of i))) := by
  rw [← fnS1 (F := sorF (ordF rWx lorF ofW))]
  exact sor_okx

/-! What keys lets through is on the little curve. -/
theorem in_on {s : Su} {p : Lp} (h : inF s p = true) : onF s p = true := by
  unfold inF at h
  cases ho : onF s p with
  | true => rfl
  | false => rw [ho, cond_false] at h; cases h
theorem kch_on {I : Px → Bool} {k : Kx} (h : kchF I (liF inF) k = true) (hs : k.1 ≠ .gr) : okL onF k.1 k.2.2 = true := by
  obtain ⟨s, p, l⟩ := k
  cases s with
  | gr => exact absurd rfl hs
  | li =>
    simp only [kchF] at h
    cases he : eqPx p with
    | true => rw [he, cond_true] at h; exact in_on (s := .lit) h
    | false => rw [he, cond_false] at h; cases h
  | mi =>
    simp only [kchF] at h
    cases he : eqPx p with
    | true => rw [he, cond_true] at h; exact in_on (s := .mid) h
    | false => rw [he, cond_false] at h; cases h
  | up n => rfl
  | neg n => rfl
theorem ky1_ok {K : KK} {R : Sx → W6} {C : W6 → W6 → Int} {n : W6} {a : Kx} (h : (ky1 K R C n a != 0) = false) : K a = true := by
  cases hk : K a with
  | true => rfl
  | false => simp [ky1, hk] at h
theorem ky2_ok {K : KK} {R : Sx → W6} {C : W6 → W6 → Int} {n : W6} {a b : Kx} (h : (ky2 K R C n a b != 0) = false) : K a = true ∧ K b = true ∧ a.1 = b.1 := by
  cases hk : K a with
  | false => simp [ky2, hk] at h
  | true =>
    cases hb : K b with
    | false => simp [ky2, hk, hb] at h
    | true =>
      refine ⟨rfl, rfl, Sx.int_inj ?_⟩
      cases he : a.1.int != b.1.int with
      | false => simpa using he
      | true => simp [ky2, hk, hb, he] at h
end Go.Rq.Sm

/- Keys added, negated, multiplied: the contracts, over what the first curve's functions do. -/
namespace Go.Rq.Sm
open Go Go.Proofs Go.Rq

def toE (y : Kx × Int) : Kz × Int := (toKz y.1, y.2)
noncomputable abbrev kchX (I : Px → Bool) : KK := kchF I (liF inF)
noncomputable abbrev ordX : Sx → W6 := ordF rWx lorF ofW
noncomputable abbrev cmpX : W6 → W6 → Int := fun a b => chainV (cmpL a b) 0
theorem kysX_ok {I : Px → Bool} (hI : CallOk PR 109 (fn1 cPx.agg kBool I)) : HeapOk PR 35 (kysV (kchX I) ordX cmpX) := kys_ok (kch_ok hI li_ok) ord_ok cmp_ok
noncomputable def kadX (I : Px → Bool) (A : Px → Px → Px × Int) (a b : Kz) : Kz × Int := toE (kadG (kchX I) ordX cmpX A (ladF lSum) (toKx a) (toKx b))
theorem kadX_ok {I : Px → Bool} {A : Px → Px → Px × Int} (hI : CallOk PR 109 (fn1 cPx.agg kBool I)) (hA : CallOk PR 94 (fn2 cPx.agg cPx.agg kPE A)) :
    CallOk PR 50 (fn2 cKz.agg cKz.agg kKzE (kadX I A)) := by
  have h := kad_ok (kysX_ok hI) hA lad_ok fun a b he hs => by
    obtain ⟨h1, h2, h3⟩ := ky2_ok he
    have k1 := kch_on h1 hs
    have k2 := kch_on h2 (by rw [← h3]; exact hs)
    rw [← h3] at k2
    rw [k1, k2]
    rfl
  rw [fnK2 (B' := kKzE) (ψ := toE) fun y => rfl] at h
  exact h
noncomputable def kmuX (I : Px → Bool) (A : Px → W6 → Px × Int) (a : Kz) (n : W6) : Kz × Int := toE (kmuG (kchX I) ordX cmpX A (lmuF lTimes) (toKx a) n)
theorem kmuX_ok {I : Px → Bool} {A : Px → W6 → Px × Int} (hI : CallOk PR 109 (fn1 cPx.agg kBool I)) (hA : CallOk PR 36 (fn2 cPx.agg c6.agg kPE A)) :
    CallOk PR 9 (fn2 cKz.agg c6.agg kKzE (kmuX I A)) := by
  have h := kmu_ok (kysX_ok hI) hA lmu_ok fun a n he hs => kch_on (ky1_ok he) hs
  rw [fnK1c (B' := kKzE) (ψ := toE) fun y => rfl] at h
  exact h
noncomputable def kneX (I : Px → Bool) (A : Px → Px × Int) (a : Kz) : Kz × Int := toE (kneG (kchX I) ordX cmpX A (lneF lSub) (toKx a))
theorem kneX_ok {I : Px → Bool} {A : Px → Px × Int} (hI : CallOk PR 109 (fn1 cPx.agg kBool I)) (hA : CallOk PR 92 (fn1 cPx.agg kPE A)) :
    CallOk PR 48 (fn1 cKz.agg kKzE (kneX I A)) := by
  have h := kne_ok (kysX_ok hI) hA lne_ok fun a he hs => kch_on (ky1_ok he) hs
  rw [fnK1 (B' := kKzE) (ψ := toE) fun y => rfl] at h
  exact h
theorem kchZ_ok {I : Px → Bool} (hI : CallOk PR 109 (fn1 cPx.agg kBool I)) : CallOk PR 66 (fn1 cKz.agg kBool fun a => kchX I (toKx a)) := by
  have h := kch_ok hI li_ok
  rw [fnK1 (B' := kBool) (ψ := fun b => b) fun y => rfl] at h
  exact h
theorem pfgX_ok {I : Px → Bool} {A : Px → Px → Px × Int} {M : Px → W6 → Px × Int} {N : Px → Px × Int} (hI : CallOk PR 109 (fn1 cPx.agg kBool I)) (hA : CallOk PR 94 (fn2 cPx.agg cPx.agg kPE A)) (hM : CallOk PR 36 (fn2 cPx.agg c6.agg kPE M))
    (hN : CallOk PR 92 (fn1 cPx.agg kPE N)) :
    CallOk PR 14 (fn4 cKz.agg cKz.agg c6.agg c6.agg kKzE (pfgF (fun a => kchX I (toKx a)) (fun i => sorF ordX (Sx.of i)) cmpX (fun a n => (kmuX I M a n).1) (kadX I A) (kneX I N))) :=
  pfg_ok (pck_ok (kchZ_ok hI) sor_ok cmp_ok) (ptm_ok (kmuX_ok hI hM)) (kadX_ok hI hA) (kneX_ok hI hN)
end Go.Rq.Sm

/- Suites of which all keys in sight are multiples of the generator: what the laws need of them. -/
namespace Go.Rq.Sm
open Go Go.Proofs Go.Rq

theorem eqWk_iff (v w : W6) (b : Bool) : eqWk v w b = true ↔ v = w ∧ b = true := by
  obtain ⟨v0, v1, v2, v3, v4, v5⟩ := v
  obtain ⟨w0, w1, w2, w3, w4, w5⟩ := w
  simp only [eqWk, Bool.and_eq_true, beq_iff_eq, W6.mk.injEq]
  constructor
  · rintro ⟨h0, h1, h2, h3, h4, h5, h⟩; exact ⟨⟨h0, h1, h2, h3, h4, h5⟩, h⟩
  · rintro ⟨⟨h0, h1, h2, h3, h4, h5⟩, h⟩; exact ⟨h0, h1, h2, h3, h4, h5, h⟩
theorem eqKz_iff (a b : Kz) : eqKz a b = true ↔ a = b := by
  obtain ⟨s, ⟨x, y, z⟩, u, v, w⟩ := a
  obtain ⟨s', ⟨x', y', z'⟩, u', v', w'⟩ := b
  simp only [eqKz, Bool.and_eq_true, eqWk_iff, beq_iff_eq, Prod.mk.injEq, and_true]
  constructor
  · rintro ⟨h0, h1, h2, h3, h4, h5, h6⟩; exact ⟨h0, ⟨h1, h2, h3⟩, h4, h5, h6⟩
  · rintro ⟨h0, ⟨h1, h2, h3⟩, h4, h5, h6⟩; exact ⟨h0, h1, h2, h3, h4, h5, h6⟩
theorem eqKz_of {a b c d : Kz} (h : a = b ↔ c = d) : eqKz a b = eqKz c d := by
  rw [Bool.eq_iff_iff, eqKz_iff, eqKz_iff]; exact h

/-- A suite's multiples of its generator, and what the functions answer of them. -/
structure Cy (K : Kz → Bool) (O : Int → W6 × Int) (C : W6 → W6 → Int) (M : ZM) (A : ZZ) (N : Kz → Kz × Int) (s : Int) (r : Nat) (φ : Nat → Kz) : Prop where
  chk : ∀ n, K (φ n) = true
  sui : ∀ n, (φ n).1 = s
  cmp : ∀ x : W6, x.val < r → decide (C x (O s).1 ≥ 0) = false
  mul : ∀ (n : Nat) (x : W6), x.val < r → M (φ n) x = (φ (n * x.val), 0)
  add : ∀ m n, A (φ m) (φ n) = (φ (m + n), 0)
  neg : ∀ n, ∃ k, N (φ n) = (φ k, 0) ∧ (n + k) % r = 0
  inj : ∀ m n, φ m = φ n ↔ m % r = n % r

section
variable {K : Kz → Bool} {O : Int → W6 × Int} {C : W6 → W6 → Int} {M : ZM} {A : ZZ} {N : Kz → Kz × Int} {s : Int} {r : Nat} {φ : Nat → Kz}
theorem Cy.ck2 (h : Cy K O C M A N s r φ) {x y : W6} (hx : x.val < r) (hy : y.val < r) : ck2 O C s x y = 0 := by
  unfold Sm.ck2
  rw [h.cmp x hx, h.cmp y hy]; rfl
theorem Cy.pk2 (h : Cy K O C M A N s r φ) (a b : Nat) {x y : W6} (hx : x.val < r) (hy : y.val < r) : pk2 K O C (φ a) (φ b) x y = 0 := by
  unfold Sm.pk2
  rw [h.chk, h.chk, h.sui, h.sui, h.ck2 hx hy]
  simp
theorem Cy.pk3 (h : Cy K O C M A N s r φ) (a b d : Nat) {x y : W6} (hx : x.val < r) (hy : y.val < r) : pk3 K O C (φ a) (φ b) (φ d) x y = 0 := by
  unfold Sm.pk3
  rw [h.chk, h.chk, h.chk, h.sui, h.sui, h.sui, h.ck2 hx hy]
  simp

theorem mod_move {r a b u k : Nat} (h : (u + k) % r = 0) : a % r = (b + u) % r ↔ b % r = (a + k) % r := by
  constructor
  · intro e
    rw [Nat.add_mod a k, e, ← Nat.add_mod, Nat.add_assoc, Nat.add_mod, h, Nat.add_zero, Nat.mod_mod]
  · intro e
    rw [Nat.add_mod b u, e, ← Nat.add_mod, Nat.add_assoc, Nat.add_comm k u, Nat.add_mod, h, Nat.add_zero, Nat.mod_mod]

/-- A feigned beginning fits, and no other one. -/
theorem Cy.feigned (h : Cy K O C M A N s r φ) (x y z : Nat) {c w : W6} (hc : c.val < r) (hw : w.val < r) :
    (pfgF K O C (fun a n => (M a n).1) A N (φ x) (φ y) c w).2 = 0 ∧
    (∀ d : Nat, Sm.pk3 K O C (φ x) (φ y) (φ d) c w = 0) ∧ Sm.pk3 K O C (φ x) (φ y) (pfgF K O C (fun a n => (M a n).1) A N (φ x) (φ y) c w).1 c w = 0 ∧
    eqKz (M (φ x) w).1 (A (pfgF K O C (fun a n => (M a n).1) A N (φ x) (φ y) c w).1 (M (φ y) c).1).1 = true ∧
    eqKz (M (φ x) w).1 (A (φ z) (M (φ y) c).1).1 = eqKz (φ z) (pfgF K O C (fun a n => (M a n).1) A N (φ x) (φ y) c w).1 := by
  obtain ⟨k, hk, hz⟩ := h.neg (y * c.val)
  have e : pfgF K O C (fun a n => (M a n).1) A N (φ x) (φ y) c w = (φ (x * w.val + k), 0) := by
    unfold pfgF
    rw [h.pk2 x y hc hw]
    simp only [h.mul _ _ hc, h.mul _ _ hw, hk, h.add]
    rfl
  refine ⟨by rw [e], fun d => h.pk3 x y d hc hw, by rw [e]; exact h.pk3 x y _ hc hw, ?_, ?_⟩
  · rw [e, h.mul _ _ hw, h.mul _ _ hc]
    simp only [h.add]
    rw [eqKz_iff, h.inj, Nat.add_assoc, Nat.add_mod, Nat.add_comm k, hz, Nat.add_zero, Nat.mod_mod]
  · rw [e, h.mul _ _ hw, h.mul _ _ hc]
    simp only [h.add]
    apply eqKz_of
    rw [h.inj, h.inj]
    exact mod_move hz
end
end Go.Rq.Sm

/- The reference's numbers of six words: contracts. -/
namespace Go.Rq
open Go Go.Proofs

/-! Which is the less. -/
/-! Sum and difference. -/
def raC (x y c : BitVec 64) : BitVec 64 := bif (bif BitVec.ult (x + y + c) (x + y) then true else BitVec.ult (x + y) x) then bitW true else bitW false
def raddW (a b : W6) : W6 × Bool :=
  let c1 := raC a.w0 b.w0 (bitW false)
  let c2 := raC a.w1 b.w1 c1
  let c3 := raC a.w2 b.w2 c2
  let c4 := raC a.w3 b.w3 c3
  let c5 := raC a.w4 b.w4 c4
  let c6 := raC a.w5 b.w5 c5
  (⟨a.w0 + b.w0 + bitW false, a.w1 + b.w1 + c1, a.w2 + b.w2 + c2, a.w3 + b.w3 + c3, a.w4 + b.w4 + c4, a.w5 + b.w5 + c5⟩, c6 == bitW true)
def rsC (x y c : BitVec 64) : BitVec 64 := bif (bif BitVec.ult (x - y) c then true else BitVec.ult x y) then bitW true else bitW false
def rsubW (a b : W6) : W6 × Bool :=
  let c1 := rsC a.w0 b.w0 (bitW false)
  let c2 := rsC a.w1 b.w1 c1
  let c3 := rsC a.w2 b.w2 c2
  let c4 := rsC a.w3 b.w3 c3
  let c5 := rsC a.w4 b.w4 c4
  let c6 := rsC a.w5 b.w5 c5
  (⟨a.w0 - b.w0 - bitW false, a.w1 - b.w1 - c1, a.w2 - b.w2 - c2, a.w3 - b.w3 - c3, a.w4 - b.w4 - c4, a.w5 - b.w5 - c5⟩, c6 == bitW true)
/-! A row of a product, written into eight words. -/
def rowG (M : BitVec 64 → BitVec 64 → BitVec 64 × BitVec 64) (S : BitVec 64 → BitVec 64 → Bool → BitVec 64 × Bool) (t : W6 × BitVec 64 × BitVec 64) (a : BitVec 64) (b : W6) : W6 × BitVec 64 × BitVec 64 :=
  let mc := fun (y u c : BitVec 64) => let p := M a y; let s := S p.2 u false; let h := p.1 + bitW s.2; let r := S s.1 c false; ((r.1, h + bitW r.2) : BitVec 64 × BitVec 64)
  let r0 := mc b.w0 t.1.w0 (bitW false)
  let r1 := mc b.w1 t.1.w1 r0.2
  let r2 := mc b.w2 t.1.w2 r1.2
  let r3 := mc b.w3 t.1.w3 r2.2
  let r4 := mc b.w4 t.1.w4 r3.2
  let r5 := mc b.w5 t.1.w5 r4.2
  let s := S t.2.1 r5.2 false
  (⟨r0.1, r1.1, r2.1, r3.1, r4.1, r5.1⟩, s.1, t.2.2 + bitW s.2)
def rowW : W6 × BitVec 64 × BitVec 64 → BitVec 64 → W6 → W6 × BitVec 64 × BitVec 64 := rowG mul64 add64
end Go.Rq

/- The reference's arithmetic of a modulus: contracts. -/
namespace Go.Rq
open Go Go.Proofs

abbrev W8 : Type := W6 × BitVec 64 × BitVec 64
abbrev Fa : Type := W6 × BitVec 64 × W6

def mtRound (R : W8 → BitVec 64 → W6 → W8) (f : Fa) (b : W6) (x : BitVec 64) (t : W8) : W8 :=
  let u := R t x b
  let v := R u (u.1.w0 * f.2.1) f.1
  (⟨v.1.w1, v.1.w2, v.1.w3, v.1.w4, v.1.w5, v.2.1⟩, v.2.2, bitW false)
def zero8 : W8 := (⟨0#64, 0#64, 0#64, 0#64, 0#64, 0#64⟩, 0#64, 0#64)
def mtRaw (R : W8 → BitVec 64 → W6 → W8) (f : Fa) (a b : W6) : W8 :=
  mtRound R f b a.w5 (mtRound R f b a.w4 (mtRound R f b a.w3 (mtRound R f b a.w2 (mtRound R f b a.w1 (mtRound R f b a.w0 zero8)))))

def cmW (a b : W6) : Int := chainV (cmpL a b) 0
def montW (f : Fa) (a b : W6) : W6 := bif (mtRaw rowW f a b).2.1 != bitW false then (rsubW (mtRaw rowW f a b).1 f.1).1 else bif decide (cmW (mtRaw rowW f a b).1 f.1 ≥ 0) then (rsubW (mtRaw rowW f a b).1 f.1).1 else (mtRaw rowW f a b).1
/-! The great prime. -/
def fastP : Fa := (primeW, 9940570264628428797#64, wideW)
/-! Product, sum, negated one, difference. -/
def rmG (M : Fa → W6 → W6 → W6) (f : Fa) (a b : W6) : W6 := M f (M f a b) f.2.2
def rmulW : Fa → W6 → W6 → W6 := rmG montW
def rfadd (f : Fa) (a b : W6) : W6 := bif decide (cmW (raddW a b).1 f.1 ≥ 0) then (rsubW (raddW a b).1 f.1).1 else (raddW a b).1
def rfneg (f : Fa) (a : W6) : W6 := bif eqW a zeroW then a else (rsubW f.1 a).1
def rfsub (f : Fa) (a b : W6) : W6 := rfadd f a (rfneg f b)
end Go.Rq

/- The reference's bits and lengths: contracts. -/
namespace Go.Rq
open Go Go.Proofs

/-- The bits from the highest on, and what is told at the first that is set. -/
def rlenL (B : W6 → Int → Int) (a : W6) : Nat → List (Bool × Int)
  | 0 => []
  | k + 1 => (B a (k : Int) == 1, (k : Int) + 1) :: rlenL B a k
def rlenI (a : W6) : Int := chainV (rlenL bitI a 384) 0
end Go.Rq

/- The curves' functions, the field left open. Written by a program of ours. -/
namespace Go.Rq
open Go Go.Proofs

def flW : CC (Fl W6) := cFl 158 159 160 161 c6
def jW : CC (Jp W6) := cJp c6
def aW : CC (Ap W6) := cAp c6
set_option maxRecDepth 100000 in
theorem twW_run (o : FO W6) (f : Fl W6) (p : Jp W6) : (afunR PR (envOf eqsT (T1 o)) [] (fun _ => none) 40 189 [flW.agg.enc f, jW.agg.enc p]).strict = .leaf (jW.agg.enc (twiceJ o p)) := by kernel_rfl

set_option maxRecDepth 100000 in
theorem raW_run (o : FO W6) (f : Fl W6) (p : Ap W6) : (afunR PR (envOf eqsT (T1 o)) [6] (fun _ => none) 40 166 [flW.agg.enc f, aW.agg.enc p]).strict = .br p.zero (.leaf (jW.agg.enc ⟨f.one, f.one, zeroW⟩)) (.leaf (jW.agg.enc ⟨p.x, p.y, f.one⟩)) := by kernel_rfl

set_option maxRecDepth 100000 in
theorem loW_run (o : FO W6) (f : Fl W6) (p : Jp W6) : (afunR PR (envOf eqsT (T1 o)) [11] (fun _ => none) 40 167 [flW.agg.enc f, jW.agg.enc p]).strict = .br (eqW p.z zeroW) (.leaf (.agg (c6.enc zeroW ++ (c6.enc zeroW ++ [.lit true])))) (.leaf (.agg (c6.enc (lowerJ o p).x ++ (c6.enc (lowerJ o p).y ++ [.lit false])))) := by kernel_rfl

set_option maxRecDepth 100000 in
theorem neW_run (o : FO W6) (f : Fl W6) (p : Ap W6) : (afunR PR (envOf eqsT (T1 o)) [] (fun _ => none) 40 132 [flW.agg.enc f, aW.agg.enc p]).strict = .leaf (aW.agg.enc ⟨p.x, o.sub zeroW p.y, p.zero⟩) := by kernel_rfl

set_option maxRecDepth 100000 in
theorem onW_run (o : FO W6) (f : Fl W6) (p : Ap W6) : (afunR PR (envOf eqsT (T1 o)) [7, 12] (fun _ => none) 40 163 [flW.agg.enc f, aW.agg.enc p]).strict = .br p.zero (.br (eqW p.x zeroW) (.leaf (kBool.enc (eqW p.y zeroW))) (.leaf (.lit false))) (.leaf (kBool.enc (eqW (o.mul p.y p.y) (o.add (o.mul (o.mul p.x p.x) p.x) f.b)))) := by kernel_rfl

set_option maxRecDepth 100000 in
theorem suW_run (o : FO W6) (f : Fl W6) (tw : Fl W6 → Jp W6 → Jp W6) (p q : Jp W6) : (afunR PR (envOf eqsT ((189, fn2 flW.agg jW.agg jW.agg tw) :: T1 o)) [23, 28, 90, 93] (fun _ => none) 40 164 [flW.agg.enc f, jW.agg.enc p, jW.agg.enc q]).strict = .br (eqW p.z zeroW) (.leaf (jW.agg.enc q)) (.br (eqW q.z zeroW) (.leaf (jW.agg.enc p)) (.br (eqW (hJ o p q) zeroW) (.br (eqW (rJ o p q) zeroW) (.leaf (jW.agg.enc (tw f p))) (.leaf (jW.agg.enc ⟨f.one, f.one, zeroW⟩))) (.leaf (jW.agg.enc (sumJ o p q))))) := by kernel_rfl

end Go.Rq

/- The curves' functions: contracts. Written by a program of ours. -/
namespace Go.Rq
open Go Go.Proofs

theorem twW_ctx : Ctx PR (envOf eqsT (T1 fW)) [] (fun _ => none) 40 189 :=
  ctx_of (envOf_ok eqsT_ok T1_ok) mixed (fn := Tryz.f189) (by kernel_rfl) (by kernel_rfl) (by kernel_rfl) (tabOk_none _)
theorem twW_ok : CallOk PR 189 (fn2 flW.agg jW.agg jW.agg (fun _ p => twiceJ fW p)) :=
  .inl ⟨enters_of (fn := Tryz.f189) (by kernel_rfl) (by kernel_rfl) (by kernel_rfl), pure2 twW_ctx (fun f p => leafVal (B := jW.agg) (y := twiceJ fW p) (twW_run fW f p))⟩

theorem raW_ctx : Ctx PR (envOf eqsT (T1 fW)) [6] (fun _ => none) 40 166 :=
  ctx_of (envOf_ok eqsT_ok T1_ok) mixed (fn := Tryz.f166) (by kernel_rfl) (by kernel_rfl) (by kernel_rfl) (tabOk_none _)
theorem raW_ok : CallOk PR 166 (fn2 flW.agg aW.agg jW.agg (raiseJ fW)) :=
  .inl ⟨enters_of (fn := Tryz.f166) (by kernel_rfl) (by kernel_rfl) (by kernel_rfl), pure2 raW_ctx (fun f p => givesOf (raW_run fW f p) (holds_br (B := jW.agg) (holds_leaf (jW.agg.h1 _)) (holds_leaf (jW.agg.h1 _))))⟩

theorem loW_ctx : Ctx PR (envOf eqsT (T1 fW)) [11] (fun _ => none) 40 167 :=
  ctx_of (envOf_ok eqsT_ok T1_ok) mixed (fn := Tryz.f167) (by kernel_rfl) (by kernel_rfl) (by kernel_rfl) (tabOk_none _)
theorem loW_ok : CallOk PR 167 (fn2 flW.agg jW.agg aW.agg (fun _ p => lowerE fW eqW p)) :=
  .inl ⟨enters_of (fn := Tryz.f167) (by kernel_rfl) (by kernel_rfl) (by kernel_rfl), pure2 loW_ctx (fun f p => givesOf (loW_run fW f p) (holds_br (B := aW.agg) (holds_leaf (apFlatW _ _ _)) (holds_leaf (apFlatW _ _ _))))⟩

theorem neW_ctx : Ctx PR (envOf eqsT (T1 fW)) [] (fun _ => none) 40 132 :=
  ctx_of (envOf_ok eqsT_ok T1_ok) mixed (fn := Tryz.f132) (by kernel_rfl) (by kernel_rfl) (by kernel_rfl) (tabOk_none _)
theorem neW_ok : CallOk PR 132 (fn2 flW.agg aW.agg aW.agg (fun _ p => negE fW p)) :=
  .inl ⟨enters_of (fn := Tryz.f132) (by kernel_rfl) (by kernel_rfl) (by kernel_rfl), pure2 neW_ctx (fun f p => leafVal (B := aW.agg) (y := negE fW p) (neW_run fW f p))⟩

theorem onW_ctx : Ctx PR (envOf eqsT (T1 fW)) [7, 12] (fun _ => none) 40 163 :=
  ctx_of (envOf_ok eqsT_ok T1_ok) mixed (fn := Tryz.f163) (by kernel_rfl) (by kernel_rfl) (by kernel_rfl) (tabOk_none _)
theorem onW_ok : CallOk PR 163 (fn2 flW.agg aW.agg kBool (onE fW eqW)) :=
  .inl ⟨enters_of (fn := Tryz.f163) (by kernel_rfl) (by kernel_rfl) (by kernel_rfl), pure2 onW_ctx (fun f p => givesOf (onW_run fW f p) (holds_br (B := kBool) (holds_br (B := kBool) (holds_leaf (kBool.h1 _)) (holds_leaf (a := .lit false) (v := kBool.val false) rfl)) (holds_leaf (kBool.h1 _))))⟩

def twTW : PureTab := (189, fn2 flW.agg jW.agg jW.agg (fun _ p => twiceJ fW p)) :: T1 fW
theorem twTW_ok : TabPOk PR twTW := TabPOk.cons twW_ok T1_ok
theorem suW_ctx : Ctx PR (envOf eqsT (twTW)) [23, 28, 90, 93] (fun _ => none) 40 164 :=
  ctx_of (envOf_ok eqsT_ok twTW_ok) mixed (fn := Tryz.f164) (by kernel_rfl) (by kernel_rfl) (by kernel_rfl) (tabOk_none _)
theorem suW_ok : CallOk PR 164 (fn3 flW.agg jW.agg jW.agg jW.agg (sumE fW eqW)) :=
  .inl ⟨enters_of (fn := Tryz.f164) (by kernel_rfl) (by kernel_rfl) (by kernel_rfl), pure3 suW_ctx (fun f p q => givesOf (suW_run fW f (fun _ p => twiceJ fW p) p q) (holds_br (B := jW.agg) (holds_leaf (jW.agg.h1 _)) (holds_br (B := jW.agg) (holds_leaf (jW.agg.h1 _)) (holds_br (B := jW.agg) (holds_br (B := jW.agg) (holds_leaf (jW.agg.h1 _)) (holds_leaf (jW.agg.h1 _))) (holds_leaf (jW.agg.h1 _))))))⟩

end Go.Rq

/- The curves' multiples: a loop over a number's bits. Written by a program of ours. -/
namespace Go.Rq
open Go Go.Proofs

/-- What times calls, left open. -/
structure TO (K : Type) where
  tw : Fl K → Jp K → Jp K
  su : Fl K → Jp K → Jp K → Jp K
  ln : W6 → Int
  bt : W6 → Int → Int

/-- A multiple, from bit k - 1 down. -/
def timesG {K : Type} (t : TO K) (f : Fl K) (p : Jp K) (n : W6) : Nat → Jp K → Jp K
  | 0, out => out
  | k + 1, out => timesG t f p n k (bif t.bt n (k : Int) == 1 then t.su f (t.tw f out) p else t.tw f out)


def tmTW (t : TO W6) : PureTab := [(189, fn2 flW.agg jW.agg jW.agg t.tw), (164, fn3 flW.agg jW.agg jW.agg jW.agg t.su),
  (74, fn1 c6.agg (kInt .i64) t.ln), (76, fn2 c6.agg (kInt .i64) (kInt .i64) t.bt)]
noncomputable def tmEW (t : TO W6) : Env := envOf eqsT (tmTW t)
def tmKW : Keep := ⟨[3, 4, 5, 6, 7, 8], [0, 1, 2, 3, 9], 15⟩
@[irreducible] noncomputable def tmXW (t : TO W6) (f : Fl W6) (p : Jp W6) (n : W6) : XS := entryOf PR (tmEW t) [18, 27] (fun _ => none) 10 165 [flW.agg.enc f, jW.agg.enc p, c6.agg.enc n] [] 0 0 tmKW
@[irreducible] noncomputable def tmIW (t : TO W6) (f : Fl W6) (p : Jp W6) (n : W6) (d : Int × Jp W6) : XS := ((tmXW t f p n).setT 8 (.v (.int .i64 d.1))).setB 9 (jW.enc d.2)
@[irreducible] noncomputable def tmCW : Code := roundOf PR 165 0

set_option maxRecDepth 100000 in
theorem tm_roundW (t : TO W6) (f : Fl W6) (p : Jp W6) (n : W6) (z : Int) (out : Jp W6) : (roundT PR (tmEW t) [18, 27] (fun _ => none) 10 tmKW tmKW tmKW tmCW (tmIW t f p n (z, out))).strict =
    .br (decide (z ≥ 0))
      (.br (t.bt n z == 1)
        (.leaf (.normal, tmIW t f p n (IntKind.i64.wrap (z - 1), t.su f (t.tw f out) p)))
        (.leaf (.normal, tmIW t f p n (IntKind.i64.wrap (z - 1), t.tw f out))))
      (.leaf (.exit 0, tmIW t f p n (z, out))) := by kernel_rfl


end Go.Rq

/- The curves' multiples: contracts. Written by a program of ours. -/
namespace Go.Rq
open Go Go.Proofs

theorem tm_law {K : Type} (t : TO K) (f : Fl K) (p : Jp K) (n : W6) (rt : XS → Tree (AExit × XS)) (I : Int × Jp K → XS) (hr : ∀ (z : Int) (out : Jp K), (rt (I (z, out))).strict =
    .br (decide (z ≥ 0))
      (.br (t.bt n z == 1)
        (.leaf (.normal, I (IntKind.i64.wrap (z - 1), t.su f (t.tw f out) p)))
        (.leaf (.normal, I (IntKind.i64.wrap (z - 1), t.tw f out))))
      (.leaf (.exit 0, I (z, out)))) {R : Jp K} {Q : AExit → XS → Prop} (hK : Q .normal (I (-1, R))) :
    ∀ d : Int × Jp K, (-1 ≤ d.1 ∧ d.1 ≤ 383 ∧ timesG t f p n (d.1 + 1).toNat d.2 = R) → (rt (I d)).holds (fun r => match r.1 with
      | .normal => ∃ j : Int × Jp K, (-1 ≤ j.1 ∧ j.1 ≤ 383 ∧ timesG t f p n (j.1 + 1).toNat j.2 = R) ∧ (j.1 + 1).toNat < (d.1 + 1).toNat ∧ r.2 = I j
      | .exit q => if q = 0 then Q .normal r.2 else Q (.exit q) r.2
      | .ret => Q .ret r.2) := by
  rintro ⟨z, out⟩ ⟨h0, h1, h2⟩
  apply Tree.holds_strict
  rw [hr]
  refine ⟨fun hz => ?_, fun hz => ?_⟩
  · have hz : 0 ≤ z := by simpa using hz
    have hw : IntKind.i64.wrap (z - 1) = z - 1 := wrap_id (by omega) (by omega)
    have hk : (z + 1).toNat = z.toNat + 1 := by omega
    simp only at h2
    rw [hk] at h2
    simp only [timesG] at h2
    rw [show ((z.toNat : Nat) : Int) = z by omega] at h2
    have hk' : (z - 1 + 1).toNat = z.toNat := by omega
    refine ⟨fun hb => ⟨⟨z - 1, t.su f (t.tw f out) p⟩, ⟨by simp only; omega, by simp only; omega, ?_⟩, ?_, ?_⟩, fun hb => ⟨⟨z - 1, t.tw f out⟩, ⟨by simp only; omega, by simp only; omega, ?_⟩, ?_, ?_⟩⟩
    · rw [hb] at h2
      simp only [hk']
      exact h2
    · show (z - 1 + 1).toNat < (z + 1).toNat
      omega
    · rw [hw]
    · rw [hb] at h2
      simp only [hk']
      exact h2
    · show (z - 1 + 1).toNat < (z + 1).toNat
      omega
    · rw [hw]
  · have hz : z = -1 := by
      have : ¬ 0 ≤ z := by simpa using hz
      omega
    subst hz
    have h2 : out = R := h2
    show (if (0 : Nat) = 0 then Q .normal (I (-1, out)) else Q (.exit 0) (I (-1, out)))
    rw [if_pos rfl, h2]
    exact hK

theorem chainV_mem {β : Type} {l : List (Bool × β)} {y : β} {Q : β → Prop} (h : ∀ c x, (c, x) ∈ l → Q x) (hy : Q y) : Q (chainV l y) := by
  induction l with
  | nil => exact hy
  | cons p t ih =>
    obtain ⟨c, x⟩ := p
    simp only [chainV]
    cases c with
    | true => exact h true x (List.mem_cons_self ..)
    | false => exact ih fun c x hm => h c x (List.mem_cons_of_mem _ hm)

theorem lenI_le (a : W6) : 0 ≤ lenI a ∧ lenI a ≤ 384 := by
  have b : ∀ x : BitVec 64, bl x.toNat ≤ 64 := fun x => bl_spec.2 x.isLt
  have g : ∀ (k : Int) (x : BitVec 64), 0 ≤ k → k ≤ 320 → 0 ≤ IntKind.i64.wrap (k + ((bl x.toNat : Nat) : Int)) ∧ IntKind.i64.wrap (k + ((bl x.toNat : Nat) : Int)) ≤ 384 := by
    intro k x h1 h2
    have := b x
    rw [wrap_id (by omega) (by omega)]
    omega
  unfold lenI lenL
  refine chainV_mem (Q := fun x => 0 ≤ x ∧ x ≤ 384) (fun c x h => ?_) (by omega)
  simp only [List.mem_cons, Prod.mk.injEq, List.not_mem_nil, or_false] at h
  rcases h with ⟨-, rfl⟩ | ⟨-, rfl⟩ | ⟨-, rfl⟩ | ⟨-, rfl⟩ | ⟨-, rfl⟩ | ⟨-, rfl⟩ <;> exact g _ _ (by omega) (by omega)


@[irreducible] noncomputable def tmBW (t : TO W6) (f : Fl W6) (p : Jp W6) (n : W6) (r : Jp W6) : BEnt := ⟨tmKW.tm, tmKW.ids, tmKW.n, tmXW t f p n, .leaf (.normal, tmIW t f p n (-1, r))⟩
set_option maxRecDepth 100000 in
theorem tm_runW (t : TO W6) (f : Fl W6) (p : Jp W6) (n : W6) (r : Jp W6) : (afunR PR (tmEW t) [18, 27] (tabOf [(0, tmBW t f p n r)]) 10 165 [flW.agg.enc f, jW.agg.enc p, c6.agg.enc n]).strict =
    .same (tmXW t f p n) (tmXW t f p n) (.leaf (jW.agg.enc r)) := by kernel_rfl
set_option maxRecDepth 100000 in
theorem tm_headW (t : TO W6) (f : Fl W6) (p : Jp W6) (n : W6) : tmXW t f p n = tmIW t f p n (IntKind.i64.wrap (t.ln n - 1), ⟨f.one, f.one, zeroW⟩) := by kernel_rfl
theorem tm_blkW : blkAll 0 (bodyOf PR 165) = [.loop tmCW] := by kernel_rfl
def tmOW : TO W6 := ⟨fun _ p => twiceJ fW p, sumE fW eqW, lenI, bitI⟩
theorem tmT_eqW : [(189, fn2 flW.agg jW.agg jW.agg (fun _ p => twiceJ fW p)), (164, fn3 flW.agg jW.agg jW.agg jW.agg (sumE fW eqW)),
  (74, fn1 c6.agg (kInt .i64) lenI), (76, fn2 c6.agg (kInt .i64) (kInt .i64) bitI)] = tmTW tmOW := by kernel_rfl
theorem tmT_okW : TabPOk PR (tmTW tmOW) := Eq.subst (motive := TabPOk PR) tmT_eqW (TabPOk.cons twW_ok (TabPOk.cons suW_ok (TabPOk.cons len_ok (TabPOk.cons bit_ok TabPOk.nil))))
theorem tmE_okW : EnvOk PR (tmEW tmOW) := envOf_ok eqsT_ok tmT_okW
theorem tm_codeOkW : codeOk (tmEW tmOW) tmCW = true := by kernel_rfl
def timesW (f : Fl W6) (p : Jp W6) (n : W6) : Jp W6 := timesG tmOW f p n (lenI n).toNat ⟨f.one, f.one, zeroW⟩

theorem tm_startW (f : Fl W6) (p : Jp W6) (n : W6) : ∀ d : Int × Jp W6, d = (IntKind.i64.wrap (tmOW.ln n - 1), ⟨f.one, f.one, zeroW⟩) → -1 ≤ d.1 ∧ d.1 ≤ 383 ∧ timesG tmOW f p n (d.1 + 1).toNat d.2 = timesW f p n := by
  rintro d rfl
  have hl := lenI_le n
  have hw : IntKind.i64.wrap (tmOW.ln n - 1) = lenI n - 1 := wrap_id (n := lenI n - 1) (by omega) (by omega)
  rw [hw]
  refine ⟨?_, ?_, ?_⟩
  · show -1 ≤ lenI n - 1
    omega
  · show lenI n - 1 ≤ 383
    omega
  · show timesG tmOW f p n (lenI n - 1 + 1).toNat _ = timesG tmOW f p n (lenI n).toNat _
    rw [show lenI n - 1 + 1 = lenI n by omega]

theorem tm_loopW (f : Fl W6) (p : Jp W6) (n : W6) {Fr0 : Fr} {ds : List Deferred} {Q : AExit → XS → Prop} (hK : Q .normal (tmIW tmOW f p n (-1, timesW f p n))) :
    Tri PR Fr0 ds 0 (.block 0 (.loop tmCW)) (tmXW tmOW f p n) Q :=
  Eq.subst (motive := fun y => Tri PR Fr0 ds 0 (.block 0 (.loop tmCW)) y Q) (tm_headW tmOW f p n).symm <| blockLoop (m := 0) tmE_okW mixed (sym := [18, 27]) (tab := fun _ => none) (lf := 10) (k := tmKW) (kx := tmKW) (kr := tmKW) (Nat.zero_le _) (Nat.zero_le _) (Nat.zero_le _) tm_codeOkW (tabOk_none _)
    (tmIW tmOW f p n) (fun d => -1 ≤ d.1 ∧ d.1 ≤ 383 ∧ timesG tmOW f p n (d.1 + 1).toNat d.2 = timesW f p n) (fun d => (d.1 + 1).toNat) _ (tm_startW f p n _ rfl)
    (tm_law tmOW f p n _ (tmIW tmOW f p n) (tm_roundW tmOW f p n) hK)

theorem tmB_nW (t : TO W6) (f : Fl W6) (p : Jp W6) (n : W6) (r : Jp W6) : (tmBW t f p n r).n = 15 ∧ (tmBW t f p n r).pre = tmXW t f p n ∧ (tmBW t f p n r).post = .leaf (.normal, tmIW t f p n (-1, r)) := by
  unfold tmBW
  exact ⟨rfl, rfl, rfl⟩

theorem tm_ctxW (f : Fl W6) (p : Jp W6) (n : W6) : Ctx PR (tmEW tmOW) [18, 27] (tabOf [(0, tmBW tmOW f p n (timesW f p n))]) 10 165 :=
  ctx_of tmE_okW mixed (fn := Tryz.f165) (by kernel_rfl) (by kernel_rfl) (by kernel_rfl)
    (tabOk_one (Nat.zero_le _) tm_blkW fun Fr0 ds Q h => by
      obtain ⟨-, h2, h3⟩ := tmB_nW tmOW f p n (timesW f p n)
      rw [h3] at h
      rw [h2]
      exact tm_loopW f p n h)

theorem tm_okW : CallOk PR 165 (fn3 flW.agg jW.agg c6.agg jW.agg timesW) :=
  .inl ⟨enters_of (fn := Tryz.f165) (by kernel_rfl) (by kernel_rfl) (by kernel_rfl),
    pure3X fun f p n => .of (tm_ctxW f p n) (sameVal (tm_runW tmOW f p n (timesW f p n)))⟩


end Go.Rq

/- The reference's powers: contract. -/
namespace Go.Rq
open Go Go.Proofs

/-- What a power calls, left open. -/
structure PO where
  mu : Fa → W6 → W6 → W6
  ln : W6 → Int
  bt : W6 → Int → Int

def numOne : W6 := ⟨bitW true, 0#64, 0#64, 0#64, 0#64, 0#64⟩
/-- The outcome so far: at first the one as it is laid. -/
def ovP : Option W6 → W6
  | none => numOne
  | some w => w
/-- A power, from bit k - 1 down. -/
def powR (t : PO) (f : Fa) (a e : W6) : Nat → Option W6 → Option W6
  | 0, o => o
  | k + 1, o => powR t f a e k (some (bif t.bt e (k : Int) == 1 then t.mu f (t.mu f (ovP o) (ovP o)) a else t.mu f (ovP o) (ovP o)))

theorem rlenL_le (B : W6 → Int → Int) (a : W6) : ∀ (k : Nat), k ≤ 384 → ∀ c x, (c, x) ∈ rlenL B a k → 0 ≤ x ∧ x ≤ 384
  | 0, _, c, x, h => by simp [rlenL] at h
  | k + 1, hk, c, x, h => by
    simp only [rlenL, List.mem_cons, Prod.mk.injEq] at h
    rcases h with ⟨-, rfl⟩ | h
    · omega
    · exact rlenL_le B a k (by omega) c x h
theorem rlenI_le (a : W6) : 0 ≤ rlenI a ∧ rlenI a ≤ 384 := chainV_mem (Q := fun x => 0 ≤ x ∧ x ≤ 384) (rlenL_le bitI a 384 (Nat.le_refl _)) (by omega)

def rpoO : PO := ⟨rmulW, rlenI, bitI⟩
def rpowO (f : Fa) (a e : W6) : Option W6 := powR rpoO f a e (rlenI e).toNat none
def rpowW (f : Fa) (a e : W6) : W6 := ovP (rpowO f a e)

/-! The inverse. -/
def numTwo : W6 := ⟨2#64, 0#64, 0#64, 0#64, 0#64, 0#64⟩
def rinvW (f : Fa) (a : W6) : W6 := rpowW f a (rsubW f.1 numTwo).1
end Go.Rq

/- The curves' functions on told points: kernel checks, the called functions left open. Written by a program of ours. -/
namespace Go.Rq
open Go Go.Proofs

set_option maxRecDepth 100000 in
theorem below_run (C : W6 → W6 → Int) (b : W6) (a : W6) : (afunR PR (envOf eqsT [(45, fn2 c6.agg c6.agg (kInt .i64) C), (141, fn0 c6.agg b)]) [] (fun _ => none) 40 156 [c6.agg.enc a]).strict =
    .leaf (kBool.enc (decide (C a b < 0))) := by kernel_rfl
set_option maxRecDepth 100000 in
theorem first_run (to : W6 → W6) (one : W6) (of : BitVec 64 → W6) : (afunR PR (envOf eqsT [(162, fn0 c6.agg one), (157, fn1 c6.agg c6.agg to), (27, fn1 kU c6.agg of)]) [] (fun _ => none) 40 122 []).strict =
    .leaf (flW.agg.enc ⟨one, to (of 4#64)⟩) := by kernel_rfl
set_option maxRecDepth 100000 in
theorem in1_run (to : W6 → W6) (p : Ap W6) : (afunR PR (envOf eqsT [(157, fn1 c6.agg c6.agg to)]) [] (fun _ => none) 40 121 [aW.agg.enc p]).strict =
    .leaf (aW.agg.enc ⟨to p.x, to p.y, p.zero⟩) := by kernel_rfl
set_option maxRecDepth 100000 in
theorem out1_run (fr : W6 → W6) (p : Ap W6) : (afunR PR (envOf eqsT [(168, fn1 c6.agg c6.agg fr)]) [] (fun _ => none) 40 124 [aW.agg.enc p]).strict =
    .leaf (aW.agg.enc ⟨fr p.x, fr p.y, p.zero⟩) := by kernel_rfl
set_option maxRecDepth 100000 in
theorem below1_run (l : W6 → Bool) (p : Ap W6) : (afunR PR (envOf eqsT [(156, fn1 c6.agg kBool l)]) [6] (fun _ => none) 40 120 [aW.agg.enc p]).strict =
    .br (l p.x) (.leaf (kBool.enc (l p.y))) (.leaf (.lit false)) := by kernel_rfl


set_option maxRecDepth 100000 in
theorem isW_run (on : Fl W6 → Ap W6 → Bool) (ra : Fl W6 → Ap W6 → Jp W6) (od : W6) (tm : Fl W6 → Jp W6 → W6 → Jp W6) (lo : Fl W6 → Jp W6 → Ap W6) (f : Fl W6) (p : Ap W6) :
    (afunR PR (envOf eqsT [(163, fn2 flW.agg aW.agg kBool on), (166, fn2 flW.agg aW.agg jW.agg ra), (115, fn0 c6.agg od),
      (165, fn3 flW.agg jW.agg c6.agg jW.agg tm), (167, fn2 flW.agg jW.agg aW.agg lo)]) [8] (fun _ => none) 40 149 [flW.agg.enc f, aW.agg.enc p]).strict =
    .br (on f p) (.leaf (kBool.enc (lo f (tm f (ra f p) od)).zero)) (.leaf (.lit false)) := by kernel_rfl
set_option maxRecDepth 100000 in
theorem check1_run (l : Ap W6 → Bool) (fi : Fl W6) (inn : Ap W6 → Ap W6) (on : Fl W6 → Ap W6 → Bool) (p : Ap W6) :
    (afunR PR (envOf eqsT [(120, fn1 aW.agg kBool l), (122, fn0 flW.agg fi), (121, fn1 aW.agg aW.agg inn), (163, fn2 flW.agg aW.agg kBool on)]) [5] (fun _ => none) 40 131 [aW.agg.enc p]).strict =
    .br (l p) (.leaf (kBool.enc (on fi (inn p)))) (.leaf (.lit false)) := by kernel_rfl
set_option maxRecDepth 100000 in
theorem isin1_run (l : Ap W6 → Bool) (fi : Fl W6) (inn : Ap W6 → Ap W6) (on : Fl W6 → Ap W6 → Bool) (p : Ap W6) :
    (afunR PR (envOf eqsT [(120, fn1 aW.agg kBool l), (122, fn0 flW.agg fi), (121, fn1 aW.agg aW.agg inn), (149, fn2 flW.agg aW.agg kBool on)]) [5] (fun _ => none) 40 109 [aW.agg.enc p]).strict =
    .br (l p) (.leaf (kBool.enc (on fi (inn p)))) (.leaf (.lit false)) := by kernel_rfl


end Go.Rq

/- The curves' functions on told points: contracts. Written by a program of ours. -/
namespace Go.Rq
open Go Go.Proofs

def belowI (a : W6) : Bool := decide (chainV (cmpL a primeW) 0 < 0)
def fld1 : Fl W6 := ⟨oneW, toW (ofW 4#64)⟩
def inP1 (p : Ap W6) : Ap W6 := ⟨toW p.x, toW p.y, p.zero⟩
def outP1 (p : Ap W6) : Ap W6 := ⟨fromW p.x, fromW p.y, p.zero⟩
def tt_below : PureTab := [(45, fn2 c6.agg c6.agg (kInt .i64) fun a b => chainV (cmpL a b) 0), (141, fn0 c6.agg primeW)]
theorem tt_below_ok : TabPOk PR tt_below := TabPOk.cons cmp_ok (TabPOk.cons base_ok (TabPOk.nil))
theorem below_ctx : Ctx PR (envOf eqsT tt_below) [] (fun _ => none) 40 156 :=
  ctx_of (envOf_ok eqsT_ok tt_below_ok) mixed (fn := Tryz.f156) (by kernel_rfl) (by kernel_rfl) (by kernel_rfl) (tabOk_none _)
theorem below_ok : CallOk PR 156 (fn1 c6.agg kBool belowI) :=
  .inl ⟨enters_of (fn := Tryz.f156) (by kernel_rfl) (by kernel_rfl) (by kernel_rfl), pure1 below_ctx (fun a => leafVal (B := kBool) (y := belowI a) (below_run (fun a b => chainV (cmpL a b) 0) primeW a))⟩

def tt_first : PureTab := [(162, fn0 c6.agg oneW), (157, fn1 c6.agg c6.agg toW), (27, fn1 kU c6.agg ofW)]
theorem tt_first_ok : TabPOk PR tt_first := TabPOk.cons one_ok (TabPOk.cons mto_ok (TabPOk.cons of_ok (TabPOk.nil)))
theorem first_ctx : Ctx PR (envOf eqsT tt_first) [] (fun _ => none) 40 122 :=
  ctx_of (envOf_ok eqsT_ok tt_first_ok) mixed (fn := Tryz.f122) (by kernel_rfl) (by kernel_rfl) (by kernel_rfl) (tabOk_none _)
theorem first_ok : CallOk PR 122 (fn0 flW.agg fld1) :=
  .inl ⟨enters_of (fn := Tryz.f122) (by kernel_rfl) (by kernel_rfl) (by kernel_rfl), pure0 first_ctx (leafVal (B := flW.agg) (y := fld1) (first_run toW oneW ofW))⟩

def tt_inp1 : PureTab := [(157, fn1 c6.agg c6.agg toW)]
theorem tt_inp1_ok : TabPOk PR tt_inp1 := TabPOk.cons mto_ok (TabPOk.nil)
theorem inp1_ctx : Ctx PR (envOf eqsT tt_inp1) [] (fun _ => none) 40 121 :=
  ctx_of (envOf_ok eqsT_ok tt_inp1_ok) mixed (fn := Tryz.f121) (by kernel_rfl) (by kernel_rfl) (by kernel_rfl) (tabOk_none _)
theorem inp1_ok : CallOk PR 121 (fn1 aW.agg aW.agg inP1) :=
  .inl ⟨enters_of (fn := Tryz.f121) (by kernel_rfl) (by kernel_rfl) (by kernel_rfl), pure1 inp1_ctx (fun p => leafVal (B := aW.agg) (y := inP1 p) (in1_run toW p))⟩

def tt_outp1 : PureTab := [(168, fn1 c6.agg c6.agg fromW)]
theorem tt_outp1_ok : TabPOk PR tt_outp1 := TabPOk.cons mfrom_ok (TabPOk.nil)
theorem outp1_ctx : Ctx PR (envOf eqsT tt_outp1) [] (fun _ => none) 40 124 :=
  ctx_of (envOf_ok eqsT_ok tt_outp1_ok) mixed (fn := Tryz.f124) (by kernel_rfl) (by kernel_rfl) (by kernel_rfl) (tabOk_none _)
theorem outp1_ok : CallOk PR 124 (fn1 aW.agg aW.agg outP1) :=
  .inl ⟨enters_of (fn := Tryz.f124) (by kernel_rfl) (by kernel_rfl) (by kernel_rfl), pure1 outp1_ctx (fun p => leafVal (B := aW.agg) (y := outP1 p) (out1_run fromW p))⟩

def belowP1 (p : Ap W6) : Bool := bif belowI p.x then belowI p.y else false

def tt_belowp1 : PureTab := [(156, fn1 c6.agg kBool belowI)]
theorem tt_belowp1_ok : TabPOk PR tt_belowp1 := TabPOk.cons below_ok (TabPOk.nil)
theorem belowp1_ctx : Ctx PR (envOf eqsT tt_belowp1) [6] (fun _ => none) 40 120 :=
  ctx_of (envOf_ok eqsT_ok tt_belowp1_ok) mixed (fn := Tryz.f120) (by kernel_rfl) (by kernel_rfl) (by kernel_rfl) (tabOk_none _)
theorem belowp1_ok : CallOk PR 120 (fn1 aW.agg kBool belowP1) :=
  .inl ⟨enters_of (fn := Tryz.f120) (by kernel_rfl) (by kernel_rfl) (by kernel_rfl), pure1 belowp1_ctx (fun p => givesOf (below1_run belowI p) (holds_br (B := kBool) (holds_leaf (kBool.h1 _)) (holds_leaf (a := .lit false) (v := kBool.val false) rfl)))⟩

def lowFW : Fl W6 → Jp W6 → Ap W6 := fun _ p => lowerE fW eqW p
theorem lowFW_ok : CallOk PR 167 (fn2 flW.agg jW.agg aW.agg lowFW) := loW_ok
def inGW (on : Fl W6 → Ap W6 → Bool) (ra : Fl W6 → Ap W6 → Jp W6) (od : W6) (tm : Fl W6 → Jp W6 → W6 → Jp W6) (lo : Fl W6 → Jp W6 → Ap W6) (f : Fl W6) (p : Ap W6) : Bool := bif on f p then (lo f (tm f (ra f p) od)).zero else false
theorem inGW_gives (on : Fl W6 → Ap W6 → Bool) (ra : Fl W6 → Ap W6 → Jp W6) (od : W6) (tm : Fl W6 → Jp W6 → W6 → Jp W6) (lo : Fl W6 → Jp W6 → Ap W6) (f : Fl W6) (p : Ap W6) {t : Tree AV}
    (h : t.strict = .br (on f p) (.leaf (kBool.enc (lo f (tm f (ra f p) od)).zero)) (.leaf (.lit false))) : Gives t (kBool.val (inGW on ra od tm lo f p)) :=
  givesOf h (holds_br (B := kBool) (holds_leaf (kBool.h1 _)) (holds_leaf (a := .lit false) (v := kBool.val false) rfl))
def inEW : Fl W6 → Ap W6 → Bool := inGW (onE fW eqW) (raiseJ fW) orderW timesW lowFW

def tt_isW : PureTab := [(163, fn2 flW.agg aW.agg kBool (onE fW eqW)), (166, fn2 flW.agg aW.agg jW.agg (raiseJ fW)), (115, fn0 c6.agg orderW), (165, fn3 flW.agg jW.agg c6.agg jW.agg timesW), (167, fn2 flW.agg jW.agg aW.agg lowFW)]
theorem tt_isW_ok : TabPOk PR tt_isW := TabPOk.cons onW_ok (TabPOk.cons raW_ok (TabPOk.cons order_ok (TabPOk.cons tm_okW (TabPOk.cons lowFW_ok (TabPOk.nil)))))
theorem isW_ctx : Ctx PR (envOf eqsT tt_isW) [8] (fun _ => none) 40 149 :=
  ctx_of (envOf_ok eqsT_ok tt_isW_ok) mixed (fn := Tryz.f149) (by kernel_rfl) (by kernel_rfl) (by kernel_rfl) (tabOk_none _)
theorem isW_ok : CallOk PR 149 (fn2 flW.agg aW.agg kBool inEW) :=
  .inl ⟨enters_of (fn := Tryz.f149) (by kernel_rfl) (by kernel_rfl) (by kernel_rfl), pure2 isW_ctx (fun f p => inGW_gives (onE fW eqW) (raiseJ fW) orderW timesW lowFW f p (isW_run (onE fW eqW) (raiseJ fW) orderW timesW lowFW f p))⟩

def checkP1 (p : Ap W6) : Bool := bif belowP1 p then onE fW eqW fld1 (inP1 p) else false
def inGroup1 (p : Ap W6) : Bool := bif belowP1 p then inEW fld1 (inP1 p) else false

def tt_checkp1 : PureTab := [(120, fn1 aW.agg kBool belowP1), (122, fn0 flW.agg fld1), (121, fn1 aW.agg aW.agg inP1), (163, fn2 flW.agg aW.agg kBool (onE fW eqW))]
theorem tt_checkp1_ok : TabPOk PR tt_checkp1 := TabPOk.cons belowp1_ok (TabPOk.cons first_ok (TabPOk.cons inp1_ok (TabPOk.cons onW_ok (TabPOk.nil))))
theorem checkp1_ctx : Ctx PR (envOf eqsT tt_checkp1) [5] (fun _ => none) 40 131 :=
  ctx_of (envOf_ok eqsT_ok tt_checkp1_ok) mixed (fn := Tryz.f131) (by kernel_rfl) (by kernel_rfl) (by kernel_rfl) (tabOk_none _)
theorem checkp1_ok : CallOk PR 131 (fn1 aW.agg kBool checkP1) :=
  .inl ⟨enters_of (fn := Tryz.f131) (by kernel_rfl) (by kernel_rfl) (by kernel_rfl), pure1 checkp1_ctx (fun p => givesOf (check1_run belowP1 fld1 inP1 (onE fW eqW) p) (holds_br (B := kBool) (holds_leaf (kBool.h1 _)) (holds_leaf (a := .lit false) (v := kBool.val false) rfl)))⟩

def tt_isinp1 : PureTab := [(120, fn1 aW.agg kBool belowP1), (122, fn0 flW.agg fld1), (121, fn1 aW.agg aW.agg inP1), (149, fn2 flW.agg aW.agg kBool inEW)]
theorem tt_isinp1_ok : TabPOk PR tt_isinp1 := TabPOk.cons belowp1_ok (TabPOk.cons first_ok (TabPOk.cons inp1_ok (TabPOk.cons isW_ok (TabPOk.nil))))
theorem isinp1_ctx : Ctx PR (envOf eqsT tt_isinp1) [5] (fun _ => none) 40 109 :=
  ctx_of (envOf_ok eqsT_ok tt_isinp1_ok) mixed (fn := Tryz.f109) (by kernel_rfl) (by kernel_rfl) (by kernel_rfl) (tabOk_none _)
theorem isinp1_ok : CallOk PR 109 (fn1 aW.agg kBool inGroup1) :=
  .inl ⟨enters_of (fn := Tryz.f109) (by kernel_rfl) (by kernel_rfl) (by kernel_rfl), pure1 isinp1_ctx (fun p => givesOf (isin1_run belowP1 fld1 inP1 inEW p) (holds_br (B := kBool) (holds_leaf (kBool.h1 _)) (holds_leaf (a := .lit false) (v := kBool.val false) rfl)))⟩

end Go.Rq

/- The reference's points by two numbers: contracts. -/
namespace Go.Rq
open Go Go.Proofs

/-- The reference's field, left open. -/
structure RO where
  fp : Fa
  mu : Fa → W6 → W6 → W6
  ad : Fa → W6 → W6 → W6
  sb : Fa → W6 → W6 → W6
  ne : Fa → W6 → W6
  iv : Fa → W6 → W6
def roO : RO := ⟨fastP, rmulW, rfadd, rfsub, rfneg, rinvW⟩
def rsideG (t : RO) (x : W6) : W6 := t.ad t.fp (t.mu t.fp (t.mu t.fp x x) x) (ofW 4#64)
/-! Is it a point? -/
def rcheckG (t : RO) (bl : W6 → Bool) (sd : W6 → W6) (p : Ap W6) : Bool := bif p.zero then (bif eqW p.x zeroW then eqW p.y zeroW else false) else bif bl p.x then (bif bl p.y then eqW (t.mu t.fp p.y p.y) (sd p.x) else false) else false
def rcheck1 : Ap W6 → Bool := rcheckG roO belowI (rsideG roO)
/-! The negated one. -/
def rneg1G (t : RO) (p : Ap W6) : Ap W6 := ⟨p.x, t.ne t.fp p.y, p.zero⟩
/-! The sum by the slope. -/
def eqP13 (a b : Ap W6) : Bool := (a.x.w0 == b.x.w0) && ((a.x.w1 == b.x.w1) && ((a.x.w2 == b.x.w2) && ((a.x.w3 == b.x.w3) && ((a.x.w4 == b.x.w4) && ((a.x.w5 == b.x.w5) &&
  ((a.y.w0 == b.y.w0) && ((a.y.w1 == b.y.w1) && ((a.y.w2 == b.y.w2) && ((a.y.w3 == b.y.w3) && ((a.y.w4 == b.y.w4) && ((a.y.w5 == b.y.w5) && ((a.zero == b.zero) && true))))))))))))
def rslope1 (t : RO) (a : Ap W6) : W6 := t.mu t.fp (t.ad t.fp (t.ad t.fp (t.mu t.fp a.x a.x) (t.mu t.fp a.x a.x)) (t.mu t.fp a.x a.x)) (t.iv t.fp (t.ad t.fp a.y a.y))
def rslope2 (t : RO) (a b : Ap W6) : W6 := t.mu t.fp (t.sb t.fp b.y a.y) (t.iv t.fp (t.sb t.fp b.x a.x))
def rchord (t : RO) (a b : Ap W6) (m : W6) : Ap W6 :=
  let x := t.sb t.fp (t.sb t.fp (t.mu t.fp m m) a.x) b.x
  ⟨x, t.sb t.fp (t.mu t.fp m (t.sb t.fp a.x x)) a.y, false⟩
def radd1G (t : RO) (N : Ap W6 → Ap W6) (a b : Ap W6) : Ap W6 := bif a.zero then b else bif b.zero then a else bif eqP13 a (N b) then ⟨zeroW, zeroW, true⟩ else bif eqP13 a b then rchord t a b (rslope1 t a) else rchord t a b (rslope2 t a b)
def radd1 : Ap W6 → Ap W6 → Ap W6 := radd1G roO (rneg1G roO)
/-! The generator. -/
end Go.Rq

/- The reference's sum and difference are the program's. -/
namespace Go.Rq
open Go Go.Proofs

theorem raC_eq (x y : BitVec 64) (c : Bool) : raC x y (bitW c) = bitW (add64 x y c).2 := by
  have hx := x.isLt
  have hy := y.isLt
  have hc := b2n_le c
  have e : (bif BitVec.ult (x + y + bitW c) (x + y) then true else BitVec.ult (x + y) x) = (add64 x y c).2 := by
    have e2 : (add64 x y c).2 = decide (18446744073709551616 ≤ x.toNat + y.toNat + b2n c) := rfl
    have e3 : (x + y + bitW c).toNat = ((x.toNat + y.toNat) % 18446744073709551616 + b2n c) % 18446744073709551616 := by rw [BitVec.toNat_add, BitVec.toNat_add, bitW_nat]
    have e4 : (x + y).toNat = (x.toNat + y.toNat) % 18446744073709551616 := BitVec.toNat_add x y
    rw [e2]
    unfold BitVec.ult
    rw [e3, e4]
    rw [Bool.eq_iff_iff, decide_eq_true_eq]
    by_cases h : ((x.toNat + y.toNat) % 18446744073709551616 + b2n c) % 18446744073709551616 < (x.toNat + y.toNat) % 18446744073709551616
    · rw [decide_eq_true h, cond_true]
      constructor
      · intro _; omega
      · intro _; rfl
    · rw [decide_eq_false h, cond_false, decide_eq_true_eq]
      omega
  unfold raC
  rw [e]
  cases (add64 x y c).2 <;> rfl

theorem rsC_eq (x y : BitVec 64) (c : Bool) : rsC x y (bitW c) = bitW (sub64 x y c).2 := by
  have hx := x.isLt
  have hy := y.isLt
  have hc := b2n_le c
  have e : (bif BitVec.ult (x - y) (bitW c) then true else BitVec.ult x y) = (sub64 x y c).2 := by
    have e2 : (sub64 x y c).2 = decide (x.toNat < y.toNat + b2n c) := rfl
    have e4 : (x - y).toNat = (18446744073709551616 - y.toNat + x.toNat) % 18446744073709551616 := BitVec.toNat_sub x y
    rw [e2]
    unfold BitVec.ult
    rw [e4, bitW_nat]
    rw [Bool.eq_iff_iff, decide_eq_true_eq]
    by_cases h : (18446744073709551616 - y.toNat + x.toNat) % 18446744073709551616 < b2n c
    · rw [decide_eq_true h, cond_true]
      constructor
      · intro _; omega
      · intro _; rfl
    · rw [decide_eq_false h, cond_false, decide_eq_true_eq]
      omega
  unfold rsC
  rw [e]
  cases (sub64 x y c).2 <;> rfl

theorem bitW_beq (c : Bool) : (bitW c == bitW true) = c := by cases c <;> rfl

theorem raddW_eq (a b : W6) : raddW a b = adds a b := by
  simp only [raddW, raC_eq, bitW_beq, adds]
  rfl

theorem rsubW_eq (a b : W6) : rsubW a b = subs a b := by
  simp only [rsubW, rsC_eq, bitW_beq, subs]
  rfl
end Go.Rq
