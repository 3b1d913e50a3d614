/- The curves' multiples: contracts. Written by a program of ours. -/
import Derived.Test.YtdbcjiggimppdaaGreatRq13
import Derived.Test.YtdbcjiggimppdaaGreatRq08
namespace Go.Rq
open Go Go.Proofs

theorem tm_law {K : Type} (t : TO K) (f : Fl K) (p : Jp K) (n : W6) (rt : XS → Tree (AExit × XS)) (I : Int × Jp K → XS) (hr : ∀ (z : Int) (out : Jp K), (rt (I (z, out))).strict =
    .br (decide (z ≥ 0))
      (.br (t.bt n z == 1)
        (.leaf (.normal, I (IntKind.i64.wrap (z - 1), t.su f (t.tw f out) p)))
        (.leaf (.normal, I (IntKind.i64.wrap (z - 1), t.tw f out))))
      (.leaf (.exit 0, I (z, out)))) {R : Jp K} {Q : AExit → XS → Prop} (hK : Q .normal (I (-1, R))) :
    ∀ d : Int × Jp K, (-1 ≤ d.1 ∧ d.1 ≤ 383 ∧ timesG t f p n (d.1 + 1).toNat d.2 = R) → (rt (I d)).holds (fun r => match r.1 with
      | .normal => ∃ j : Int × Jp K, (-1 ≤ j.1 ∧ j.1 ≤ 383 ∧ timesG t f p n (j.1 + 1).toNat j.2 = R) ∧ (j.1 + 1).toNat < (d.1 + 1).toNat ∧ r.2 = I j
      | .exit q => if q = 0 then Q .normal r.2 else Q (.exit q) r.2
      | .ret => Q .ret r.2) := by
  rintro ⟨z, out⟩ ⟨h0, h1, h2⟩
  apply Tree.holds_strict
  rw [hr]
  refine ⟨fun hz => ?_, fun hz => ?_⟩
  · have hz : 0 ≤ z := by simpa using hz
    have hw : IntKind.i64.wrap (z - 1) = z - 1 := wrap_id (by omega) (by omega)
    have hk : (z + 1).toNat = z.toNat + 1 := by omega
    simp only at h2
    rw [hk] at h2
    simp only [timesG] at h2
    rw [show ((z.toNat : Nat) : Int) = z by omega] at h2
    have hk' : (z - 1 + 1).toNat = z.toNat := by omega
    refine ⟨fun hb => ⟨⟨z - 1, t.su f (t.tw f out) p⟩, ⟨by simp only; omega, by simp only; omega, ?_⟩, ?_, ?_⟩, fun hb => ⟨⟨z - 1, t.tw f out⟩, ⟨by simp only; omega, by simp only; omega, ?_⟩, ?_, ?_⟩⟩
    · rw [hb] at h2
      simp only [hk']
      exact h2
    · show (z - 1 + 1).toNat < (z + 1).toNat
      omega
    · rw [hw]
    · rw [hb] at h2
      simp only [hk']
      exact h2
    · show (z - 1 + 1).toNat < (z + 1).toNat
      omega
    · rw [hw]
  · have hz : z = -1 := by
      have : ¬ 0 ≤ z := by simpa using hz
      omega
    subst hz
    have h2 : out = R := h2
    show (if (0 : Nat) = 0 then Q .normal (I (-1, out)) else Q (.exit 0) (I (-1, out)))
    rw [if_pos rfl, h2]
    exact hK

theorem chainV_mem {β : Type} {l : List (Bool × β)} {y : β} {Q : β → Prop} (h : ∀ c x, (c, x) ∈ l → Q x) (hy : Q y) : Q (chainV l y) := by
  induction l with
  | nil => exact hy
  | cons p t ih =>
    obtain ⟨c, x⟩ := p
    simp only [chainV]
    cases c with
    | true => exact h true x (List.mem_cons_self ..)
    | false => exact ih fun c x hm => h c x (List.mem_cons_of_mem _ hm)

theorem lenI_le (a : W6) : 0 ≤ lenI a ∧ lenI a ≤ 384 := by
  have b : ∀ x : BitVec 64, bl x.toNat ≤ 64 := fun x => bl_spec.2 x.isLt
  have g : ∀ (k : Int) (x : BitVec 64), 0 ≤ k → k ≤ 320 → 0 ≤ IntKind.i64.wrap (k + ((bl x.toNat : Nat) : Int)) ∧ IntKind.i64.wrap (k + ((bl x.toNat : Nat) : Int)) ≤ 384 := by
    intro k x h1 h2
    have := b x
    rw [wrap_id (by omega) (by omega)]
    omega
  unfold lenI lenL
  refine chainV_mem (Q := fun x => 0 ≤ x ∧ x ≤ 384) (fun c x h => ?_) (by omega)
  simp only [List.mem_cons, Prod.mk.injEq, List.not_mem_nil, or_false] at h
  rcases h with ⟨-, rfl⟩ | ⟨-, rfl⟩ | ⟨-, rfl⟩ | ⟨-, rfl⟩ | ⟨-, rfl⟩ | ⟨-, rfl⟩ <;> exact g _ _ (by omega) (by omega)


@[irreducible] noncomputable def tmBW (t : TO W6) (f : Fl W6) (p : Jp W6) (n : W6) (r : Jp W6) : BEnt := ⟨tmKW.tm, tmKW.ids, tmKW.n, tmXW t f p n, .leaf (.normal, tmIW t f p n (-1, r))⟩
set_option maxRecDepth 100000 in
theorem tm_runW (t : TO W6) (f : Fl W6) (p : Jp W6) (n : W6) (r : Jp W6) : (afunR PR (tmEW t) [18, 27] (tabOf [(0, tmBW t f p n r)]) 10 137 [flW.agg.enc f, jW.agg.enc p, c6.agg.enc n]).strict =
    .same (tmXW t f p n) (tmXW t f p n) (.leaf (jW.agg.enc r)) := by kernel_rfl
set_option maxRecDepth 100000 in
theorem tm_headW (t : TO W6) (f : Fl W6) (p : Jp W6) (n : W6) : tmXW t f p n = tmIW t f p n (IntKind.i64.wrap (t.ln n - 1), ⟨f.one, f.one, zeroW⟩) := by kernel_rfl
theorem tm_blkW : blkAll 0 (bodyOf PR 137) = [.loop tmCW] := by kernel_rfl
def tmOW : TO W6 := ⟨fun _ p => twiceJ fW p, sumE fW eqW, lenI, bitI⟩
theorem tmT_eqW : [(179, fn2 flW.agg jW.agg jW.agg (fun _ p => twiceJ fW p)), (181, fn3 flW.agg jW.agg jW.agg jW.agg (sumE fW eqW)),
  (169, fn1 c6.agg (kInt .i64) lenI), (180, fn2 c6.agg (kInt .i64) (kInt .i64) bitI)] = tmTW tmOW := by kernel_rfl
theorem tmT_okW : TabPOk PR (tmTW tmOW) := Eq.subst (motive := TabPOk PR) tmT_eqW (TabPOk.cons twW_ok (TabPOk.cons suW_ok (TabPOk.cons len_ok (TabPOk.cons bit_ok TabPOk.nil))))
theorem tmE_okW : EnvOk PR (tmEW tmOW) := envOf_ok eqsT_ok tmT_okW
theorem tm_codeOkW : codeOk (tmEW tmOW) tmCW = true := by kernel_rfl
def timesW (f : Fl W6) (p : Jp W6) (n : W6) : Jp W6 := timesG tmOW f p n (lenI n).toNat ⟨f.one, f.one, zeroW⟩

theorem tm_startW (f : Fl W6) (p : Jp W6) (n : W6) : ∀ d : Int × Jp W6, d = (IntKind.i64.wrap (tmOW.ln n - 1), ⟨f.one, f.one, zeroW⟩) → -1 ≤ d.1 ∧ d.1 ≤ 383 ∧ timesG tmOW f p n (d.1 + 1).toNat d.2 = timesW f p n := by
  rintro d rfl
  have hl := lenI_le n
  have hw : IntKind.i64.wrap (tmOW.ln n - 1) = lenI n - 1 := wrap_id (n := lenI n - 1) (by omega) (by omega)
  rw [hw]
  refine ⟨?_, ?_, ?_⟩
  · show -1 ≤ lenI n - 1
    omega
  · show lenI n - 1 ≤ 383
    omega
  · show timesG tmOW f p n (lenI n - 1 + 1).toNat _ = timesG tmOW f p n (lenI n).toNat _
    rw [show lenI n - 1 + 1 = lenI n by omega]

theorem tm_loopW (f : Fl W6) (p : Jp W6) (n : W6) {Fr0 : Fr} {ds : List Deferred} {Q : AExit → XS → Prop} (hK : Q .normal (tmIW tmOW f p n (-1, timesW f p n))) :
    Tri PR Fr0 ds 0 (.block 0 (.loop tmCW)) (tmXW tmOW f p n) Q :=
  Eq.subst (motive := fun y => Tri PR Fr0 ds 0 (.block 0 (.loop tmCW)) y Q) (tm_headW tmOW f p n).symm <| blockLoop (m := 0) tmE_okW mixed (sym := [18, 27]) (tab := fun _ => none) (lf := 10) (k := tmKW) (kx := tmKW) (kr := tmKW) (Nat.zero_le _) (Nat.zero_le _) (Nat.zero_le _) tm_codeOkW (tabOk_none _)
    (tmIW tmOW f p n) (fun d => -1 ≤ d.1 ∧ d.1 ≤ 383 ∧ timesG tmOW f p n (d.1 + 1).toNat d.2 = timesW f p n) (fun d => (d.1 + 1).toNat) _ (tm_startW f p n _ rfl)
    (tm_law tmOW f p n _ (tmIW tmOW f p n) (tm_roundW tmOW f p n) hK)

theorem tmB_nW (t : TO W6) (f : Fl W6) (p : Jp W6) (n : W6) (r : Jp W6) : (tmBW t f p n r).n = 15 ∧ (tmBW t f p n r).pre = tmXW t f p n ∧ (tmBW t f p n r).post = .leaf (.normal, tmIW t f p n (-1, r)) := by
  unfold tmBW
  exact ⟨rfl, rfl, rfl⟩

theorem tm_ctxW (f : Fl W6) (p : Jp W6) (n : W6) : Ctx PR (tmEW tmOW) [18, 27] (tabOf [(0, tmBW tmOW f p n (timesW f p n))]) 10 137 :=
  ctx_of tmE_okW mixed (fn := Tryz.f137) (by kernel_rfl) (by kernel_rfl) (by kernel_rfl)
    (tabOk_one (Nat.zero_le _) tm_blkW fun Fr0 ds Q h => by
      obtain ⟨-, h2, h3⟩ := tmB_nW tmOW f p n (timesW f p n)
      rw [h3] at h
      rw [h2]
      exact tm_loopW f p n h)

theorem tm_okW : CallOk PR 137 (fn3 flW.agg jW.agg c6.agg jW.agg timesW) :=
  .inl ⟨enters_of (fn := Tryz.f137) (by kernel_rfl) (by kernel_rfl) (by kernel_rfl),
    pure3X fun f p n => .of (tm_ctxW f p n) (sameVal (tm_runW tmOW f p n (timesW f p n)))⟩


@[irreducible] noncomputable def tmBD (t : TO D6) (f : Fl D6) (p : Jp D6) (n : W6) (r : Jp D6) : BEnt := ⟨tmKD.tm, tmKD.ids, tmKD.n, tmXD t f p n, .leaf (.normal, tmID t f p n (-1, r))⟩
set_option maxRecDepth 100000 in
theorem tm_runD (t : TO D6) (f : Fl D6) (p : Jp D6) (n : W6) (r : Jp D6) : (afunR PR (tmED t) [18, 27] (tabOf [(0, tmBD t f p n r)]) 10 145 [flD.agg.enc f, jD.agg.enc p, c6.agg.enc n]).strict =
    .same (tmXD t f p n) (tmXD t f p n) (.leaf (jD.agg.enc r)) := by kernel_rfl
set_option maxRecDepth 100000 in
theorem tm_headD (t : TO D6) (f : Fl D6) (p : Jp D6) (n : W6) : tmXD t f p n = tmID t f p n (IntKind.i64.wrap (t.ln n - 1), ⟨f.one, f.one, zero2⟩) := by kernel_rfl
theorem tm_blkD : blkAll 0 (bodyOf PR 145) = [.loop tmCD] := by kernel_rfl
def tmOD : TO D6 := ⟨fun _ p => twiceJ fD p, sumE fD eqD, lenI, bitI⟩
theorem tmT_eqD : [(184, fn2 flD.agg jD.agg jD.agg (fun _ p => twiceJ fD p)), (148, fn3 flD.agg jD.agg jD.agg jD.agg (sumE fD eqD)),
  (169, fn1 c6.agg (kInt .i64) lenI), (180, fn2 c6.agg (kInt .i64) (kInt .i64) bitI)] = tmTD tmOD := by kernel_rfl
theorem tmT_okD : TabPOk PR (tmTD tmOD) := Eq.subst (motive := TabPOk PR) tmT_eqD (TabPOk.cons twD_ok (TabPOk.cons suD_ok (TabPOk.cons len_ok (TabPOk.cons bit_ok TabPOk.nil))))
theorem tmE_okD : EnvOk PR (tmED tmOD) := envOf_ok eqsT_ok tmT_okD
theorem tm_codeOkD : codeOk (tmED tmOD) tmCD = true := by kernel_rfl
def timesD (f : Fl D6) (p : Jp D6) (n : W6) : Jp D6 := timesG tmOD f p n (lenI n).toNat ⟨f.one, f.one, zero2⟩

theorem tm_startD (f : Fl D6) (p : Jp D6) (n : W6) : ∀ d : Int × Jp D6, d = (IntKind.i64.wrap (tmOD.ln n - 1), ⟨f.one, f.one, zero2⟩) → -1 ≤ d.1 ∧ d.1 ≤ 383 ∧ timesG tmOD f p n (d.1 + 1).toNat d.2 = timesD f p n := by
  rintro d rfl
  have hl := lenI_le n
  have hw : IntKind.i64.wrap (tmOD.ln n - 1) = lenI n - 1 := wrap_id (n := lenI n - 1) (by omega) (by omega)
  rw [hw]
  refine ⟨?_, ?_, ?_⟩
  · show -1 ≤ lenI n - 1
    omega
  · show lenI n - 1 ≤ 383
    omega
  · show timesG tmOD f p n (lenI n - 1 + 1).toNat _ = timesG tmOD f p n (lenI n).toNat _
    rw [show lenI n - 1 + 1 = lenI n by omega]

theorem tm_loopD (f : Fl D6) (p : Jp D6) (n : W6) {Fr0 : Fr} {ds : List Deferred} {Q : AExit → XS → Prop} (hK : Q .normal (tmID tmOD f p n (-1, timesD f p n))) :
    Tri PR Fr0 ds 0 (.block 0 (.loop tmCD)) (tmXD tmOD f p n) Q :=
  Eq.subst (motive := fun y => Tri PR Fr0 ds 0 (.block 0 (.loop tmCD)) y Q) (tm_headD tmOD f p n).symm <| blockLoop (m := 0) tmE_okD mixed (sym := [18, 27]) (tab := fun _ => none) (lf := 10) (k := tmKD) (kx := tmKD) (kr := tmKD) (Nat.zero_le _) (Nat.zero_le _) (Nat.zero_le _) tm_codeOkD (tabOk_none _)
    (tmID tmOD f p n) (fun d => -1 ≤ d.1 ∧ d.1 ≤ 383 ∧ timesG tmOD f p n (d.1 + 1).toNat d.2 = timesD f p n) (fun d => (d.1 + 1).toNat) _ (tm_startD f p n _ rfl)
    (tm_law tmOD f p n _ (tmID tmOD f p n) (tm_roundD tmOD f p n) hK)

theorem tmB_nD (t : TO D6) (f : Fl D6) (p : Jp D6) (n : W6) (r : Jp D6) : (tmBD t f p n r).n = 15 ∧ (tmBD t f p n r).pre = tmXD t f p n ∧ (tmBD t f p n r).post = .leaf (.normal, tmID t f p n (-1, r)) := by
  unfold tmBD
  exact ⟨rfl, rfl, rfl⟩

theorem tm_ctxD (f : Fl D6) (p : Jp D6) (n : W6) : Ctx PR (tmED tmOD) [18, 27] (tabOf [(0, tmBD tmOD f p n (timesD f p n))]) 10 145 :=
  ctx_of tmE_okD mixed (fn := Tryz.f145) (by kernel_rfl) (by kernel_rfl) (by kernel_rfl)
    (tabOk_one (Nat.zero_le _) tm_blkD fun Fr0 ds Q h => by
      obtain ⟨-, h2, h3⟩ := tmB_nD tmOD f p n (timesD f p n)
      rw [h3] at h
      rw [h2]
      exact tm_loopD f p n h)

theorem tm_okD : CallOk PR 145 (fn3 flD.agg jD.agg c6.agg jD.agg timesD) :=
  .inl ⟨enters_of (fn := Tryz.f145) (by kernel_rfl) (by kernel_rfl) (by kernel_rfl),
    pure3X fun f p n => .of (tm_ctxD f p n) (sameVal (tm_runD tmOD f p n (timesD f p n)))⟩

end Go.Rq

/- The curves' functions on told points: kernel checks, the called functions left open. Written by a program of ours. -/
namespace Go.Rq
open Go Go.Proofs

set_option maxRecDepth 100000 in
theorem below_run (C : W6 → W6 → Int) (b : W6) (a : W6) : (afunR PR (envOf eqsT [(49, fn2 c6.agg c6.agg (kInt .i64) C), (50, fn0 c6.agg b)]) [] (fun _ => none) 40 129 [c6.agg.enc a]).strict =
    .leaf (kBool.enc (decide (C a b < 0))) := by kernel_rfl
set_option maxRecDepth 100000 in
theorem first_run (to : W6 → W6) (one : W6) (of : BitVec 64 → W6) : (afunR PR (envOf eqsT [(134, fn0 c6.agg one), (135, fn1 c6.agg c6.agg to), (31, fn1 kU c6.agg of)]) [] (fun _ => none) 40 85 []).strict =
    .leaf (flW.agg.enc ⟨one, to (of 4#64)⟩) := by kernel_rfl
set_option maxRecDepth 100000 in
theorem second_run (to : W6 → W6) (one : D6) (of : BitVec 64 → W6) : (afunR PR (envOf eqsT [(143, fn0 c12.agg one), (135, fn1 c6.agg c6.agg to), (31, fn1 kU c6.agg of)]) [] (fun _ => none) 40 89 []).strict =
    .leaf (flD.agg.enc ⟨one, ⟨to (of 4#64), to (of 4#64)⟩⟩) := by kernel_rfl
set_option maxRecDepth 100000 in
theorem in1_run (to : W6 → W6) (p : Ap W6) : (afunR PR (envOf eqsT [(135, fn1 c6.agg c6.agg to)]) [] (fun _ => none) 40 87 [aW.agg.enc p]).strict =
    .leaf (aW.agg.enc ⟨to p.x, to p.y, p.zero⟩) := by kernel_rfl
set_option maxRecDepth 100000 in
theorem out1_run (fr : W6 → W6) (p : Ap W6) : (afunR PR (envOf eqsT [(157, fn1 c6.agg c6.agg fr)]) [] (fun _ => none) 40 118 [aW.agg.enc p]).strict =
    .leaf (aW.agg.enc ⟨fr p.x, fr p.y, p.zero⟩) := by kernel_rfl
set_option maxRecDepth 100000 in
theorem in2_run (to : D6 → D6) (p : Ap D6) : (afunR PR (envOf eqsT [(109, fn1 c12.agg c12.agg to)]) [] (fun _ => none) 40 91 [aD.agg.enc p]).strict =
    .leaf (aD.agg.enc ⟨to p.x, to p.y, p.zero⟩) := by kernel_rfl
set_option maxRecDepth 100000 in
theorem out2_run (fr : D6 → D6) (p : Ap D6) : (afunR PR (envOf eqsT [(107, fn1 c12.agg c12.agg fr)]) [] (fun _ => none) 40 99 [aD.agg.enc p]).strict =
    .leaf (aD.agg.enc ⟨fr p.x, fr p.y, p.zero⟩) := by kernel_rfl
set_option maxRecDepth 100000 in
theorem below1_run (l : W6 → Bool) (p : Ap W6) : (afunR PR (envOf eqsT [(129, fn1 c6.agg kBool l)]) [6] (fun _ => none) 40 84 [aW.agg.enc p]).strict =
    .br (l p.x) (.leaf (kBool.enc (l p.y))) (.leaf (.lit false)) := by kernel_rfl


set_option maxRecDepth 100000 in
theorem isW_run (on : Fl W6 → Ap W6 → Bool) (ra : Fl W6 → Ap W6 → Jp W6) (od : W6) (tm : Fl W6 → Jp W6 → W6 → Jp W6) (lo : Fl W6 → Jp W6 → Ap W6) (f : Fl W6) (p : Ap W6) :
    (afunR PR (envOf eqsT [(92, fn2 flW.agg aW.agg kBool on), (138, fn2 flW.agg aW.agg jW.agg ra), (139, fn0 c6.agg od),
      (137, fn3 flW.agg jW.agg c6.agg jW.agg tm), (136, fn2 flW.agg jW.agg aW.agg lo)]) [8] (fun _ => none) 40 86 [flW.agg.enc f, aW.agg.enc p]).strict =
    .br (on f p) (.leaf (kBool.enc (lo f (tm f (ra f p) od)).zero)) (.leaf (.lit false)) := by kernel_rfl
set_option maxRecDepth 100000 in
theorem check1_run (l : Ap W6 → Bool) (fi : Fl W6) (inn : Ap W6 → Ap W6) (on : Fl W6 → Ap W6 → Bool) (p : Ap W6) :
    (afunR PR (envOf eqsT [(84, fn1 aW.agg kBool l), (85, fn0 flW.agg fi), (87, fn1 aW.agg aW.agg inn), (92, fn2 flW.agg aW.agg kBool on)]) [5] (fun _ => none) 40 34 [aW.agg.enc p]).strict =
    .br (l p) (.leaf (kBool.enc (on fi (inn p)))) (.leaf (.lit false)) := by kernel_rfl
set_option maxRecDepth 100000 in
theorem isin1_run (l : Ap W6 → Bool) (fi : Fl W6) (inn : Ap W6 → Ap W6) (on : Fl W6 → Ap W6 → Bool) (p : Ap W6) :
    (afunR PR (envOf eqsT [(84, fn1 aW.agg kBool l), (85, fn0 flW.agg fi), (87, fn1 aW.agg aW.agg inn), (86, fn2 flW.agg aW.agg kBool on)]) [5] (fun _ => none) 40 32 [aW.agg.enc p]).strict =
    .br (l p) (.leaf (kBool.enc (on fi (inn p)))) (.leaf (.lit false)) := by kernel_rfl


set_option maxRecDepth 100000 in
theorem isD_run (on : Fl D6 → Ap D6 → Bool) (ra : Fl D6 → Ap D6 → Jp D6) (od : W6) (tm : Fl D6 → Jp D6 → W6 → Jp D6) (lo : Fl D6 → Jp D6 → Ap D6) (f : Fl D6) (p : Ap D6) :
    (afunR PR (envOf eqsT [(93, fn2 flD.agg aD.agg kBool on), (146, fn2 flD.agg aD.agg jD.agg ra), (139, fn0 c6.agg od),
      (145, fn3 flD.agg jD.agg c6.agg jD.agg tm), (144, fn2 flD.agg jD.agg aD.agg lo)]) [8] (fun _ => none) 40 90 [flD.agg.enc f, aD.agg.enc p]).strict =
    .br (on f p) (.leaf (kBool.enc (lo f (tm f (ra f p) od)).zero)) (.leaf (.lit false)) := by kernel_rfl
set_option maxRecDepth 100000 in
theorem check2_run (l : Ap D6 → Bool) (fi : Fl D6) (inn : Ap D6 → Ap D6) (on : Fl D6 → Ap D6 → Bool) (p : Ap D6) :
    (afunR PR (envOf eqsT [(88, fn1 aD.agg kBool l), (89, fn0 flD.agg fi), (91, fn1 aD.agg aD.agg inn), (93, fn2 flD.agg aD.agg kBool on)]) [5] (fun _ => none) 40 35 [aD.agg.enc p]).strict =
    .br (l p) (.leaf (kBool.enc (on fi (inn p)))) (.leaf (.lit false)) := by kernel_rfl
set_option maxRecDepth 100000 in
theorem isin2_run (l : Ap D6 → Bool) (fi : Fl D6) (inn : Ap D6 → Ap D6) (on : Fl D6 → Ap D6 → Bool) (p : Ap D6) :
    (afunR PR (envOf eqsT [(88, fn1 aD.agg kBool l), (89, fn0 flD.agg fi), (91, fn1 aD.agg aD.agg inn), (90, fn2 flD.agg aD.agg kBool on)]) [5] (fun _ => none) 40 33 [aD.agg.enc p]).strict =
    .br (l p) (.leaf (kBool.enc (on fi (inn p)))) (.leaf (.lit false)) := by kernel_rfl

end Go.Rq

/- The curves' functions on told points: contracts. Written by a program of ours. -/
namespace Go.Rq
open Go Go.Proofs

def belowI (a : W6) : Bool := decide (chainV (cmpL a primeW) 0 < 0)
def fld1 : Fl W6 := ⟨oneW, toW (ofW 4#64)⟩
def fld2 : Fl D6 := ⟨one2, ⟨toW (ofW 4#64), toW (ofW 4#64)⟩⟩
def inP1 (p : Ap W6) : Ap W6 := ⟨toW p.x, toW p.y, p.zero⟩
def outP1 (p : Ap W6) : Ap W6 := ⟨fromW p.x, fromW p.y, p.zero⟩
def inP2 (p : Ap D6) : Ap D6 := ⟨to2 fW p.x, to2 fW p.y, p.zero⟩
def outP2 (p : Ap D6) : Ap D6 := ⟨back2 fW p.x, back2 fW p.y, p.zero⟩

def tt_below : PureTab := [(49, fn2 c6.agg c6.agg (kInt .i64) fun a b => chainV (cmpL a b) 0), (50, fn0 c6.agg primeW)]
theorem tt_below_ok : TabPOk PR tt_below := TabPOk.cons cmp_ok (TabPOk.cons base_ok (TabPOk.nil))
theorem below_ctx : Ctx PR (envOf eqsT tt_below) [] (fun _ => none) 40 129 :=
  ctx_of (envOf_ok eqsT_ok tt_below_ok) mixed (fn := Tryz.f129) (by kernel_rfl) (by kernel_rfl) (by kernel_rfl) (tabOk_none _)
theorem below_ok : CallOk PR 129 (fn1 c6.agg kBool belowI) :=
  .inl ⟨enters_of (fn := Tryz.f129) (by kernel_rfl) (by kernel_rfl) (by kernel_rfl), pure1 below_ctx (fun a => leafVal (B := kBool) (y := belowI a) (below_run (fun a b => chainV (cmpL a b) 0) primeW a))⟩

def tt_first : PureTab := [(134, fn0 c6.agg oneW), (135, fn1 c6.agg c6.agg toW), (31, fn1 kU c6.agg ofW)]
theorem tt_first_ok : TabPOk PR tt_first := TabPOk.cons one_ok (TabPOk.cons mto_ok (TabPOk.cons of_ok (TabPOk.nil)))
theorem first_ctx : Ctx PR (envOf eqsT tt_first) [] (fun _ => none) 40 85 :=
  ctx_of (envOf_ok eqsT_ok tt_first_ok) mixed (fn := Tryz.f85) (by kernel_rfl) (by kernel_rfl) (by kernel_rfl) (tabOk_none _)
theorem first_ok : CallOk PR 85 (fn0 flW.agg fld1) :=
  .inl ⟨enters_of (fn := Tryz.f85) (by kernel_rfl) (by kernel_rfl) (by kernel_rfl), pure0 first_ctx (leafVal (B := flW.agg) (y := fld1) (first_run toW oneW ofW))⟩

def tt_second : PureTab := [(143, fn0 c12.agg one2), (135, fn1 c6.agg c6.agg toW), (31, fn1 kU c6.agg ofW)]
theorem tt_second_ok : TabPOk PR tt_second := TabPOk.cons one2_ok (TabPOk.cons mto_ok (TabPOk.cons of_ok (TabPOk.nil)))
theorem second_ctx : Ctx PR (envOf eqsT tt_second) [] (fun _ => none) 40 89 :=
  ctx_of (envOf_ok eqsT_ok tt_second_ok) mixed (fn := Tryz.f89) (by kernel_rfl) (by kernel_rfl) (by kernel_rfl) (tabOk_none _)
theorem second_ok : CallOk PR 89 (fn0 flD.agg fld2) :=
  .inl ⟨enters_of (fn := Tryz.f89) (by kernel_rfl) (by kernel_rfl) (by kernel_rfl), pure0 second_ctx (leafVal (B := flD.agg) (y := fld2) (second_run toW one2 ofW))⟩

def tt_inp1 : PureTab := [(135, fn1 c6.agg c6.agg toW)]
theorem tt_inp1_ok : TabPOk PR tt_inp1 := TabPOk.cons mto_ok (TabPOk.nil)
theorem inp1_ctx : Ctx PR (envOf eqsT tt_inp1) [] (fun _ => none) 40 87 :=
  ctx_of (envOf_ok eqsT_ok tt_inp1_ok) mixed (fn := Tryz.f87) (by kernel_rfl) (by kernel_rfl) (by kernel_rfl) (tabOk_none _)
theorem inp1_ok : CallOk PR 87 (fn1 aW.agg aW.agg inP1) :=
  .inl ⟨enters_of (fn := Tryz.f87) (by kernel_rfl) (by kernel_rfl) (by kernel_rfl), pure1 inp1_ctx (fun p => leafVal (B := aW.agg) (y := inP1 p) (in1_run toW p))⟩

def tt_outp1 : PureTab := [(157, fn1 c6.agg c6.agg fromW)]
theorem tt_outp1_ok : TabPOk PR tt_outp1 := TabPOk.cons mfrom_ok (TabPOk.nil)
theorem outp1_ctx : Ctx PR (envOf eqsT tt_outp1) [] (fun _ => none) 40 118 :=
  ctx_of (envOf_ok eqsT_ok tt_outp1_ok) mixed (fn := Tryz.f118) (by kernel_rfl) (by kernel_rfl) (by kernel_rfl) (tabOk_none _)
theorem outp1_ok : CallOk PR 118 (fn1 aW.agg aW.agg outP1) :=
  .inl ⟨enters_of (fn := Tryz.f118) (by kernel_rfl) (by kernel_rfl) (by kernel_rfl), pure1 outp1_ctx (fun p => leafVal (B := aW.agg) (y := outP1 p) (out1_run fromW p))⟩

def tt_inp2 : PureTab := [(109, fn1 c12.agg c12.agg (to2 fW))]
theorem tt_inp2_ok : TabPOk PR tt_inp2 := TabPOk.cons to2_ok (TabPOk.nil)
theorem inp2_ctx : Ctx PR (envOf eqsT tt_inp2) [] (fun _ => none) 40 91 :=
  ctx_of (envOf_ok eqsT_ok tt_inp2_ok) mixed (fn := Tryz.f91) (by kernel_rfl) (by kernel_rfl) (by kernel_rfl) (tabOk_none _)
theorem inp2_ok : CallOk PR 91 (fn1 aD.agg aD.agg inP2) :=
  .inl ⟨enters_of (fn := Tryz.f91) (by kernel_rfl) (by kernel_rfl) (by kernel_rfl), pure1 inp2_ctx (fun p => leafVal (B := aD.agg) (y := inP2 p) (in2_run (to2 fW) p))⟩

def tt_outp2 : PureTab := [(107, fn1 c12.agg c12.agg (back2 fW))]
theorem tt_outp2_ok : TabPOk PR tt_outp2 := TabPOk.cons back2_ok (TabPOk.nil)
theorem outp2_ctx : Ctx PR (envOf eqsT tt_outp2) [] (fun _ => none) 40 99 :=
  ctx_of (envOf_ok eqsT_ok tt_outp2_ok) mixed (fn := Tryz.f99) (by kernel_rfl) (by kernel_rfl) (by kernel_rfl) (tabOk_none _)
theorem outp2_ok : CallOk PR 99 (fn1 aD.agg aD.agg outP2) :=
  .inl ⟨enters_of (fn := Tryz.f99) (by kernel_rfl) (by kernel_rfl) (by kernel_rfl), pure1 outp2_ctx (fun p => leafVal (B := aD.agg) (y := outP2 p) (out2_run (back2 fW) p))⟩

def belowP1 (p : Ap W6) : Bool := bif belowI p.x then belowI p.y else false

def tt_belowp1 : PureTab := [(129, fn1 c6.agg kBool belowI)]
theorem tt_belowp1_ok : TabPOk PR tt_belowp1 := TabPOk.cons below_ok (TabPOk.nil)
theorem belowp1_ctx : Ctx PR (envOf eqsT tt_belowp1) [6] (fun _ => none) 40 84 :=
  ctx_of (envOf_ok eqsT_ok tt_belowp1_ok) mixed (fn := Tryz.f84) (by kernel_rfl) (by kernel_rfl) (by kernel_rfl) (tabOk_none _)
theorem belowp1_ok : CallOk PR 84 (fn1 aW.agg kBool belowP1) :=
  .inl ⟨enters_of (fn := Tryz.f84) (by kernel_rfl) (by kernel_rfl) (by kernel_rfl), pure1 belowp1_ctx (fun p => givesOf (below1_run belowI p) (holds_br (B := kBool) (holds_leaf (kBool.h1 _)) (holds_leaf (a := .lit false) (v := kBool.val false) rfl)))⟩

def lowFW : Fl W6 → Jp W6 → Ap W6 := fun _ p => lowerE fW eqW p
theorem lowFW_ok : CallOk PR 136 (fn2 flW.agg jW.agg aW.agg lowFW) := loW_ok
def inGW (on : Fl W6 → Ap W6 → Bool) (ra : Fl W6 → Ap W6 → Jp W6) (od : W6) (tm : Fl W6 → Jp W6 → W6 → Jp W6) (lo : Fl W6 → Jp W6 → Ap W6) (f : Fl W6) (p : Ap W6) : Bool := bif on f p then (lo f (tm f (ra f p) od)).zero else false
theorem inGW_gives (on : Fl W6 → Ap W6 → Bool) (ra : Fl W6 → Ap W6 → Jp W6) (od : W6) (tm : Fl W6 → Jp W6 → W6 → Jp W6) (lo : Fl W6 → Jp W6 → Ap W6) (f : Fl W6) (p : Ap W6) {t : Tree AV}
    (h : t.strict = .br (on f p) (.leaf (kBool.enc (lo f (tm f (ra f p) od)).zero)) (.leaf (.lit false))) : Gives t (kBool.val (inGW on ra od tm lo f p)) :=
  givesOf h (holds_br (B := kBool) (holds_leaf (kBool.h1 _)) (holds_leaf (a := .lit false) (v := kBool.val false) rfl))
def inEW : Fl W6 → Ap W6 → Bool := inGW (onE fW eqW) (raiseJ fW) orderW timesW lowFW

def tt_isW : PureTab := [(92, fn2 flW.agg aW.agg kBool (onE fW eqW)), (138, fn2 flW.agg aW.agg jW.agg (raiseJ fW)), (139, fn0 c6.agg orderW), (137, fn3 flW.agg jW.agg c6.agg jW.agg timesW), (136, fn2 flW.agg jW.agg aW.agg lowFW)]
theorem tt_isW_ok : TabPOk PR tt_isW := TabPOk.cons onW_ok (TabPOk.cons raW_ok (TabPOk.cons order_ok (TabPOk.cons tm_okW (TabPOk.cons lowFW_ok (TabPOk.nil)))))
theorem isW_ctx : Ctx PR (envOf eqsT tt_isW) [8] (fun _ => none) 40 86 :=
  ctx_of (envOf_ok eqsT_ok tt_isW_ok) mixed (fn := Tryz.f86) (by kernel_rfl) (by kernel_rfl) (by kernel_rfl) (tabOk_none _)
theorem isW_ok : CallOk PR 86 (fn2 flW.agg aW.agg kBool inEW) :=
  .inl ⟨enters_of (fn := Tryz.f86) (by kernel_rfl) (by kernel_rfl) (by kernel_rfl), pure2 isW_ctx (fun f p => inGW_gives (onE fW eqW) (raiseJ fW) orderW timesW lowFW f p (isW_run (onE fW eqW) (raiseJ fW) orderW timesW lowFW f p))⟩

def checkP1 (p : Ap W6) : Bool := bif belowP1 p then onE fW eqW fld1 (inP1 p) else false
def inGroup1 (p : Ap W6) : Bool := bif belowP1 p then inEW fld1 (inP1 p) else false

def tt_checkp1 : PureTab := [(84, fn1 aW.agg kBool belowP1), (85, fn0 flW.agg fld1), (87, fn1 aW.agg aW.agg inP1), (92, fn2 flW.agg aW.agg kBool (onE fW eqW))]
theorem tt_checkp1_ok : TabPOk PR tt_checkp1 := TabPOk.cons belowp1_ok (TabPOk.cons first_ok (TabPOk.cons inp1_ok (TabPOk.cons onW_ok (TabPOk.nil))))
theorem checkp1_ctx : Ctx PR (envOf eqsT tt_checkp1) [5] (fun _ => none) 40 34 :=
  ctx_of (envOf_ok eqsT_ok tt_checkp1_ok) mixed (fn := Tryz.f34) (by kernel_rfl) (by kernel_rfl) (by kernel_rfl) (tabOk_none _)
theorem checkp1_ok : CallOk PR 34 (fn1 aW.agg kBool checkP1) :=
  .inl ⟨enters_of (fn := Tryz.f34) (by kernel_rfl) (by kernel_rfl) (by kernel_rfl), pure1 checkp1_ctx (fun p => givesOf (check1_run belowP1 fld1 inP1 (onE fW eqW) p) (holds_br (B := kBool) (holds_leaf (kBool.h1 _)) (holds_leaf (a := .lit false) (v := kBool.val false) rfl)))⟩

def tt_isinp1 : PureTab := [(84, fn1 aW.agg kBool belowP1), (85, fn0 flW.agg fld1), (87, fn1 aW.agg aW.agg inP1), (86, fn2 flW.agg aW.agg kBool inEW)]
theorem tt_isinp1_ok : TabPOk PR tt_isinp1 := TabPOk.cons belowp1_ok (TabPOk.cons first_ok (TabPOk.cons inp1_ok (TabPOk.cons isW_ok (TabPOk.nil))))
theorem isinp1_ctx : Ctx PR (envOf eqsT tt_isinp1) [5] (fun _ => none) 40 32 :=
  ctx_of (envOf_ok eqsT_ok tt_isinp1_ok) mixed (fn := Tryz.f32) (by kernel_rfl) (by kernel_rfl) (by kernel_rfl) (tabOk_none _)
theorem isinp1_ok : CallOk PR 32 (fn1 aW.agg kBool inGroup1) :=
  .inl ⟨enters_of (fn := Tryz.f32) (by kernel_rfl) (by kernel_rfl) (by kernel_rfl), pure1 isinp1_ctx (fun p => givesOf (isin1_run belowP1 fld1 inP1 inEW p) (holds_br (B := kBool) (holds_leaf (kBool.h1 _)) (holds_leaf (a := .lit false) (v := kBool.val false) rfl)))⟩

def lowFD : Fl D6 → Jp D6 → Ap D6 := fun _ p => lowerE fD eqD p
theorem lowFD_ok : CallOk PR 144 (fn2 flD.agg jD.agg aD.agg lowFD) := loD_ok
def inGD (on : Fl D6 → Ap D6 → Bool) (ra : Fl D6 → Ap D6 → Jp D6) (od : W6) (tm : Fl D6 → Jp D6 → W6 → Jp D6) (lo : Fl D6 → Jp D6 → Ap D6) (f : Fl D6) (p : Ap D6) : Bool := bif on f p then (lo f (tm f (ra f p) od)).zero else false
theorem inGD_gives (on : Fl D6 → Ap D6 → Bool) (ra : Fl D6 → Ap D6 → Jp D6) (od : W6) (tm : Fl D6 → Jp D6 → W6 → Jp D6) (lo : Fl D6 → Jp D6 → Ap D6) (f : Fl D6) (p : Ap D6) {t : Tree AV}
    (h : t.strict = .br (on f p) (.leaf (kBool.enc (lo f (tm f (ra f p) od)).zero)) (.leaf (.lit false))) : Gives t (kBool.val (inGD on ra od tm lo f p)) :=
  givesOf h (holds_br (B := kBool) (holds_leaf (kBool.h1 _)) (holds_leaf (a := .lit false) (v := kBool.val false) rfl))
def inED : Fl D6 → Ap D6 → Bool := inGD (onE fD eqD) (raiseJ fD) orderW timesD lowFD

def tt_isD : PureTab := [(93, fn2 flD.agg aD.agg kBool (onE fD eqD)), (146, fn2 flD.agg aD.agg jD.agg (raiseJ fD)), (139, fn0 c6.agg orderW), (145, fn3 flD.agg jD.agg c6.agg jD.agg timesD), (144, fn2 flD.agg jD.agg aD.agg lowFD)]
theorem tt_isD_ok : TabPOk PR tt_isD := TabPOk.cons onD_ok (TabPOk.cons raD_ok (TabPOk.cons order_ok (TabPOk.cons tm_okD (TabPOk.cons lowFD_ok (TabPOk.nil)))))
theorem isD_ctx : Ctx PR (envOf eqsT tt_isD) [8] (fun _ => none) 40 90 :=
  ctx_of (envOf_ok eqsT_ok tt_isD_ok) mixed (fn := Tryz.f90) (by kernel_rfl) (by kernel_rfl) (by kernel_rfl) (tabOk_none _)
theorem isD_ok : CallOk PR 90 (fn2 flD.agg aD.agg kBool inED) :=
  .inl ⟨enters_of (fn := Tryz.f90) (by kernel_rfl) (by kernel_rfl) (by kernel_rfl), pure2 isD_ctx (fun f p => inGD_gives (onE fD eqD) (raiseJ fD) orderW timesD lowFD f p (isD_run (onE fD eqD) (raiseJ fD) orderW timesD lowFD f p))⟩

end Go.Rq

/- The curves' negations, and the second group's tests: kernel checks. Written by a program of ours. -/
namespace Go.Rq
open Go Go.Proofs

set_option maxRecDepth 100000 in
theorem below2_run (l : W6 → Bool) (p : Ap D6) : (afunR PR (envOf eqsT [(129, fn1 c6.agg kBool l)]) [7, 13, 19] (fun _ => none) 40 88 [aD.agg.enc p]).strict =
    .br (l p.x.a) (.br (l p.x.b) (.br (l p.y.a) (.leaf (kBool.enc (l p.y.b))) (.leaf (.lit false))) (.leaf (.lit false))) (.leaf (.lit false)) := by kernel_rfl


set_option maxRecDepth 100000 in
theorem neg1_run (ck : Ap W6 → Bool) (fi : Fl W6) (inn ou : Ap W6 → Ap W6) (ne : Fl W6 → Ap W6 → Ap W6) (p : Ap W6) :
    (afunR PR (envOf eqsT [(34, fn1 aW.agg kBool ck), (85, fn0 flW.agg fi), (87, fn1 aW.agg aW.agg inn), (118, fn1 aW.agg aW.agg ou), (119, fn2 flW.agg aW.agg aW.agg ne)]) [6] (fun _ => none) 40 72 [aW.agg.enc p]).strict =
    .br (!(ck p)) (.leaf (.tup [.agg (c6.enc zeroW ++ (c6.enc zeroW ++ [.lit false])), .v (.int .i64 5)])) (.leaf (.tup [aW.agg.enc (ou (ne fi (inn p))), .v (.int .i64 0)])) := by kernel_rfl


set_option maxRecDepth 100000 in
theorem neg2_run (ck : Ap D6 → Bool) (fi : Fl D6) (inn ou : Ap D6 → Ap D6) (ne : Fl D6 → Ap D6 → Ap D6) (p : Ap D6) :
    (afunR PR (envOf eqsT [(35, fn1 aD.agg kBool ck), (89, fn0 flD.agg fi), (91, fn1 aD.agg aD.agg inn), (99, fn1 aD.agg aD.agg ou), (103, fn2 flD.agg aD.agg aD.agg ne)]) [6] (fun _ => none) 40 51 [aD.agg.enc p]).strict =
    .br (!(ck p)) (.leaf (.tup [.agg (c12.enc zero2 ++ (c12.enc zero2 ++ [.lit false])), .v (.int .i64 5)])) (.leaf (.tup [aD.agg.enc (ou (ne fi (inn p))), .v (.int .i64 0)])) := by kernel_rfl

end Go.Rq

/- The curves' negations, and the second group's tests: contracts. Written by a program of ours. -/
namespace Go.Rq
open Go Go.Proofs

def kPW : Cod (Ap W6 × Int) := kTup aW.agg (kInt .i64) (fun _ => by kernel_rfl) (fun _ => rfl)
def kPD : Cod (Ap D6 × Int) := kTup aD.agg (kInt .i64) (fun _ => by kernel_rfl) (fun _ => rfl)
theorem noneFlatW : flat (.tup [.agg (c6.enc zeroW ++ (c6.enc zeroW ++ [.lit false])), .v (.int .i64 5)]) = some (kPW.val (⟨zeroW, zeroW, false⟩, 5)) := by kernel_rfl
theorem noneFlatD : flat (.tup [.agg (c12.enc zero2 ++ (c12.enc zero2 ++ [.lit false])), .v (.int .i64 5)]) = some (kPD.val (⟨zero2, zero2, false⟩, 5)) := by kernel_rfl
def belowP2 (p : Ap D6) : Bool := bif belowI p.x.a then (bif belowI p.x.b then (bif belowI p.y.a then belowI p.y.b else false) else false) else false
def checkP2 (p : Ap D6) : Bool := bif belowP2 p then onE fD eqD fld2 (inP2 p) else false
def inGroup2 (p : Ap D6) : Bool := bif belowP2 p then inED fld2 (inP2 p) else false

def tt_belowp2 : PureTab := [(129, fn1 c6.agg kBool belowI)]
theorem tt_belowp2_ok : TabPOk PR tt_belowp2 := TabPOk.cons below_ok (TabPOk.nil)
theorem belowp2_ctx : Ctx PR (envOf eqsT tt_belowp2) [7, 13, 19] (fun _ => none) 40 88 :=
  ctx_of (envOf_ok eqsT_ok tt_belowp2_ok) mixed (fn := Tryz.f88) (by kernel_rfl) (by kernel_rfl) (by kernel_rfl) (tabOk_none _)
theorem belowp2_ok : CallOk PR 88 (fn1 aD.agg kBool belowP2) :=
  .inl ⟨enters_of (fn := Tryz.f88) (by kernel_rfl) (by kernel_rfl) (by kernel_rfl), pure1 belowp2_ctx (fun p => givesOf (below2_run belowI p) (holds_br (B := kBool) (holds_br (B := kBool) (holds_br (B := kBool) (holds_leaf (kBool.h1 _)) (holds_leaf (a := .lit false) (v := kBool.val false) rfl)) (holds_leaf (a := .lit false) (v := kBool.val false) rfl)) (holds_leaf (a := .lit false) (v := kBool.val false) rfl)))⟩

def tt_checkp2 : PureTab := [(88, fn1 aD.agg kBool belowP2), (89, fn0 flD.agg fld2), (91, fn1 aD.agg aD.agg inP2), (93, fn2 flD.agg aD.agg kBool (onE fD eqD))]
theorem tt_checkp2_ok : TabPOk PR tt_checkp2 := TabPOk.cons belowp2_ok (TabPOk.cons second_ok (TabPOk.cons inp2_ok (TabPOk.cons onD_ok (TabPOk.nil))))
theorem checkp2_ctx : Ctx PR (envOf eqsT tt_checkp2) [5] (fun _ => none) 40 35 :=
  ctx_of (envOf_ok eqsT_ok tt_checkp2_ok) mixed (fn := Tryz.f35) (by kernel_rfl) (by kernel_rfl) (by kernel_rfl) (tabOk_none _)
theorem checkp2_ok : CallOk PR 35 (fn1 aD.agg kBool checkP2) :=
  .inl ⟨enters_of (fn := Tryz.f35) (by kernel_rfl) (by kernel_rfl) (by kernel_rfl), pure1 checkp2_ctx (fun p => givesOf (check2_run belowP2 fld2 inP2 (onE fD eqD) p) (holds_br (B := kBool) (holds_leaf (kBool.h1 _)) (holds_leaf (a := .lit false) (v := kBool.val false) rfl)))⟩

def tt_isinp2 : PureTab := [(88, fn1 aD.agg kBool belowP2), (89, fn0 flD.agg fld2), (91, fn1 aD.agg aD.agg inP2), (90, fn2 flD.agg aD.agg kBool inED)]
theorem tt_isinp2_ok : TabPOk PR tt_isinp2 := TabPOk.cons belowp2_ok (TabPOk.cons second_ok (TabPOk.cons inp2_ok (TabPOk.cons isD_ok (TabPOk.nil))))
theorem isinp2_ctx : Ctx PR (envOf eqsT tt_isinp2) [5] (fun _ => none) 40 33 :=
  ctx_of (envOf_ok eqsT_ok tt_isinp2_ok) mixed (fn := Tryz.f33) (by kernel_rfl) (by kernel_rfl) (by kernel_rfl) (tabOk_none _)
theorem isinp2_ok : CallOk PR 33 (fn1 aD.agg kBool inGroup2) :=
  .inl ⟨enters_of (fn := Tryz.f33) (by kernel_rfl) (by kernel_rfl) (by kernel_rfl), pure1 isinp2_ctx (fun p => givesOf (isin2_run belowP2 fld2 inP2 inED p) (holds_br (B := kBool) (holds_leaf (kBool.h1 _)) (holds_leaf (a := .lit false) (v := kBool.val false) rfl)))⟩

def negP1 (p : Ap W6) : Ap W6 × Int := bif !(checkP1 p) then (⟨zeroW, zeroW, false⟩, 5) else (outP1 (negE fW (inP1 p)), 0)

def negFW : Fl W6 → Ap W6 → Ap W6 := fun _ p => negE fW p
theorem negFW_ok : CallOk PR 119 (fn2 flW.agg aW.agg aW.agg negFW) := neW_ok

def tt_negp1 : PureTab := [(34, fn1 aW.agg kBool checkP1), (85, fn0 flW.agg fld1), (87, fn1 aW.agg aW.agg inP1), (118, fn1 aW.agg aW.agg outP1), (119, fn2 flW.agg aW.agg aW.agg negFW)]
theorem tt_negp1_ok : TabPOk PR tt_negp1 := TabPOk.cons checkp1_ok (TabPOk.cons first_ok (TabPOk.cons inp1_ok (TabPOk.cons outp1_ok (TabPOk.cons negFW_ok (TabPOk.nil)))))
theorem negp1_ctx : Ctx PR (envOf eqsT tt_negp1) [6] (fun _ => none) 40 72 :=
  ctx_of (envOf_ok eqsT_ok tt_negp1_ok) mixed (fn := Tryz.f72) (by kernel_rfl) (by kernel_rfl) (by kernel_rfl) (tabOk_none _)
theorem negp1_ok : CallOk PR 72 (fn1 aW.agg kPW negP1) :=
  .inl ⟨enters_of (fn := Tryz.f72) (by kernel_rfl) (by kernel_rfl) (by kernel_rfl), pure1 negp1_ctx (fun p => givesOf (neg1_run checkP1 fld1 inP1 outP1 negFW p) (holds_br (B := kPW) (holds_leaf noneFlatW) (holds_leaf (kPW.h1 (outP1 (negE fW (inP1 p)), 0)))))⟩

def negP2 (p : Ap D6) : Ap D6 × Int := bif !(checkP2 p) then (⟨zero2, zero2, false⟩, 5) else (outP2 (negE fD (inP2 p)), 0)

def negFD : Fl D6 → Ap D6 → Ap D6 := fun _ p => negE fD p
theorem negFD_ok : CallOk PR 103 (fn2 flD.agg aD.agg aD.agg negFD) := neD_ok

def tt_negp2 : PureTab := [(35, fn1 aD.agg kBool checkP2), (89, fn0 flD.agg fld2), (91, fn1 aD.agg aD.agg inP2), (99, fn1 aD.agg aD.agg outP2), (103, fn2 flD.agg aD.agg aD.agg negFD)]
theorem tt_negp2_ok : TabPOk PR tt_negp2 := TabPOk.cons checkp2_ok (TabPOk.cons second_ok (TabPOk.cons inp2_ok (TabPOk.cons outp2_ok (TabPOk.cons negFD_ok (TabPOk.nil)))))
theorem negp2_ctx : Ctx PR (envOf eqsT tt_negp2) [6] (fun _ => none) 40 51 :=
  ctx_of (envOf_ok eqsT_ok tt_negp2_ok) mixed (fn := Tryz.f51) (by kernel_rfl) (by kernel_rfl) (by kernel_rfl) (tabOk_none _)
theorem negp2_ok : CallOk PR 51 (fn1 aD.agg kPD negP2) :=
  .inl ⟨enters_of (fn := Tryz.f51) (by kernel_rfl) (by kernel_rfl) (by kernel_rfl), pure1 negp2_ctx (fun p => givesOf (neg2_run checkP2 fld2 inP2 outP2 negFD p) (holds_br (B := kPD) (holds_leaf noneFlatD) (holds_leaf (kPD.h1 (outP2 (negE fD (inP2 p)), 0)))))⟩

end Go.Rq

/- Sums of one and of two points: contracts. Written by a program of ours. -/
namespace Go.Rq
open Go Go.Proofs

/-- What the functions on points come to, left open. -/
structure GO (K : Type) where
  on : Fl K → Ap K → Bool
  ra : Fl K → Ap K → Jp K
  ti : Fl K → Jp K → W6 → Jp K
  su : Fl K → Jp K → Jp K → Jp K
  lo : Fl K → Jp K → Ap K

section
variable {K : Type} (t : GO K) (z : K)
def ga1 (f : Fl K) (p : Ap K) (n : W6) : Ap K × Int := bif t.on f p then (t.lo f (t.su f ⟨f.one, f.one, z⟩ (t.ti f (t.ra f p) n)), 0) else (⟨z, z, false⟩, 5)
def ga2 (f : Fl K) (x : Ap K × Ap K) (y : W6 × W6) : Ap K × Int := bif t.on f x.1 then (bif t.on f x.2 then
  (t.lo f (t.su f (t.su f ⟨f.one, f.one, z⟩ (t.ti f (t.ra f x.1) y.1)) (t.ti f (t.ra f x.2) y.2)), 0) else (⟨z, z, false⟩, 5)) else (⟨z, z, false⟩, 5)

/-- Likewise of told points. -/
structure SO (K : Type) where
  be : Ap K → Bool
  fi : Fl K
  inn : Ap K → Ap K
  ou : Ap K → Ap K

variable (s : SO K)
def sm1 (G : Fl K → Ap K → W6 → Ap K × Int) (p : Ap K) (n : W6) : Ap K × Int := bif s.be p then (s.ou (G s.fi (s.inn p) n).1, (G s.fi (s.inn p) n).2) else (⟨z, z, false⟩, 5)
def sm2 (G : Fl K → Ap K × Ap K → W6 × W6 → Ap K × Int) (x : Ap K × Ap K) (y : W6 × W6) : Ap K × Int := bif s.be x.1 then (bif s.be x.2 then
  (s.ou (G s.fi (s.inn x.1, s.inn x.2) y).1, (G s.fi (s.inn x.1, s.inn x.2) y).2) else (⟨z, z, false⟩, 5)) else (⟨z, z, false⟩, 5)
end


def gaTW (t : GO W6) : PureTab := [(92, fn2 flW.agg aW.agg kBool t.on), (138, fn2 flW.agg aW.agg jW.agg t.ra), (137, fn3 flW.agg jW.agg c6.agg jW.agg t.ti),
  (181, fn3 flW.agg jW.agg jW.agg jW.agg t.su), (136, fn2 flW.agg jW.agg aW.agg t.lo)]
noncomputable def gaEW (t : GO W6) : Env := envH eqsT (gaTW t) []
def noneWA : Tree AV := .leaf (.tup [.agg (c6.enc zeroW ++ (c6.enc zeroW ++ [.lit false])), .v (.int .i64 5)])
set_option maxRecDepth 100000 in
theorem ga1_runW (t : GO W6) (f : Fl W6) (p : Ap W6) (n : W6) : (afunH PR (gaEW t) [27] 10 164 [flW.agg.enc f, (SlA.own 13 1).at 0, (SlA.slc 1).at 1] (twoAH aW c6 107 24 p n) 2).strict =
    .br (t.on f p) (.leaf (kPW.enc (t.lo f (t.su f ⟨f.one, f.one, zeroW⟩ (t.ti f (t.ra f p) n)), 0))) noneWA := by kernel_rfl
set_option maxRecDepth 100000 in
theorem ga2_runW (t : GO W6) (f : Fl W6) (p q : Ap W6) (n m : W6) : (afunH PR (gaEW t) [27] 10 164 [flW.agg.enc f, (SlA.own 13 2).at 0, (SlA.slc 2).at 1] (twoAH (CC.prod aW aW) (CC.prod c6 c6) 107 24 (p, q) (n, m)) 2).strict =
    .br (t.on f p) (.br (t.on f q) (.leaf (kPW.enc (t.lo f (t.su f (t.su f ⟨f.one, f.one, zeroW⟩ (t.ti f (t.ra f p) n)) (t.ti f (t.ra f q) m)), 0))) noneWA) noneWA := by kernel_rfl

def suTW (s : SO W6) : PureTab := [(84, fn1 aW.agg kBool s.be), (87, fn1 aW.agg aW.agg s.inn), (85, fn0 flW.agg s.fi), (118, fn1 aW.agg aW.agg s.ou)]
noncomputable def suE1W (s : SO W6) (G : Fl W6 → Ap W6 → W6 → Ap W6 × Int) : Env := envH eqsT (suTW s) [(164, sl3 (.own 13 1) (.slc 1) 107 24 flW.agg aW c6 kPW G)]
noncomputable def suE2W (s : SO W6) (G : Fl W6 → Ap W6 × Ap W6 → W6 × W6 → Ap W6 × Int) : Env := envH eqsT (suTW s) [(164, sl3 (.own 13 2) (.slc 2) 107 24 flW.agg (CC.prod aW aW) (CC.prod c6 c6) kPW G)]
set_option maxRecDepth 100000 in
theorem su1_runW (s : SO W6) (G : Fl W6 → Ap W6 → W6 → Ap W6 × Int) (p : Ap W6) (n : W6) : (afunH PR (suE1W s G) [24] 10 115 [(SlA.slc 1).at 0, (SlA.slc 1).at 1] (twoAH aW c6 45 24 p n) 2).strict =
    .br (s.be p) (.leaf (kPW.enc (s.ou (G s.fi (s.inn p) n).1, (G s.fi (s.inn p) n).2))) noneWA := by kernel_rfl
set_option maxRecDepth 100000 in
theorem su2_runW (s : SO W6) (G : Fl W6 → Ap W6 × Ap W6 → W6 × W6 → Ap W6 × Int) (p q : Ap W6) (n m : W6) : (afunH PR (suE2W s G) [24] 10 115 [(SlA.slc 2).at 0, (SlA.slc 2).at 1] (twoAH (CC.prod aW aW) (CC.prod c6 c6) 45 24 (p, q) (n, m)) 2).strict =
    .br (s.be p) (.br (s.be q) (.leaf (kPW.enc (s.ou (G s.fi (s.inn p, s.inn q) (n, m)).1, (G s.fi (s.inn p, s.inn q) (n, m)).2))) noneWA) noneWA := by kernel_rfl

noncomputable def adEW (G : Ap W6 × Ap W6 → W6 × W6 → Ap W6 × Int) (ofw : BitVec 64 → W6) : Env := envH eqsT [(31, fn1 kU c6.agg ofw)] [(115, sl2 (.slc 2) (.slc 2) 45 24 (CC.prod aW aW) (CC.prod c6 c6) kPW G)]
noncomputable def muEW (G : Ap W6 → W6 → Ap W6 × Int) : Env := envH eqsT [] [(115, sl2 (.slc 1) (.slc 1) 45 24 aW c6 kPW G)]
set_option maxRecDepth 100000 in
theorem mu_runW (G : Ap W6 → W6 → Ap W6 × Int) (p : Ap W6) (n : W6) : (afunR PR (muEW G) [] (fun _ => none) 10 70 [aW.agg.enc p, c6.agg.enc n]).strict =
    .leaf (kPW.enc (G p n)) := by kernel_rfl


def gaTD (t : GO D6) : PureTab := [(93, fn2 flD.agg aD.agg kBool t.on), (146, fn2 flD.agg aD.agg jD.agg t.ra), (145, fn3 flD.agg jD.agg c6.agg jD.agg t.ti),
  (148, fn3 flD.agg jD.agg jD.agg jD.agg t.su), (144, fn2 flD.agg jD.agg aD.agg t.lo)]
noncomputable def gaED (t : GO D6) : Env := envH eqsT (gaTD t) []
def noneDA : Tree AV := .leaf (.tup [.agg (c12.enc zero2 ++ (c12.enc zero2 ++ [.lit false])), .v (.int .i64 5)])
set_option maxRecDepth 100000 in
theorem ga1_runD (t : GO D6) (f : Fl D6) (p : Ap D6) (n : W6) : (afunH PR (gaED t) [27] 10 98 [flD.agg.enc f, (SlA.own 25 1).at 0, (SlA.slc 1).at 1] (twoAH aD c6 118 24 p n) 2).strict =
    .br (t.on f p) (.leaf (kPD.enc (t.lo f (t.su f ⟨f.one, f.one, zero2⟩ (t.ti f (t.ra f p) n)), 0))) noneDA := by kernel_rfl
set_option maxRecDepth 100000 in
theorem ga2_runD (t : GO D6) (f : Fl D6) (p q : Ap D6) (n m : W6) : (afunH PR (gaED t) [27] 10 98 [flD.agg.enc f, (SlA.own 25 2).at 0, (SlA.slc 2).at 1] (twoAH (CC.prod aD aD) (CC.prod c6 c6) 118 24 (p, q) (n, m)) 2).strict =
    .br (t.on f p) (.br (t.on f q) (.leaf (kPD.enc (t.lo f (t.su f (t.su f ⟨f.one, f.one, zero2⟩ (t.ti f (t.ra f p) n)) (t.ti f (t.ra f q) m)), 0))) noneDA) noneDA := by kernel_rfl

def suTD (s : SO D6) : PureTab := [(88, fn1 aD.agg kBool s.be), (91, fn1 aD.agg aD.agg s.inn), (89, fn0 flD.agg s.fi), (99, fn1 aD.agg aD.agg s.ou)]
noncomputable def suE1D (s : SO D6) (G : Fl D6 → Ap D6 → W6 → Ap D6 × Int) : Env := envH eqsT (suTD s) [(98, sl3 (.own 25 1) (.slc 1) 118 24 flD.agg aD c6 kPD G)]
noncomputable def suE2D (s : SO D6) (G : Fl D6 → Ap D6 × Ap D6 → W6 × W6 → Ap D6 × Int) : Env := envH eqsT (suTD s) [(98, sl3 (.own 25 2) (.slc 2) 118 24 flD.agg (CC.prod aD aD) (CC.prod c6 c6) kPD G)]
set_option maxRecDepth 100000 in
theorem su1_runD (s : SO D6) (G : Fl D6 → Ap D6 → W6 → Ap D6 × Int) (p : Ap D6) (n : W6) : (afunH PR (suE1D s G) [24] 10 45 [(SlA.slc 1).at 0, (SlA.slc 1).at 1] (twoAH aD c6 28 24 p n) 2).strict =
    .br (s.be p) (.leaf (kPD.enc (s.ou (G s.fi (s.inn p) n).1, (G s.fi (s.inn p) n).2))) noneDA := by kernel_rfl
set_option maxRecDepth 100000 in
theorem su2_runD (s : SO D6) (G : Fl D6 → Ap D6 × Ap D6 → W6 × W6 → Ap D6 × Int) (p q : Ap D6) (n m : W6) : (afunH PR (suE2D s G) [24] 10 45 [(SlA.slc 2).at 0, (SlA.slc 2).at 1] (twoAH (CC.prod aD aD) (CC.prod c6 c6) 28 24 (p, q) (n, m)) 2).strict =
    .br (s.be p) (.br (s.be q) (.leaf (kPD.enc (s.ou (G s.fi (s.inn p, s.inn q) (n, m)).1, (G s.fi (s.inn p, s.inn q) (n, m)).2))) noneDA) noneDA := by kernel_rfl

noncomputable def adED (G : Ap D6 × Ap D6 → W6 × W6 → Ap D6 × Int) (ofw : BitVec 64 → W6) : Env := envH eqsT [(31, fn1 kU c6.agg ofw)] [(45, sl2 (.slc 2) (.slc 2) 28 24 (CC.prod aD aD) (CC.prod c6 c6) kPD G)]
noncomputable def muED (G : Ap D6 → W6 → Ap D6 × Int) : Env := envH eqsT [] [(45, sl2 (.slc 1) (.slc 1) 28 24 aD c6 kPD G)]
set_option maxRecDepth 100000 in
theorem mu_runD (G : Ap D6 → W6 → Ap D6 × Int) (p : Ap D6) (n : W6) : (afunR PR (muED G) [] (fun _ => none) 10 42 [aD.agg.enc p, c6.agg.enc n]).strict =
    .leaf (kPD.enc (G p n)) := by kernel_rfl

end Go.Rq

/- Sums of one and of two points: contracts. Written by a program of ours. -/
namespace Go.Rq
open Go Go.Proofs


def gaOW : GO W6 := ⟨onE fW eqW, raiseJ fW, timesW, sumE fW eqW, lowFW⟩
theorem gaT_okW : TabPOk PR (gaTW gaOW) := TabPOk.cons onW_ok (TabPOk.cons raW_ok (TabPOk.cons tm_okW (TabPOk.cons suW_ok (TabPOk.cons lowFW_ok TabPOk.nil))))
theorem gaE_okW : EnvOk PR (gaEW gaOW) := envH_ok eqsT_ok gaT_okW TabHOk.nil
def gath1W : Fl W6 → Ap W6 → W6 → Ap W6 × Int := ga1 gaOW zeroW
def gath2W : Fl W6 → Ap W6 × Ap W6 → W6 × W6 → Ap W6 × Int := ga2 gaOW zeroW
theorem ga_entW : Enters PR 164 := enters_of (fn := Tryz.f164) (by kernel_rfl) (by kernel_rfl) (by kernel_rfl)
theorem ga1_okW : HeapOk PR 164 (sl3 (.own 13 1) (.slc 1) 107 24 flW.agg aW c6 kPW gath1W) :=
  sl3_ok gaE_okW mixed (sym := [27]) (lf := 10) (fn := Tryz.f164) (c := bodyOf PR 164) (by kernel_rfl) (by kernel_rfl) (by kernel_rfl) (tabOk_none _)
    (fun f p n => givesH (ga1_runW gaOW f p n) (holds_br (B := kPW) (holds_leaf (kPW.h1 _)) (holds_leaf noneFlatW)))
theorem ga2_okW : HeapOk PR 164 (sl3 (.own 13 2) (.slc 2) 107 24 flW.agg (CC.prod aW aW) (CC.prod c6 c6) kPW gath2W) :=
  sl3_ok gaE_okW mixed (sym := [27]) (lf := 10) (fn := Tryz.f164) (c := bodyOf PR 164) (by kernel_rfl) (by kernel_rfl) (by kernel_rfl) (tabOk_none _)
    (fun f p n => givesH (ga2_runW gaOW f p.1 p.2 n.1 n.2) (holds_br (B := kPW) (holds_br (B := kPW) (holds_leaf (kPW.h1 _)) (holds_leaf noneFlatW)) (holds_leaf noneFlatW)))

def suOW : SO W6 := ⟨belowP1, fld1, inP1, outP1⟩
theorem suT_okW : TabPOk PR (suTW suOW) := TabPOk.cons belowp1_ok (TabPOk.cons inp1_ok (TabPOk.cons first_ok (TabPOk.cons outp1_ok TabPOk.nil)))
def sumP1W : Ap W6 → W6 → Ap W6 × Int := sm1 zeroW suOW gath1W
def sumP2W : Ap W6 × Ap W6 → W6 × W6 → Ap W6 × Int := sm2 zeroW suOW gath2W
theorem su_entW : Enters PR 115 := enters_of (fn := Tryz.f115) (by kernel_rfl) (by kernel_rfl) (by kernel_rfl)
theorem su1_okW : HeapOk PR 115 (sl2 (.slc 1) (.slc 1) 45 24 aW c6 kPW sumP1W) :=
  sl2_ok (E := suE1W suOW gath1W) (envH_ok eqsT_ok suT_okW (TabHOk.cons ga_entW ga1_okW TabHOk.nil)) mixed (sym := [24]) (lf := 10) (fn := Tryz.f115) (c := bodyOf PR 115) (by kernel_rfl) (by kernel_rfl) (by kernel_rfl) (tabOk_none _)
    (fun p n => givesH (su1_runW suOW gath1W p n) (holds_br (B := kPW) (holds_leaf (kPW.h1 _)) (holds_leaf noneFlatW)))
theorem su2_okW : HeapOk PR 115 (sl2 (.slc 2) (.slc 2) 45 24 (CC.prod aW aW) (CC.prod c6 c6) kPW sumP2W) :=
  sl2_ok (E := suE2W suOW gath2W) (envH_ok eqsT_ok suT_okW (TabHOk.cons ga_entW ga2_okW TabHOk.nil)) mixed (sym := [24]) (lf := 10) (fn := Tryz.f115) (c := bodyOf PR 115) (by kernel_rfl) (by kernel_rfl) (by kernel_rfl) (tabOk_none _)
    (fun p n => givesH (su2_runW suOW gath2W p.1 p.2 n.1 n.2) (holds_br (B := kPW) (holds_br (B := kPW) (holds_leaf (kPW.h1 _)) (holds_leaf noneFlatW)) (holds_leaf noneFlatW)))

def addP1 (p q : Ap W6) : Ap W6 × Int := sumP2W (p, q) (ofW (bitW true), ofW (bitW true))
theorem adE_okW : EnvOk PR (adEW sumP2W ofW) := envH_ok eqsT_ok (TabPOk.cons of_ok TabPOk.nil) (TabHOk.cons su_entW su2_okW TabHOk.nil)
theorem muE_okW : EnvOk PR (muEW sumP1W) := envH_ok eqsT_ok TabPOk.nil (TabHOk.cons su_entW su1_okW TabHOk.nil)
theorem mu_ctxW : Ctx PR (muEW sumP1W) [] (fun _ => none) 10 70 :=
  ctx_of muE_okW mixed (fn := Tryz.f70) (by kernel_rfl) (by kernel_rfl) (by kernel_rfl) (tabOk_none _)
theorem mulp1_ok : CallOk PR 70 (fn2 aW.agg c6.agg kPW sumP1W) :=
  .inl ⟨enters_of (fn := Tryz.f70) (by kernel_rfl) (by kernel_rfl) (by kernel_rfl), pure2 mu_ctxW (fun p n => leafVal (B := kPW) (y := sumP1W p n) (mu_runW sumP1W p n))⟩


def gaOD : GO D6 := ⟨onE fD eqD, raiseJ fD, timesD, sumE fD eqD, lowFD⟩
theorem gaT_okD : TabPOk PR (gaTD gaOD) := TabPOk.cons onD_ok (TabPOk.cons raD_ok (TabPOk.cons tm_okD (TabPOk.cons suD_ok (TabPOk.cons lowFD_ok TabPOk.nil))))
theorem gaE_okD : EnvOk PR (gaED gaOD) := envH_ok eqsT_ok gaT_okD TabHOk.nil
def gath1D : Fl D6 → Ap D6 → W6 → Ap D6 × Int := ga1 gaOD zero2
def gath2D : Fl D6 → Ap D6 × Ap D6 → W6 × W6 → Ap D6 × Int := ga2 gaOD zero2
theorem ga_entD : Enters PR 98 := enters_of (fn := Tryz.f98) (by kernel_rfl) (by kernel_rfl) (by kernel_rfl)
theorem ga1_okD : HeapOk PR 98 (sl3 (.own 25 1) (.slc 1) 118 24 flD.agg aD c6 kPD gath1D) :=
  sl3_ok gaE_okD mixed (sym := [27]) (lf := 10) (fn := Tryz.f98) (c := bodyOf PR 98) (by kernel_rfl) (by kernel_rfl) (by kernel_rfl) (tabOk_none _)
    (fun f p n => givesH (ga1_runD gaOD f p n) (holds_br (B := kPD) (holds_leaf (kPD.h1 _)) (holds_leaf noneFlatD)))
theorem ga2_okD : HeapOk PR 98 (sl3 (.own 25 2) (.slc 2) 118 24 flD.agg (CC.prod aD aD) (CC.prod c6 c6) kPD gath2D) :=
  sl3_ok gaE_okD mixed (sym := [27]) (lf := 10) (fn := Tryz.f98) (c := bodyOf PR 98) (by kernel_rfl) (by kernel_rfl) (by kernel_rfl) (tabOk_none _)
    (fun f p n => givesH (ga2_runD gaOD f p.1 p.2 n.1 n.2) (holds_br (B := kPD) (holds_br (B := kPD) (holds_leaf (kPD.h1 _)) (holds_leaf noneFlatD)) (holds_leaf noneFlatD)))

def suOD : SO D6 := ⟨belowP2, fld2, inP2, outP2⟩
theorem suT_okD : TabPOk PR (suTD suOD) := TabPOk.cons belowp2_ok (TabPOk.cons inp2_ok (TabPOk.cons second_ok (TabPOk.cons outp2_ok TabPOk.nil)))
def sumP1D : Ap D6 → W6 → Ap D6 × Int := sm1 zero2 suOD gath1D
def sumP2D : Ap D6 × Ap D6 → W6 × W6 → Ap D6 × Int := sm2 zero2 suOD gath2D
theorem su_entD : Enters PR 45 := enters_of (fn := Tryz.f45) (by kernel_rfl) (by kernel_rfl) (by kernel_rfl)
theorem su1_okD : HeapOk PR 45 (sl2 (.slc 1) (.slc 1) 28 24 aD c6 kPD sumP1D) :=
  sl2_ok (E := suE1D suOD gath1D) (envH_ok eqsT_ok suT_okD (TabHOk.cons ga_entD ga1_okD TabHOk.nil)) mixed (sym := [24]) (lf := 10) (fn := Tryz.f45) (c := bodyOf PR 45) (by kernel_rfl) (by kernel_rfl) (by kernel_rfl) (tabOk_none _)
    (fun p n => givesH (su1_runD suOD gath1D p n) (holds_br (B := kPD) (holds_leaf (kPD.h1 _)) (holds_leaf noneFlatD)))
theorem su2_okD : HeapOk PR 45 (sl2 (.slc 2) (.slc 2) 28 24 (CC.prod aD aD) (CC.prod c6 c6) kPD sumP2D) :=
  sl2_ok (E := suE2D suOD gath2D) (envH_ok eqsT_ok suT_okD (TabHOk.cons ga_entD ga2_okD TabHOk.nil)) mixed (sym := [24]) (lf := 10) (fn := Tryz.f45) (c := bodyOf PR 45) (by kernel_rfl) (by kernel_rfl) (by kernel_rfl) (tabOk_none _)
    (fun p n => givesH (su2_runD suOD gath2D p.1 p.2 n.1 n.2) (holds_br (B := kPD) (holds_br (B := kPD) (holds_leaf (kPD.h1 _)) (holds_leaf noneFlatD)) (holds_leaf noneFlatD)))

def addP2 (p q : Ap D6) : Ap D6 × Int := sumP2D (p, q) (ofW (bitW true), ofW (bitW true))
theorem adE_okD : EnvOk PR (adED sumP2D ofW) := envH_ok eqsT_ok (TabPOk.cons of_ok TabPOk.nil) (TabHOk.cons su_entD su2_okD TabHOk.nil)
theorem muE_okD : EnvOk PR (muED sumP1D) := envH_ok eqsT_ok TabPOk.nil (TabHOk.cons su_entD su1_okD TabHOk.nil)
theorem mu_ctxD : Ctx PR (muED sumP1D) [] (fun _ => none) 10 42 :=
  ctx_of muE_okD mixed (fn := Tryz.f42) (by kernel_rfl) (by kernel_rfl) (by kernel_rfl) (tabOk_none _)
theorem mulp2_ok : CallOk PR 42 (fn2 aD.agg c6.agg kPD sumP1D) :=
  .inl ⟨enters_of (fn := Tryz.f42) (by kernel_rfl) (by kernel_rfl) (by kernel_rfl), pure2 mu_ctxD (fun p n => leafVal (B := kPD) (y := sumP1D p n) (mu_runD sumP1D p n))⟩

end Go.Rq
