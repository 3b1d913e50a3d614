/- The curves' multiples: contracts. Written by a program of ours. -/
import Derived.Test.YtdbcjiggimppdaaRqBg
namespace Go.Rq
open Go Go.Proofs

theorem tm_law {K : Type} (t : TO K) (f : Fl K) (p : Jp K) (n : W6) (rt : XS → Tree (AExit × XS)) (I : Int × Jp K → XS) (hr : ∀ (z : Int) (out : Jp K), (rt (I (z, out))).strict =
    .br (decide (z ≥ 0))
      (.br (t.bt n z == 1)
        (.leaf (.normal, I (IntKind.i64.wrap (z - 1), t.su f (t.tw f out) p)))
        (.leaf (.normal, I (IntKind.i64.wrap (z - 1), t.tw f out))))
      (.leaf (.exit 0, I (z, out)))) {R : Jp K} {Q : AExit → XS → Prop} (hK : Q .normal (I (-1, R))) :
    ∀ d : Int × Jp K, (-1 ≤ d.1 ∧ d.1 ≤ 383 ∧ timesG t f p n (d.1 + 1).toNat d.2 = R) → (rt (I d)).holds (fun r => match r.1 with
      | .normal => ∃ j : Int × Jp K, (-1 ≤ j.1 ∧ j.1 ≤ 383 ∧ timesG t f p n (j.1 + 1).toNat j.2 = R) ∧ (j.1 + 1).toNat < (d.1 + 1).toNat ∧ r.2 = I j
      | .exit q => if q = 0 then Q .normal r.2 else Q (.exit q) r.2
      | .ret => Q .ret r.2) := by
  rintro ⟨z, out⟩ ⟨h0, h1, h2⟩
  apply Tree.holds_strict
  rw [hr]
  refine ⟨fun hz => ?_, fun hz => ?_⟩
  · have hz : 0 ≤ z := by simpa using hz
    have hw : IntKind.i64.wrap (z - 1) = z - 1 := wrap_id (by omega) (by omega)
    have hk : (z + 1).toNat = z.toNat + 1 := by omega
    simp only at h2
    rw [hk] at h2
    simp only [timesG] at h2
    rw [show ((z.toNat : Nat) : Int) = z by omega] at h2
    have hk' : (z - 1 + 1).toNat = z.toNat := by omega
    refine ⟨fun hb => ⟨⟨z - 1, t.su f (t.tw f out) p⟩, ⟨by simp only; omega, by simp only; omega, ?_⟩, ?_, ?_⟩, fun hb => ⟨⟨z - 1, t.tw f out⟩, ⟨by simp only; omega, by simp only; omega, ?_⟩, ?_, ?_⟩⟩
    · rw [hb] at h2
      simp only [hk']
      exact h2
    · show (z - 1 + 1).toNat < (z + 1).toNat
      omega
    · rw [hw]
    · rw [hb] at h2
      simp only [hk']
      exact h2
    · show (z - 1 + 1).toNat < (z + 1).toNat
      omega
    · rw [hw]
  · have hz : z = -1 := by
      have : ¬ 0 ≤ z := by simpa using hz
      omega
    subst hz
    have h2 : out = R := h2
    show (if (0 : Nat) = 0 then Q .normal (I (-1, out)) else Q (.exit 0) (I (-1, out)))
    rw [if_pos rfl, h2]
    exact hK

theorem chainV_mem {β : Type} {l : List (Bool × β)} {y : β} {Q : β → Prop} (h : ∀ c x, (c, x) ∈ l → Q x) (hy : Q y) : Q (chainV l y) := by
  induction l with
  | nil => exact hy
  | cons p t ih =>
    obtain ⟨c, x⟩ := p
    simp only [chainV]
    cases c with
    | true => exact h true x (List.mem_cons_self ..)
    | false => exact ih fun c x hm => h c x (List.mem_cons_of_mem _ hm)

theorem lenI_le (a : W6) : 0 ≤ lenI a ∧ lenI a ≤ 384 := by
  have b : ∀ x : BitVec 64, bl x.toNat ≤ 64 := fun x => bl_spec.2 x.isLt
  have g : ∀ (k : Int) (x : BitVec 64), 0 ≤ k → k ≤ 320 → 0 ≤ IntKind.i64.wrap (k + ((bl x.toNat : Nat) : Int)) ∧ IntKind.i64.wrap (k + ((bl x.toNat : Nat) : Int)) ≤ 384 := by
    intro k x h1 h2
    have := b x
    rw [wrap_id (by omega) (by omega)]
    omega
  unfold lenI lenL
  refine chainV_mem (Q := fun x => 0 ≤ x ∧ x ≤ 384) (fun c x h => ?_) (by omega)
  simp only [List.mem_cons, Prod.mk.injEq, List.not_mem_nil, or_false] at h
  rcases h with ⟨-, rfl⟩ | ⟨-, rfl⟩ | ⟨-, rfl⟩ | ⟨-, rfl⟩ | ⟨-, rfl⟩ | ⟨-, rfl⟩ <;> exact g _ _ (by omega) (by omega)


@[irreducible] noncomputable def tmBW (t : TO W6) (f : Fl W6) (p : Jp W6) (n : W6) (r : Jp W6) : BEnt := ⟨tmKW.tm, tmKW.ids, tmKW.n, tmXW t f p n, .leaf (.normal, tmIW t f p n (-1, r))⟩
set_option maxRecDepth 100000 in
theorem tm_runW (t : TO W6) (f : Fl W6) (p : Jp W6) (n : W6) (r : Jp W6) : (afunR PR (tmEW t) [18, 27] (tabOf [(0, tmBW t f p n r)]) 10 138 [flW.agg.enc f, jW.agg.enc p, c6.agg.enc n]).strict =
    .same (tmXW t f p n) (tmXW t f p n) (.leaf (jW.agg.enc r)) := by kernel_rfl
set_option maxRecDepth 100000 in
theorem tm_headW (t : TO W6) (f : Fl W6) (p : Jp W6) (n : W6) : tmXW t f p n = tmIW t f p n (IntKind.i64.wrap (t.ln n - 1), ⟨f.one, f.one, zeroW⟩) := by kernel_rfl
theorem tm_blkW : blkAll 0 (bodyOf PR 138) = [.loop tmCW] := by kernel_rfl
def tmOW : TO W6 := ⟨fun _ p => twiceJ fW p, sumE fW eqW, lenI, bitI⟩
theorem tmT_eqW : [(176, fn2 flW.agg jW.agg jW.agg (fun _ p => twiceJ fW p)), (161, fn3 flW.agg jW.agg jW.agg jW.agg (sumE fW eqW)),
  (116, fn1 c6.agg (kInt .i64) lenI), (177, fn2 c6.agg (kInt .i64) (kInt .i64) bitI)] = tmTW tmOW := by kernel_rfl
theorem tmT_okW : TabPOk PR (tmTW tmOW) := Eq.subst (motive := TabPOk PR) tmT_eqW (TabPOk.cons twW_ok (TabPOk.cons suW_ok (TabPOk.cons len_ok (TabPOk.cons bit_ok TabPOk.nil))))
theorem tmE_okW : EnvOk PR (tmEW tmOW) := envOf_ok eqsT_ok tmT_okW
theorem tm_codeOkW : codeOk (tmEW tmOW) tmCW = true := by kernel_rfl
def timesW (f : Fl W6) (p : Jp W6) (n : W6) : Jp W6 := timesG tmOW f p n (lenI n).toNat ⟨f.one, f.one, zeroW⟩

theorem tm_startW (f : Fl W6) (p : Jp W6) (n : W6) : ∀ d : Int × Jp W6, d = (IntKind.i64.wrap (tmOW.ln n - 1), ⟨f.one, f.one, zeroW⟩) → -1 ≤ d.1 ∧ d.1 ≤ 383 ∧ timesG tmOW f p n (d.1 + 1).toNat d.2 = timesW f p n := by
  rintro d rfl
  have hl := lenI_le n
  have hw : IntKind.i64.wrap (tmOW.ln n - 1) = lenI n - 1 := wrap_id (n := lenI n - 1) (by omega) (by omega)
  rw [hw]
  refine ⟨?_, ?_, ?_⟩
  · show -1 ≤ lenI n - 1
    omega
  · show lenI n - 1 ≤ 383
    omega
  · show timesG tmOW f p n (lenI n - 1 + 1).toNat _ = timesG tmOW f p n (lenI n).toNat _
    rw [show lenI n - 1 + 1 = lenI n by omega]

theorem tm_loopW (f : Fl W6) (p : Jp W6) (n : W6) {Fr0 : Fr} {ds : List Deferred} {Q : AExit → XS → Prop} (hK : Q .normal (tmIW tmOW f p n (-1, timesW f p n))) :
    Tri PR Fr0 ds 0 (.block 0 (.loop tmCW)) (tmXW tmOW f p n) Q :=
  Eq.subst (motive := fun y => Tri PR Fr0 ds 0 (.block 0 (.loop tmCW)) y Q) (tm_headW tmOW f p n).symm <| blockLoop (m := 0) tmE_okW mixed (sym := [18, 27]) (tab := fun _ => none) (lf := 10) (k := tmKW) (kx := tmKW) (kr := tmKW) (Nat.zero_le _) (Nat.zero_le _) (Nat.zero_le _) tm_codeOkW (tabOk_none _)
    (tmIW tmOW f p n) (fun d => -1 ≤ d.1 ∧ d.1 ≤ 383 ∧ timesG tmOW f p n (d.1 + 1).toNat d.2 = timesW f p n) (fun d => (d.1 + 1).toNat) _ (tm_startW f p n _ rfl)
    (tm_law tmOW f p n _ (tmIW tmOW f p n) (tm_roundW tmOW f p n) hK)

theorem tmB_nW (t : TO W6) (f : Fl W6) (p : Jp W6) (n : W6) (r : Jp W6) : (tmBW t f p n r).n = 15 ∧ (tmBW t f p n r).pre = tmXW t f p n ∧ (tmBW t f p n r).post = .leaf (.normal, tmIW t f p n (-1, r)) := by
  unfold tmBW
  exact ⟨rfl, rfl, rfl⟩

theorem tm_ctxW (f : Fl W6) (p : Jp W6) (n : W6) : Ctx PR (tmEW tmOW) [18, 27] (tabOf [(0, tmBW tmOW f p n (timesW f p n))]) 10 138 :=
  ctx_of tmE_okW mixed (fn := Try.f138) (by kernel_rfl) (by kernel_rfl) (by kernel_rfl)
    (tabOk_one (Nat.zero_le _) tm_blkW fun Fr0 ds Q h => by
      obtain ⟨-, h2, h3⟩ := tmB_nW tmOW f p n (timesW f p n)
      rw [h3] at h
      rw [h2]
      exact tm_loopW f p n h)

theorem tm_okW : CallOk PR 138 (fn3 flW.agg jW.agg c6.agg jW.agg timesW) :=
  .inl ⟨enters_of (fn := Try.f138) (by kernel_rfl) (by kernel_rfl) (by kernel_rfl),
    pure3X fun f p n => .of (tm_ctxW f p n) (sameVal (tm_runW tmOW f p n (timesW f p n)))⟩


@[irreducible] noncomputable def tmBD (t : TO D6) (f : Fl D6) (p : Jp D6) (n : W6) (r : Jp D6) : BEnt := ⟨tmKD.tm, tmKD.ids, tmKD.n, tmXD t f p n, .leaf (.normal, tmID t f p n (-1, r))⟩
set_option maxRecDepth 100000 in
theorem tm_runD (t : TO D6) (f : Fl D6) (p : Jp D6) (n : W6) (r : Jp D6) : (afunR PR (tmED t) [18, 27] (tabOf [(0, tmBD t f p n r)]) 10 157 [flD.agg.enc f, jD.agg.enc p, c6.agg.enc n]).strict =
    .same (tmXD t f p n) (tmXD t f p n) (.leaf (jD.agg.enc r)) := by kernel_rfl
set_option maxRecDepth 100000 in
theorem tm_headD (t : TO D6) (f : Fl D6) (p : Jp D6) (n : W6) : tmXD t f p n = tmID t f p n (IntKind.i64.wrap (t.ln n - 1), ⟨f.one, f.one, zero2⟩) := by kernel_rfl
theorem tm_blkD : blkAll 0 (bodyOf PR 157) = [.loop tmCD] := by kernel_rfl
def tmOD : TO D6 := ⟨fun _ p => twiceJ fD p, sumE fD eqD, lenI, bitI⟩
theorem tmT_eqD : [(186, fn2 flD.agg jD.agg jD.agg (fun _ p => twiceJ fD p)), (162, fn3 flD.agg jD.agg jD.agg jD.agg (sumE fD eqD)),
  (116, fn1 c6.agg (kInt .i64) lenI), (177, fn2 c6.agg (kInt .i64) (kInt .i64) bitI)] = tmTD tmOD := by kernel_rfl
theorem tmT_okD : TabPOk PR (tmTD tmOD) := Eq.subst (motive := TabPOk PR) tmT_eqD (TabPOk.cons twD_ok (TabPOk.cons suD_ok (TabPOk.cons len_ok (TabPOk.cons bit_ok TabPOk.nil))))
theorem tmE_okD : EnvOk PR (tmED tmOD) := envOf_ok eqsT_ok tmT_okD
theorem tm_codeOkD : codeOk (tmED tmOD) tmCD = true := by kernel_rfl
def timesD (f : Fl D6) (p : Jp D6) (n : W6) : Jp D6 := timesG tmOD f p n (lenI n).toNat ⟨f.one, f.one, zero2⟩

theorem tm_startD (f : Fl D6) (p : Jp D6) (n : W6) : ∀ d : Int × Jp D6, d = (IntKind.i64.wrap (tmOD.ln n - 1), ⟨f.one, f.one, zero2⟩) → -1 ≤ d.1 ∧ d.1 ≤ 383 ∧ timesG tmOD f p n (d.1 + 1).toNat d.2 = timesD f p n := by
  rintro d rfl
  have hl := lenI_le n
  have hw : IntKind.i64.wrap (tmOD.ln n - 1) = lenI n - 1 := wrap_id (n := lenI n - 1) (by omega) (by omega)
  rw [hw]
  refine ⟨?_, ?_, ?_⟩
  · show -1 ≤ lenI n - 1
    omega
  · show lenI n - 1 ≤ 383
    omega
  · show timesG tmOD f p n (lenI n - 1 + 1).toNat _ = timesG tmOD f p n (lenI n).toNat _
    rw [show lenI n - 1 + 1 = lenI n by omega]

theorem tm_loopD (f : Fl D6) (p : Jp D6) (n : W6) {Fr0 : Fr} {ds : List Deferred} {Q : AExit → XS → Prop} (hK : Q .normal (tmID tmOD f p n (-1, timesD f p n))) :
    Tri PR Fr0 ds 0 (.block 0 (.loop tmCD)) (tmXD tmOD f p n) Q :=
  Eq.subst (motive := fun y => Tri PR Fr0 ds 0 (.block 0 (.loop tmCD)) y Q) (tm_headD tmOD f p n).symm <| blockLoop (m := 0) tmE_okD mixed (sym := [18, 27]) (tab := fun _ => none) (lf := 10) (k := tmKD) (kx := tmKD) (kr := tmKD) (Nat.zero_le _) (Nat.zero_le _) (Nat.zero_le _) tm_codeOkD (tabOk_none _)
    (tmID tmOD f p n) (fun d => -1 ≤ d.1 ∧ d.1 ≤ 383 ∧ timesG tmOD f p n (d.1 + 1).toNat d.2 = timesD f p n) (fun d => (d.1 + 1).toNat) _ (tm_startD f p n _ rfl)
    (tm_law tmOD f p n _ (tmID tmOD f p n) (tm_roundD tmOD f p n) hK)

theorem tmB_nD (t : TO D6) (f : Fl D6) (p : Jp D6) (n : W6) (r : Jp D6) : (tmBD t f p n r).n = 15 ∧ (tmBD t f p n r).pre = tmXD t f p n ∧ (tmBD t f p n r).post = .leaf (.normal, tmID t f p n (-1, r)) := by
  unfold tmBD
  exact ⟨rfl, rfl, rfl⟩

theorem tm_ctxD (f : Fl D6) (p : Jp D6) (n : W6) : Ctx PR (tmED tmOD) [18, 27] (tabOf [(0, tmBD tmOD f p n (timesD f p n))]) 10 157 :=
  ctx_of tmE_okD mixed (fn := Try.f157) (by kernel_rfl) (by kernel_rfl) (by kernel_rfl)
    (tabOk_one (Nat.zero_le _) tm_blkD fun Fr0 ds Q h => by
      obtain ⟨-, h2, h3⟩ := tmB_nD tmOD f p n (timesD f p n)
      rw [h3] at h
      rw [h2]
      exact tm_loopD f p n h)

theorem tm_okD : CallOk PR 157 (fn3 flD.agg jD.agg c6.agg jD.agg timesD) :=
  .inl ⟨enters_of (fn := Try.f157) (by kernel_rfl) (by kernel_rfl) (by kernel_rfl),
    pure3X fun f p n => .of (tm_ctxD f p n) (sameVal (tm_runD tmOD f p n (timesD f p n)))⟩

end Go.Rq
