/- A function that lays a row of constant bytes and marks it. -/
import Derived.Test.YtcboekjnibppdaaGreatDoorRq10
import Derived.ProofKit
import Derived.Test.YtcboekjnibppdaaGreatDoorRq06
import Derived.Test.YtcboekjnibppdaaGreatDoorRq09
namespace Go.Rq
open Go

/-- What such a function hands back. -/
def layK (n : Nat) (B : Blk) : List AV → Nat → Option (Bool × AV × Blk)
  | [], z => some (true, .slc z 0 n n, B)
  | _, _ => none

theorem layK_ok {P : Program} {f : FuncId} {fn : Func} {i0 i1 : Nat} {o0 o1 o2 o3 : Oper} {v0 : Value} {t e : TypeId} {n : Nat} {parts : Array (Nat × Operand)} {cs : List AV}
    (hf : P.funcs[f]? = some fn) (hb : fn.body = some (.seq (.region i0 #[o0] false) (.seq (.region i1 #[o1, o2, o3] false) .ret)))
    (k0 : o0.op = .assign (.const v0) ∧ o0.dst = some 0 ∧ o0.guard = none) (k1 : o1.op = .buildSlice t n parts ∧ o1.dst = some 1 ∧ o1.guard = none)
    (k2 : o2.op = .convert t t (.tmp 1) ∧ o2.dst = some 2 ∧ o2.guard = none) (k3 : o3.op = .assign (.tmp 2) ∧ o3.dst = some 0 ∧ o3.guard = none)
    (hr : fn.results = #[.tmp 0]) (hn : fn.ntmps = 3) (ht : P.underlying t = some (.slice e)) (he : P.underlying e = some (.int .u8))
    (hs : ∀ z, effBuildSlice P (look [.any, .any, .any]) z t n parts.toList = some (true, .slc z 0 n n, [(z, some ⟨true, e, cs⟩)])) (hce : (⟨true, e, cs⟩ : Blk).cell = true := by rfl) :
    LayOk P f (layK n ⟨false, e, cs⟩) := by
  constructor
  intro F ρ as xs h z r B w hg hx hw hz
  unfold layK at hg
  split at hg
  case h_2 => cases hg
  simp only [Option.some.injEq, Prod.mk.injEq] at hg
  obtain ⟨-, rfl, rfl⟩ := hg
  rw [hx.unnil]
  rcases o0 with ⟨d0, p0, y0, q0, a0, u0⟩
  rcases o1 with ⟨d1, p1, y1, q1, a1, u1⟩
  rcases o2 with ⟨d2, p2, y2, q2, a2, u2⟩
  rcases o3 with ⟨d3, p3, y3, q3, a3, u3⟩
  simp only at k0 k1 k2 k3
  obtain ⟨rfl, rfl, rfl⟩ := k0
  obtain ⟨rfl, rfl, rfl⟩ := k1
  obtain ⟨rfl, rfl, rfl⟩ := k2
  obtain ⟨rfl, rfl, rfl⟩ := k3
  refine calls_of_wp hf hb ?_
  rw [hn]
  show Code.wp _ _ _ ⟨#[undef, undef, undef], []⟩ _
  refine wp_seq (wp_region ?_)
  refine .inl (wp_value (v := v0) (w' := w) rfl ?_)
  show Code.wp _ _ _ ⟨#[v0, undef, undef], []⟩ _
  refine wp_seq (wp_region ?_)
  have ev0 : EvOk ρ (look [.any, .any, .any]) (Act.mk #[v0, undef, undef] []).eval := look_ok (.cons (.any _) (.cons (.any _) (.cons (.any _) .nil)))
  obtain ⟨v, w1, ρ1, h1, h2, h3, h4, h5⟩ := buildSlice_sim (hs z) ev0 hw hz
  refine .inl (wp_value (v := v) (w' := w1) ?_ ?_)
  · show (execOp (Act.mk #[v0, undef, undef] []).eval (Oper.mk (some 1) (.buildSlice t n parts) y1 q1 a1 none)).run P w = _
    simp only [execOp, Sem.run_bind, h1, Result.andThen_ok, Sem.run_pure]
    try rfl
  obtain ⟨w2, g1, -, g3⟩ := effMark_run (s := t) (d := t) h5 (Nat.beq_refl t) (a := .slc z 0 n n) (r := .slc z 0 n n) (c := true) (ups := [(z, some ⟨false, e, cs⟩)]) (by
    unfold effMark
    rw [ht]; simp only [he, slName]
    rw [show AH.getC ([(z, some (⟨true, e, cs⟩ : Blk))] ++ h) z = some ⟨true, e, cs⟩ from getC_mk (by rw [List.cons_append, AH.get_cons, if_pos rfl]) hce]) h4
  have e1 : (Act.mk #[v0, v, undef] []).eval (.tmp 1) = v := rfl
  refine .inl (wp_value (v := v) (w' := w2) ?_ ?_)
  · show (execOp (Act.mk #[v0, v, undef] []).eval (Oper.mk (some 2) (.convert t t (.tmp 1)) y2 q2 a2 none)).run P w1 = _
    simp only [execOp, Sem.run_bind, e1, g1, Result.andThen_ok, Sem.run_pure]
    try rfl
  refine .inl (wp_value (v := v) (w' := w2) rfl ?_)
  refine wp_ret ⟨rfl, v, ?_, v, ρ1, rfl, h2, h3, ?_, ?_⟩
  · show (results fn #[v, v, v]).run P w2 = _
    unfold results
    rw [hr, ← Array.toArray_toList (xs := (#[ResultVar.tmp 0] : Array ResultVar)), List.mapM_toArray]
    rfl
  · exact h4
  · refine ⟨fun id B hB => g3.blk id B ?_, fun i j B B' b hi hj => g3.inj i j B B' b ?_ ?_, g3.fr, g3.os, g3.tape, g3.out, g3.gc⟩
    all_goals (simp only [List.cons_append, List.nil_append, AH.get_cons] at *; split <;> simp_all)
end Go.Rq

/- A law whose arguments stay as they are: its row, from what the law's function comes to. -/
namespace Go.Rq
open Go Go.ChangeShapes Go.WideShapes Go.RowKit

section
variable {H : Type} {enc : TypeId × Value → H} {P : Program}

theorem trodCons {w : World} {base : Nat} {sp : Nat → Bool} {held : Bool} {t : TypeId} {ts : List TypeId} {v : Value} {vs : List Value} {d : DataW H} {ds : List (DataW H)} {p p' : List MemPlace}
    (h : DataW.Trod enc P w base sp held t v d p) (hs : DataW.TrodAll enc P w base sp held ts vs ds p') : DataW.TrodAll enc P w base sp held (t :: ts) (v :: vs) (d :: ds) (p ++ p') := ⟨p, p', h, hs, rfl⟩

theorem stays_all (hl : laidOutB P = true) {W W' : World} {sp : Nat → Bool} (hb : Below W.heap.size W W') :
    ∀ {ts : List TypeId} {vs : List Value} {ds : List (DataW H)} {ps : List MemPlace}, (∀ t ∈ ts, P.readableRec t = true ∧ t < P.types.size) →
    DataW.TrodAll enc P W 0 (fun _ => true) true ts vs ds ps → (∀ x ∈ ps, x.block < W.heap.size) → (∀ x ∈ ps, sp x.block = true) → DataW.TrodAll enc P W' 0 sp true ts vs ds ps
  | [], vs, ds, ps, _, h, _, _ => by
    obtain ⟨rfl, rfl, rfl⟩ := trodAll_nil h
    exact trodAll_mk0
  | t :: ts, vs, ds, ps, hr, h, hlt, hs => by
    obtain ⟨v, vs', d, ds', p, q, rfl, rfl, rfl, h1, h2⟩ := trodAll_cons h
    obtain ⟨r1, r2⟩ := hr t (by simp)
    exact trodCons (WideElems.Trod_stays hl r1 r2 h1 (fun x hx => hb.same (hlt x (by simp [hx]))) (fun x hx => hs x (by simp [hx])))
      (stays_all hl hb (fun u hu => hr u (by simp [hu])) h2 (fun x hx => hlt x (by simp [hx])) (fun x hx => hs x (by simp [hx])))

theorem trodAll_length {W : World} {base : Nat} {sp : Nat → Bool} {held : Bool} : ∀ {ts : List TypeId} {vs : List Value} {ds : List (DataW H)} {ps : List MemPlace},
    DataW.TrodAll enc P W base sp held ts vs ds ps → ds.length = ts.length
  | [], vs, ds, ps, h => by obtain ⟨_, rfl, _⟩ := trodAll_nil h; rfl
  | t :: ts, vs, ds, ps, h => by
    obtain ⟨v, vs', d, ds', p, q, rfl, rfl, rfl, _, h2⟩ := trodAll_cons h
    simp [trodAll_length h2]

/-- The given form of a law's specification: true, and the arguments as they were. -/
structure LawSpec (s : ChangeSpec) (k : Nat) : Prop where
  vars : s.vars = []
  fn : ∀ (H : Type) (ds : List (DataW H)), ds.length = k → s.fn H ds = { results := [.lit (.bool true)], args := ds }

theorem law_post {f : Func} {s : ChangeSpec} {k : Nat} (hs : LawSpec s k) (hk : f.params.size = k) {tb : TypeId} (hrt : f.resultTypes = #[tb]) (hb : P.underlying tb = some .bool)
    (hl : laidOutB P = true) (hr : ∀ t ∈ f.params.toList, P.readableRec t = true ∧ t < P.types.size) {apart fresh handsOn again : Bool}
    {W W' : World} {args : Array Value} {ds gs : List (DataW H)} {before : List MemPlace} (hW : DataW.Whole enc P f.params.toList s.vars apart W args.toList ds gs before)
    (hbl : Below W.heap.size W W') : s.post enc P f apart fresh handsOn again W args (.bool true) W' := by
  have hlt := hW.lt
  have hW' := hW
  obtain ⟨p, q, hA, hV, rfl, hfz, hnd⟩ := hW
  rw [hs.vars] at hV
  obtain ⟨rfl, rfl⟩ := trodVars_none hV
  have hlen : ds.length = k := by rw [trodAll_length hA, ← hk]; simp
  have hfn : s.fn H (ds ++ []) = { results := [.lit (.bool true)], args := ds } := by rw [List.append_nil]; exact hs.fn H ds hlen
  simp only [List.append_nil] at hlt hfz hnd
  have hres : ∀ (b : Nat) (sp : Nat → Bool) (hd : Bool), DataW.TrodAll enc P W' b sp hd f.resultTypes.toList ((Value.bool true).resultList f.resultTypes.size) (s.fn H (ds ++ [])).results [] := by
    intro b sp hd
    rw [hfn, hrt]
    exact trodAll_mk1 (shut_bool hb true)
  have hargs : ∀ sp : Nat → Bool, (∀ x ∈ p, sp x.block = true) → DataW.TrodAll enc P W' 0 sp true f.params.toList args.toList (s.fn H (ds ++ [])).args p := by
    intro sp hsp
    rw [hfn]
    exact stays_all hl hbl hr hA hlt hsp
  have hvars : ∀ sp : Nat → Bool, DataW.TrodVars enc P W' sp s.vars (s.fn H (ds ++ [])).vars [] := by
    intro sp
    rw [hfn, hs.vars]
    rfl
  refine ⟨ds, [], p ++ [], [], p, [], hW', hres _ _ _, hargs _ (fun x hx => by simpa using hlt x hx), hvars _, hbl.frame _, fun _ => ?_⟩
  refine ⟨?_, _, _, ([] ++ p) ++ [], ⟨[] ++ p, [], trodAll_append (hargs _ (fun _ _ => rfl)) (hres _ _ _), hvars _, rfl, ?_, ?_⟩, ?_⟩
  · intro j t r hj hv
    rw [hrt] at hj hv
    cases j with
    | zero =>
      simp [Value.resultList] at hj hv
      subst hj; subst hv
      exact okWide_bool_mk hb true
    | succ j => simp at hj
  · intro b off hp
    have hp' : MemPlace.cell b off ∈ p := by simpa using hp
    have : W'.frozen? ⟨b, off, none⟩ = W.frozen? ⟨b, off, none⟩ := hbl.frozen (hlt _ hp')
    rw [this]
    exact hfz b off (by simpa using hp)
  · intro ha
    simpa using hnd ha
  · intro x hx _
    simpa using hx

/-- The step to the row, for a law that reads its arguments alone. -/
theorem law_handed {C : Checked} {os : Os} {f : FuncId} {fn : Func} {s : ChangeSpec} {k : Nat} {conds : List PathCond} {apart fresh handsOn again : Bool} {a : Assume}
    (own : ownKnob C.prog.godebug = none) (started : os.Started) (noInit : C.prog.inits.idxOf? f = none) (hfn : C.prog.funcs[f]? = some fn)
    (witness : ∃ (w : World) (tape : Tape) (i : Input), w.os = os ∧ (w.forCall tape i).Shaped C.prog ∧ i.vars = [] ∧ Input.okWide C.prog (w.forCall tape i) .any w.heap.size f i ∧
      s.pre6 enc C.prog fn conds apart (w.forCall tape i).memory i.args ∧ a.holds C.prog (lone (Frame.enter C.prog f i.args .normal) [] (w.forCall tape i)))
    (hs : LawSpec s k) (hk : fn.params.size = k) {tb : TypeId} (hrt : fn.resultTypes = #[tb]) (hb : C.prog.underlying tb = some .bool)
    (hl : laidOutB C.prog = true) (hr : ∀ t ∈ fn.params.toList, C.prog.readableRec t = true ∧ t < C.prog.types.size)
    (hcall : ∀ (W : World) (base : Nat) (args : Array Value) (ds : List (DataW H)) (p : List MemPlace),
      (∀ (j : Nat) t v, fn.params[j]? = some t → args[j]? = some v → Value.okWide C.prog W .any base t v) →
      DataW.TrodAll enc C.prog W 0 (fun _ => true) true fn.params.toList args.toList ds p →
      Calls C.prog f args W fun e W' => e = .returned (.bool true) ∧ Below W.heap.size W W') :
    ReturnsInHanded a C os f .any (s.pre6 enc C.prog fn conds apart) (s.post enc C.prog fn apart fresh handsOn again) := by
  refine returnsInHanded_of_change own started noInit hfn witness ?_
  intro W base args ds gs before hval hW _ _
  have hW' := hW
  obtain ⟨p, q, hA, _⟩ := hW
  refine (hcall W base args ds p hval hA).mono fun e W' ⟨he, hbl⟩ => ?_
  exact ⟨_, he, law_post hs hk hrt hb hl hr hW' hbl⟩

/-- Likewise, where variables of the program are laid. -/
theorem law_handed_and {C : Checked} {os : Os} {f : FuncId} {fn : Func} {s : ChangeSpec} {k : Nat} {conds : List PathCond} {apart fresh handsOn again : Bool} {a : Assume} {X : World → Array Value → Prop}
    (hX : ∀ (w w' : World) (args : Array Value), w.heap = w'.heap → X w args → X w' args)
    (own : ownKnob C.prog.godebug = none) (started : os.Started) (noInit : C.prog.inits.idxOf? f = none) (hfn : C.prog.funcs[f]? = some fn)
    (witness : ∃ (w : World) (tape : Tape) (i : Input), w.os = os ∧ (w.forCall tape i).Shaped C.prog ∧ i.vars = [] ∧ Input.okWide C.prog (w.forCall tape i) .any w.heap.size f i ∧
      ((s.pre enc C.prog fn conds apart (w.forCall tape i).memory i.args ∧ X (w.forCall tape i).memory i.args) ∧ sizedMet enc C.prog fn (OpenSpec.ofChange s) apart (w.forCall tape i).memory i.args) ∧ a.holds C.prog (lone (Frame.enter C.prog f i.args .normal) [] (w.forCall tape i)))
    (hs : LawSpec s k) (hk : fn.params.size = k) {tb : TypeId} (hrt : fn.resultTypes = #[tb]) (hb : C.prog.underlying tb = some .bool)
    (hl : laidOutB C.prog = true) (hr : ∀ t ∈ fn.params.toList, C.prog.readableRec t = true ∧ t < C.prog.types.size)
    (hcall : ∀ (W : World) (base : Nat) (args : Array Value) (ds : List (DataW H)) (p : List MemPlace),
      (∀ (j : Nat) t v, fn.params[j]? = some t → args[j]? = some v → Value.okWide C.prog W .any base t v) →
      DataW.TrodAll enc C.prog W 0 (fun _ => true) true fn.params.toList args.toList ds p → X W args →
      Calls C.prog f args W fun e W' => e = .returned (.bool true) ∧ Below W.heap.size W W') :
    ReturnsInHanded a C os f .any (fun w args => (s.pre enc C.prog fn conds apart w args ∧ X w args) ∧ sizedMet enc C.prog fn (OpenSpec.ofChange s) apart w args) (s.post enc C.prog fn apart fresh handsOn again) := by
  refine returnsInHanded_of_change_and hX own started noInit hfn witness ?_
  intro W base args ds gs before hval hW _ _ hx _
  have hW' := hW
  obtain ⟨p, q, hA, _⟩ := hW
  refine (hcall W base args ds p hval hA hx).mono fun e W' ⟨he, hbl⟩ => ?_
  exact ⟨_, he, law_post hs hk hrt hb hl hr hW' hbl⟩

end

/-- What a function comes to that asks nothing of its arguments. -/
theorem call_pure {P : Program} {f : FuncId} {g : List AV → Option (Bool × AV)} (h : PureOk P f g) {as : List AV} {args : Array Value} {W : World} {b : Bool} {r : AV} (hg : g as = some (true, r)) (hr : scal r = some (.bool b)) (hx : ∀ ρ, Rvs ρ as args.toList) (hgw : GW W) :
    Calls P f args W fun e W' => e = .returned (.bool b) ∧ Below W.heap.size W W' := by
  have := h Ren.empty as args.toList r hg (hx _) W hgw
  have e : args.toList.toArray = args := by simp
  rw [e] at this
  refine this.mono ?_
  rintro e w' ⟨v, rfl, hv, hb⟩
  rw [hv.scal_eq hr]
  exact ⟨rfl, hb⟩

end Go.Rq

/- Arguments that are records of words and flags, opened. -/
namespace Go.Rq
open Go Go.WideShapes

section
variable {P : Program} {w : World} {r : Reach} {base : Nat} {t u : TypeId} {v : Value}

theorem cell_u64 (hu : P.underlying u = some (.int .u64)) (h : Cell.okWide P w r base u v) : ∃ x : BitVec 64, v = uval x := by
  simp only [Cell.okWide, hu] at h
  cases v with
  | int k n =>
    simp only [Cell.ok, hu] at h
    obtain ⟨rfl, h1, h2⟩ := h
    have h1 : (0 : Int) ≤ n := h1
    have h2 : n ≤ 18446744073709551615 := h2
    refine ⟨BitVec.ofNat 64 n.toNat, ?_⟩
    unfold uval
    congr 1
    rw [BitVec.toNat_ofNat, Nat.mod_eq_of_lt (by omega)]
    show n = ((n.toNat : Nat) : Int)
    omega
  | _ => simp [Cell.ok, hu] at h

theorem cell_bool (hu : P.underlying u = some .bool) (h : Cell.okWide P w r base u v) : ∃ b : Bool, v = .bool b := by
  simp only [Cell.okWide, hu] at h
  cases v with
  | bool b => exact ⟨b, rfl⟩
  | _ => simp [Cell.ok, hu] at h

theorem open_cells {ts : List TypeId} (ha : ∃ cs, v = .agg cs ∧ cs.size = P.cellsOf t ∧ Row.okWide P w r base t cs) (hc : P.cellTypes P.depth t = some ts) (hn : P.cellsOf t = ts.length) :
    ∃ l : List Value, v = .agg l.toArray ∧ l.length = ts.length ∧ ∀ (i : Nat) (u : TypeId) (x : Value), ts[i]? = some u → l[i]? = some x → Cell.okWide P w r base u x := by
  obtain ⟨cs, rfl, h1, ts', h2, -, h4⟩ := ha
  rw [hc] at h2
  simp at h2
  subst h2
  refine ⟨cs.toList, by simp, by simp [h1, hn], fun i u x hu hx => ?_⟩
  obtain ⟨u', h5, h6⟩ := h4 i x (by simpa using hx)
  have hi : i < ts.length := (List.getElem?_eq_some_iff.1 hu).1
  rw [Nat.mod_eq_of_lt hi, hu] at h5
  simp at h5
  rw [h5]
  exact h6

theorem okWide_agg {fs : Array Field} (ht : P.underlying t = some (.struct fs)) (h : Value.okWide P w r base t v) : ∃ cs, v = .agg cs ∧ cs.size = P.cellsOf t ∧ Row.okWide P w r base t cs := by
  simp only [Value.okWide, ht] at h
  exact h
theorem okWide_arr {e : TypeId} {n : Nat} (ht : P.underlying t = some (.array n e)) (h : Value.okWide P w r base t v) : ∃ cs, v = .agg cs ∧ cs.size = P.cellsOf t ∧ Row.okWide P w r base t cs := by
  simp only [Value.okWide, ht] at h
  exact h

/-- Six words. -/
theorem open_six (hu : P.underlying u = some (.int .u64)) {l : List Value} (hl : l.length = 6) (h : ∀ (i : Nat) (x : Value), i < 6 → l[i]? = some x → Cell.okWide P w r base u x) : ∃ x : W6, l = c6.val x := by
  match l, hl with
  | [a0, a1, a2, a3, a4, a5], _ =>
    obtain ⟨x0, rfl⟩ := cell_u64 hu (h 0 a0 (by decide) rfl)
    obtain ⟨x1, rfl⟩ := cell_u64 hu (h 1 a1 (by decide) rfl)
    obtain ⟨x2, rfl⟩ := cell_u64 hu (h 2 a2 (by decide) rfl)
    obtain ⟨x3, rfl⟩ := cell_u64 hu (h 3 a3 (by decide) rfl)
    obtain ⟨x4, rfl⟩ := cell_u64 hu (h 4 a4 (by decide) rfl)
    obtain ⟨x5, rfl⟩ := cell_u64 hu (h 5 a5 (by decide) rfl)
    exact ⟨⟨x0, x1, x2, x3, x4, x5⟩, rfl⟩

/-- A number of six words. -/
theorem open_num (hu : P.underlying u = some (.int .u64)) (ha : ∃ cs, v = .agg cs ∧ cs.size = P.cellsOf t ∧ Row.okWide P w r base t cs) (hc : P.cellTypes P.depth t = some [u, u, u, u, u, u]) (hn : P.cellsOf t = 6) : ∃ x : W6, v = c6.agg.val x := by
  obtain ⟨l, rfl, h1, h2⟩ := open_cells ha hc hn
  obtain ⟨x, rfl⟩ := open_six hu h1 (fun i x hi hx => h2 i u x (by
    match i, hi with
    | 0, _ => rfl
    | 1, _ => rfl
    | 2, _ => rfl
    | 3, _ => rfl
    | 4, _ => rfl
    | 5, _ => rfl) hx)
  exact ⟨x, rfl⟩

/-- Twice six words and a flag. -/
theorem open_p1 {b : TypeId} (hu : P.underlying u = some (.int .u64)) (hb : P.underlying b = some .bool) (ha : ∃ cs, v = .agg cs ∧ cs.size = P.cellsOf t ∧ Row.okWide P w r base t cs)
    (hc : P.cellTypes P.depth t = some [u, u, u, u, u, u, u, u, u, u, u, u, b]) (hn : P.cellsOf t = 13) : ∃ x : Ap W6, v = (cAp c6).agg.val x := by
  obtain ⟨l, rfl, h1, h2⟩ := open_cells ha hc hn
  match l, h1 with
  | [a0, a1, a2, a3, a4, a5, b0, b1, b2, b3, b4, b5, z], _ =>
    have g : ∀ (i : Nat) (x : Value), i < 12 → [a0, a1, a2, a3, a4, a5, b0, b1, b2, b3, b4, b5, z][i]? = some x → Cell.okWide P w r base u x := fun i x hi hx => h2 i u x (by
      match i, hi with
      | 0, _ => rfl
      | 1, _ => rfl
      | 2, _ => rfl
      | 3, _ => rfl
      | 4, _ => rfl
      | 5, _ => rfl
      | 6, _ => rfl
      | 7, _ => rfl
      | 8, _ => rfl
      | 9, _ => rfl
      | 10, _ => rfl
      | 11, _ => rfl) hx
    obtain ⟨x, hx⟩ := open_six (l := [a0, a1, a2, a3, a4, a5]) hu rfl (fun i x hi hx => g i x (by omega) (by
      match i, hi, hx with
      | 0, _, hx => exact hx
      | 1, _, hx => exact hx
      | 2, _, hx => exact hx
      | 3, _, hx => exact hx
      | 4, _, hx => exact hx
      | 5, _, hx => exact hx))
    obtain ⟨y, hy⟩ := open_six (l := [b0, b1, b2, b3, b4, b5]) hu rfl (fun i x hi hx => g (6 + i) x (by omega) (by
      match i, hi, hx with
      | 0, _, hx => exact hx
      | 1, _, hx => exact hx
      | 2, _, hx => exact hx
      | 3, _, hx => exact hx
      | 4, _, hx => exact hx
      | 5, _, hx => exact hx))
    obtain ⟨c, rfl⟩ := cell_bool hb (h2 12 b z rfl rfl)
    refine ⟨⟨x, y, c⟩, ?_⟩
    have e : [a0, a1, a2, a3, a4, a5, b0, b1, b2, b3, b4, b5, Value.bool c] = c6.val x ++ (c6.val y ++ [Value.bool c]) := by
      rw [← hx, ← hy]; rfl
    show Value.agg [a0, a1, a2, a3, a4, a5, b0, b1, b2, b3, b4, b5, Value.bool c].toArray = Value.agg (c6.val x ++ (c6.val y ++ [Value.bool c])).toArray
    rw [e]
/-- Four times six words and a flag. -/
theorem open_p2 {b : TypeId} (hu : P.underlying u = some (.int .u64)) (hb : P.underlying b = some .bool) (ha : ∃ cs, v = .agg cs ∧ cs.size = P.cellsOf t ∧ Row.okWide P w r base t cs)
    (hc : P.cellTypes P.depth t = some [u, u, u, u, u, u, u, u, u, u, u, u, u, u, u, u, u, u, u, u, u, u, u, u, b]) (hn : P.cellsOf t = 25) : ∃ x : Ap D6, v = (cAp c12).agg.val x := by
  obtain ⟨l, rfl, h1, h2⟩ := open_cells ha hc hn
  match l, h1 with
  | [a0, a1, a2, a3, a4, a5, b0, b1, b2, b3, b4, b5, c0, c1, c2, c3, c4, c5, d0, d1, d2, d3, d4, d5, z], _ =>
    have g : ∀ (i : Nat) (x : Value), i < 24 → [a0, a1, a2, a3, a4, a5, b0, b1, b2, b3, b4, b5, c0, c1, c2, c3, c4, c5, d0, d1, d2, d3, d4, d5, z][i]? = some x → Cell.okWide P w r base u x := fun i x hi hx => h2 i u x (by
      show (List.replicate 24 u ++ [b])[i]? = some u
      rw [List.getElem?_append_left (by simpa using hi), List.getElem?_replicate, if_pos hi]) hx
    obtain ⟨x0, hx0⟩ := open_six (l := [a0, a1, a2, a3, a4, a5]) hu rfl (fun i x hi hx => g (0 + i) x (by omega) (by
      match i, hi, hx with
      | 0, _, hx => exact hx
      | 1, _, hx => exact hx
      | 2, _, hx => exact hx
      | 3, _, hx => exact hx
      | 4, _, hx => exact hx
      | 5, _, hx => exact hx))
    obtain ⟨x1, hx1⟩ := open_six (l := [b0, b1, b2, b3, b4, b5]) hu rfl (fun i x hi hx => g (6 + i) x (by omega) (by
      match i, hi, hx with
      | 0, _, hx => exact hx
      | 1, _, hx => exact hx
      | 2, _, hx => exact hx
      | 3, _, hx => exact hx
      | 4, _, hx => exact hx
      | 5, _, hx => exact hx))
    obtain ⟨y0, hy0⟩ := open_six (l := [c0, c1, c2, c3, c4, c5]) hu rfl (fun i x hi hx => g (12 + i) x (by omega) (by
      match i, hi, hx with
      | 0, _, hx => exact hx
      | 1, _, hx => exact hx
      | 2, _, hx => exact hx
      | 3, _, hx => exact hx
      | 4, _, hx => exact hx
      | 5, _, hx => exact hx))
    obtain ⟨y1, hy1⟩ := open_six (l := [d0, d1, d2, d3, d4, d5]) hu rfl (fun i x hi hx => g (18 + i) x (by omega) (by
      match i, hi, hx with
      | 0, _, hx => exact hx
      | 1, _, hx => exact hx
      | 2, _, hx => exact hx
      | 3, _, hx => exact hx
      | 4, _, hx => exact hx
      | 5, _, hx => exact hx))
    obtain ⟨c, rfl⟩ := cell_bool hb (h2 24 b z rfl rfl)
    refine ⟨⟨⟨x0, x1⟩, ⟨y0, y1⟩, c⟩, ?_⟩
    have e : [a0, a1, a2, a3, a4, a5, b0, b1, b2, b3, b4, b5, c0, c1, c2, c3, c4, c5, d0, d1, d2, d3, d4, d5, Value.bool c] = (c6.val x0 ++ c6.val x1) ++ ((c6.val y0 ++ c6.val y1) ++ [Value.bool c]) := by
      rw [← hx0, ← hx1, ← hy0, ← hy1]; rfl
    show Value.agg [a0, a1, a2, a3, a4, a5, b0, b1, b2, b3, b4, b5, c0, c1, c2, c3, c4, c5, d0, d1, d2, d3, d4, d5, Value.bool c].toArray = Value.agg ((c6.val x0 ++ c6.val x1) ++ ((c6.val y0 ++ c6.val y1) ++ [Value.bool c])).toArray
    rw [e]
end
end Go.Rq

/- From a run that starts with nothing told of the heap to a call. -/
namespace Go.Rq
open Go Go.RowKit

theorem call_act {P : Program} {kk : Nat} {f : FuncId} {g : List AV → AH → Nat → Option (Bool × AV × AH)} (h : ActOk P kk f g) {as : List AV} {args : Array Value} {W : World} {b : Bool} {r : AV} {ups : AH} (hg : g as [] 0 = some (true, r, ups)) (hr : scal r = some (.bool b)) (hx : ∀ ρ, Rvs ρ as args.toList) (hgw : GW W) :
    Calls P f args W fun e W' => e = .returned (.bool b) ∧ Below W.heap.size W W' := by
  have := h.run (frameOf W) Ren.empty as args.toList [] 0 r ups W hg (hx _) (RW.init W Ren.empty hgw) (fun _ _ => rfl)
  have e : args.toList.toArray = args := by simp
  rw [e] at this
  refine Calls.mono this ?_
  rintro e w' ⟨v, ρ', rfl, -, -, hv, hw⟩
  rw [hv.scal_eq hr]
  exact ⟨rfl, hw.to_below⟩

/-- What a run is handed of which nothing is told but how many cells it has. -/
theorem any_cells {ρ : Ren} {n : Nat} {cs : Array Value} (h : cs.size = n) : Rv ρ (.agg (List.replicate n .any)) (.agg cs) :=
  .agg (by simp [h]) fun i a x ha _ => by
    rw [List.getElem?_replicate] at ha
    split at ha
    · simp at ha; subst ha; exact .any _
    · cases ha

/-- A row that is handed: its cells are as many as its type's. -/
theorem okWide_row {P : Program} {w : World} {r : Reach} {base : Nat} {t : TypeId} {v : Value} (hr : (match P.underlying t with | some d => isRow d | none => false) = true) (h : Value.okWide P w r base t v) : ∃ cs, v = .agg cs ∧ cs.size = P.cellsOf t := by
  split at hr
  · rename_i d hd
    cases d <;> first | cases hr | skip
    · obtain ⟨cs, h1, h2, -⟩ := okWide_arr hd h; exact ⟨cs, h1, h2⟩
    · obtain ⟨cs, h1, h2, -⟩ := okWide_agg hd h; exact ⟨cs, h1, h2⟩
  · cases hr

/-- Is the first of what comes true? -/
def isYes : Option (Bool × AV × AH) → Bool
  | some (true, .v (.bool true), _) => true
  | some (true, .lit true, _) => true
  | _ => false
theorem isYes_spec {x : Option (Bool × AV × AH)} (h : isYes x = true) : ∃ r ups, x = some (true, r, ups) ∧ scal r = some (.bool true) := by
  unfold isYes at h
  split at h
  · exact ⟨_, _, rfl, rfl⟩
  · exact ⟨_, _, rfl, rfl⟩
  · cases h
end Go.Rq
