/- Functions that read one block by a pointer, with a loop; one datum alone; multiples by the bits. -/
import Derived.Test.YtdbcjiggimppdaaGreatRq11
import Derived.Test.YtdbcjiggimppdaaGreatRq07
import Derived.ProofKit
namespace Go.Rq
open Go

theorem rdpT_ok {β γ δ : Type} {P : Program} {E : Env} {sym : List Tmp} {lf f : Nat} {tab : γ → δ → BTab} {c : Code} {fn : Func} (hE : EnvOk P E) (hm : P.follows .mixedOrders = true) (hf : P.funcs.toList[f]? = some fn) (hb : fn.body = some c)
    (hok : codeOk E c = true) {D : MC δ} {C : CC γ} {B : Cod β} {F : γ → δ → β} {t : TypeId}
    (htab : ∀ x z, TabOk P 1 (tab x z) c)
    (hr : ∀ x z, GivesH (afun P E sym (tab x z) lf f (.ptr 0 0 :: D.enc z) (oneAH C t x) 1) (B.val (F x z))) : HeapOk P f (rdp t C D B F) := by
  have key : ∀ {as : List AV} {h : AH} {o : Bool × AV × AH}, rdp t C D B F as h = some o → ∃ i rest x z, as = .ptr i 0 :: rest ∧ D.dec rest = some z ∧ blkDec C t h i = some x ∧ o = (true, B.enc (F x z), []) := by
    intro as h o hg
    unfold rdp at hg
    split at hg
    · rename_i i rest
      split at hg
      · rename_i x z hx hz
        simp at hg
        exact ⟨i, rest, x, z, rfl, hz, hx, hg.symm⟩
      · cases hg
    · cases hg
  have again : ∀ {as : List AV} {h h' : AH} {o : Bool × AV × AH}, rdp t C D B F as h = some o → (∀ i, i ∈ idsOf as → ∀ B, h.get i = some B → h'.get i = some B) → rdp t C D B F as h' = some o := by
    intro as h h' o hg hh
    obtain ⟨i, rest, x, z, rfl, hz, hx, rfl⟩ := key hg
    have hi : i ∈ idsOf (.ptr i 0 :: rest) := by simp [idsOf]
    unfold rdp
    simp only [hz, blkDec_congr (hh i hi) hx]
  refine ⟨?_, fun as h h' x hle hg => again hg (fun i _ B hB => hle i B hB), fun ρ as xs z b h x hx hz hg => again hg (fun i hi B hB => by
      rw [AH.get_cons, if_neg (fun e => hx.ids_ne hz i hi e.symm)] at hB; exact hB), fun as h c' r ups hg => ?_⟩
  · intro F' ρ as xs h r ups w hg hx hw
    obtain ⟨i, rest, x, z, rfl, hz, h1, ho⟩ := key hg
    simp at ho
    obtain ⟨rfl, rfl⟩ := ho
    obtain ⟨u, xs', rfl, hu, hx'⟩ := hx.uncons
    have hpv := D.h2 ρ _ _ _ hz hx'
    subst hpv
    obtain ⟨b, cx, fr, p1, p2, p3, p4, p5⟩ := blk_again hw h1
    let σ : Ren := ⟨fun id => if id = 0 then some b else none, fun _ => cx.size, fun _ => ρ.base i⟩
    have hσ : σ 0 = some b := rfl
    have hRW : RW (frameOf w) σ (oneAH C t x) w := by
      refine ⟨fun id B hB => ?_, fun id id' B B' d hB hB' hwr => ?_, fun _ _ h => h, rfl, rfl, rfl⟩
      · unfold oneAH at hB
        rw [AH.get_cons] at hB
        split at hB
        · rename_i e; subst e; simp at hB; subst hB
          exact ⟨b, _, hσ, p2, ⟨cx, fr, rfl, (fun h => by cases h), p4, fun k a v ha hv => p5 σ k a v ha hv⟩, (fun h => by cases h), rfl⟩
        · simp [AH.get] at hB
      · unfold oneAH at hB
        rw [AH.get_cons] at hB
        split at hB
        · simp at hB; subst hB; cases hwr
        · simp [AH.get] at hB
    cases hu with
    | ptr hsb =>
      rw [p1] at hsb; simp at hsb; subst hsb
      have := afun_calls hE hm hf hb hok (htab x z) (K := fun q _ => flat q = some (B.val (F x z))) (hr x z).out (F := frameOf w) (.cons (show Rv σ (.ptr 0 0) (.pointer (some ⟨b, ρ.base i + 0, none⟩)) from Rv.ptr (ρ := σ) hσ) (Rvs.of_flatL (D.h1 z))) hRW (fun id hid => by show (if id = 0 then some b else none) = none; rw [if_neg (by omega)])
      refine Calls.mono this ?_
      rintro e w' ⟨v', q', h', ρ', rfl, hk', hrv, hrw, _⟩
      have := hrv.flat_eq hk'
      subst this
      exact ⟨_, rfl, .of_flat (B.h1 _), hw.below hrw.to_below⟩
  · obtain ⟨i, rest, x, z, _, _, _, ho⟩ := key hg
    simp at ho
    obtain ⟨_, _, rfl⟩ := ho
    simp


/-- One datum alone. -/
def ccIs {α : Type} (C : CC α) (y : α) (eqb : α → α → Bool) (h : ∀ x, eqb x y = true → x = y) : CC Unit where
  n := C.n
  enc _ := C.enc y
  dec l := match C.dec l with
    | some x => bif eqb x y then some () else none
    | none => none
  val _ := C.val y
  len _ := C.len y
  h1 _ := C.h1 y
  h2 ρ as vs x hd r := by
    split at hd
    · rename_i z hz
      cases hb : eqb z y with
      | false => rw [hb] at hd; cases hd
      | true => rw [C.h2 ρ _ _ _ hz r, h z hb]
    · cases hd

theorem wrapI {n : Int} (h0 : -9223372036854775808 ≤ n) (h1 : n < 9223372036854775808) : IntKind.i64.wrap n = n := by
  simp only [IntKind.wrap, IntKind.bits, IntKind.signed]
  simp
  omega

/-! Twice, and once more where a bit is set. -/
def sqG {A : Type} (tw su : A → A) (bt : Int → Int) : Nat → A → A
  | 0, u => u
  | k + 1, u => sqG tw su bt k (bif bt (k : Int) == 1 then su (tw u) else tw u)

theorem sq_law {A : Type} (tw su : A → A) (bt : Int → Int) (rt : XS → Tree (AExit × XS)) (I : Int × A → XS) (hr : ∀ (z : Int) (out : A), (rt (I (z, out))).strict =
    .br (decide (z ≥ 0))
      (.br (bt z == 1)
        (.leaf (.normal, I (IntKind.i64.wrap (z - 1), su (tw out))))
        (.leaf (.normal, I (IntKind.i64.wrap (z - 1), tw out))))
      (.leaf (.exit 0, I (z, out)))) {R : A} {Q : AExit → XS → Prop} (hK : Q .normal (I (-1, R))) :
    ∀ d : Int × A, (-1 ≤ d.1 ∧ d.1 ≤ 383 ∧ sqG tw su bt (d.1 + 1).toNat d.2 = R) → (rt (I d)).holds (fun r => match r.1 with
      | .normal => ∃ j : Int × A, (-1 ≤ j.1 ∧ j.1 ≤ 383 ∧ sqG tw su bt (j.1 + 1).toNat j.2 = R) ∧ (j.1 + 1).toNat < (d.1 + 1).toNat ∧ r.2 = I j
      | .exit q => if q = 0 then Q .normal r.2 else Q (.exit q) r.2
      | .ret => Q .ret r.2) := by
  rintro ⟨z, out⟩ ⟨h0, h1, h2⟩
  apply Tree.holds_strict
  rw [hr]
  refine ⟨fun hz => ?_, fun hz => ?_⟩
  · have hz : 0 ≤ z := by simpa using hz
    have hw : IntKind.i64.wrap (z - 1) = z - 1 := wrapI (by omega) (by omega)
    have hk : (z + 1).toNat = z.toNat + 1 := by omega
    simp only at h2
    rw [hk] at h2
    simp only [sqG] at h2
    rw [show ((z.toNat : Nat) : Int) = z by omega] at h2
    have hk' : (z - 1 + 1).toNat = z.toNat := by omega
    refine ⟨fun hb => ⟨⟨z - 1, su (tw out)⟩, ⟨by simp only; omega, by simp only; omega, ?_⟩, ?_, ?_⟩, fun hb => ⟨⟨z - 1, tw out⟩, ⟨by simp only; omega, by simp only; omega, ?_⟩, ?_, ?_⟩⟩
    · rw [hb] at h2
      simp only [hk']
      exact h2
    · show (z - 1 + 1).toNat < (z + 1).toNat
      omega
    · rw [hw]
    · rw [hb] at h2
      simp only [hk']
      exact h2
    · show (z - 1 + 1).toNat < (z + 1).toNat
      omega
    · rw [hw]
  · have hz : z = -1 := by
      have : ¬ 0 ≤ z := by simpa using hz
      omega
    subst hz
    have h2 : out = R := h2
    show (if (0 : Nat) = 0 then Q .normal (I (-1, out)) else Q (.exit 0) (I (-1, out)))
    rw [if_pos rfl, h2]
    exact hK
end Go.Rq

/- A law whose arguments stay as they are: its row, from what the law's function comes to. -/
namespace Go.Rq
open Go Go.ChangeShapes Go.WideShapes Go.RowKit

section
variable {H : Type} {enc : TypeId × Value → H} {P : Program}

theorem trodCons {w : World} {base : Nat} {sp : Nat → Bool} {held : Bool} {t : TypeId} {ts : List TypeId} {v : Value} {vs : List Value} {d : DataW H} {ds : List (DataW H)} {p p' : List MemPlace}
    (h : DataW.Trod enc P w base sp held t v d p) (hs : DataW.TrodAll enc P w base sp held ts vs ds p') : DataW.TrodAll enc P w base sp held (t :: ts) (v :: vs) (d :: ds) (p ++ p') := ⟨p, p', h, hs, rfl⟩

theorem stays_all (hl : laidOutB P = true) {W W' : World} {sp : Nat → Bool} (hb : Below W.heap.size W W') :
    ∀ {ts : List TypeId} {vs : List Value} {ds : List (DataW H)} {ps : List MemPlace}, (∀ t ∈ ts, P.readableRec t = true ∧ t < P.types.size) →
    DataW.TrodAll enc P W 0 (fun _ => true) true ts vs ds ps → (∀ x ∈ ps, x.block < W.heap.size) → (∀ x ∈ ps, sp x.block = true) → DataW.TrodAll enc P W' 0 sp true ts vs ds ps
  | [], vs, ds, ps, _, h, _, _ => by
    obtain ⟨rfl, rfl, rfl⟩ := trodAll_nil h
    exact trodAll_mk0
  | t :: ts, vs, ds, ps, hr, h, hlt, hs => by
    obtain ⟨v, vs', d, ds', p, q, rfl, rfl, rfl, h1, h2⟩ := trodAll_cons h
    obtain ⟨r1, r2⟩ := hr t (by simp)
    exact trodCons (WideElems.Trod_stays hl r1 r2 h1 (fun x hx => hb.same (hlt x (by simp [hx]))) (fun x hx => hs x (by simp [hx])))
      (stays_all hl hb (fun u hu => hr u (by simp [hu])) h2 (fun x hx => hlt x (by simp [hx])) (fun x hx => hs x (by simp [hx])))

theorem trodAll_length {W : World} {base : Nat} {sp : Nat → Bool} {held : Bool} : ∀ {ts : List TypeId} {vs : List Value} {ds : List (DataW H)} {ps : List MemPlace},
    DataW.TrodAll enc P W base sp held ts vs ds ps → ds.length = ts.length
  | [], vs, ds, ps, h => by obtain ⟨_, rfl, _⟩ := trodAll_nil h; rfl
  | t :: ts, vs, ds, ps, h => by
    obtain ⟨v, vs', d, ds', p, q, rfl, rfl, rfl, _, h2⟩ := trodAll_cons h
    simp [trodAll_length h2]

/-- The given form of a law's specification: true, and the arguments as they were. -/
structure LawSpec (s : ChangeSpec) (k : Nat) : Prop where
  vars : s.vars = []
  fn : ∀ (H : Type) (ds : List (DataW H)), ds.length = k → s.fn H ds = { results := [.lit (.bool true)], args := ds }

theorem law_post {f : Func} {s : ChangeSpec} {k : Nat} (hs : LawSpec s k) (hk : f.params.size = k) {tb : TypeId} (hrt : f.resultTypes = #[tb]) (hb : P.underlying tb = some .bool)
    (hl : laidOutB P = true) (hr : ∀ t ∈ f.params.toList, P.readableRec t = true ∧ t < P.types.size) {apart fresh handsOn again : Bool}
    {W W' : World} {args : Array Value} {ds gs : List (DataW H)} {before : List MemPlace} (hW : DataW.Whole enc P f.params.toList s.vars apart W args.toList ds gs before)
    (hbl : Below W.heap.size W W') : s.post enc P f apart fresh handsOn again W args (.bool true) W' := by
  have hlt := hW.lt
  have hW' := hW
  obtain ⟨p, q, hA, hV, rfl, hfz, hnd⟩ := hW
  rw [hs.vars] at hV
  obtain ⟨rfl, rfl⟩ := trodVars_none hV
  have hlen : ds.length = k := by rw [trodAll_length hA, ← hk]; simp
  have hfn : s.fn H (ds ++ []) = { results := [.lit (.bool true)], args := ds } := by rw [List.append_nil]; exact hs.fn H ds hlen
  simp only [List.append_nil] at hlt hfz hnd
  have hres : ∀ (b : Nat) (sp : Nat → Bool) (hd : Bool), DataW.TrodAll enc P W' b sp hd f.resultTypes.toList ((Value.bool true).resultList f.resultTypes.size) (s.fn H (ds ++ [])).results [] := by
    intro b sp hd
    rw [hfn, hrt]
    exact trodAll_mk1 (shut_bool hb true)
  have hargs : ∀ sp : Nat → Bool, (∀ x ∈ p, sp x.block = true) → DataW.TrodAll enc P W' 0 sp true f.params.toList args.toList (s.fn H (ds ++ [])).args p := by
    intro sp hsp
    rw [hfn]
    exact stays_all hl hbl hr hA hlt hsp
  have hvars : ∀ sp : Nat → Bool, DataW.TrodVars enc P W' sp s.vars (s.fn H (ds ++ [])).vars [] := by
    intro sp
    rw [hfn, hs.vars]
    rfl
  refine ⟨ds, [], p ++ [], [], p, [], hW', hres _ _ _, hargs _ (fun x hx => by simpa using hlt x hx), hvars _, hbl.frame _, fun _ => ?_⟩
  refine ⟨?_, _, _, ([] ++ p) ++ [], ⟨[] ++ p, [], trodAll_append (hargs _ (fun _ _ => rfl)) (hres _ _ _), hvars _, rfl, ?_, ?_⟩, ?_⟩
  · intro j t r hj hv
    rw [hrt] at hj hv
    cases j with
    | zero =>
      simp [Value.resultList] at hj hv
      subst hj; subst hv
      exact okWide_bool_mk hb true
    | succ j => simp at hj
  · intro b off hp
    have hp' : MemPlace.cell b off ∈ p := by simpa using hp
    have : W'.frozen? ⟨b, off, none⟩ = W.frozen? ⟨b, off, none⟩ := hbl.frozen (hlt _ hp')
    rw [this]
    exact hfz b off (by simpa using hp)
  · intro ha
    simpa using hnd ha
  · intro x hx _
    simpa using hx

/-- The step to the row, for a law that reads its arguments alone. -/
theorem law_handed {C : Checked} {os : Os} {f : FuncId} {fn : Func} {s : ChangeSpec} {k : Nat} {conds : List PathCond} {apart fresh handsOn again : Bool} {a : Assume}
    (own : ownKnob C.prog.godebug = none) (started : os.Started) (noInit : C.prog.inits.idxOf? f = none) (hfn : C.prog.funcs[f]? = some fn)
    (witness : ∃ (w : World) (tape : Tape) (i : Input), w.os = os ∧ (w.forCall tape i).Shaped C.prog ∧ i.vars = [] ∧ Input.okWide C.prog (w.forCall tape i) .any w.heap.size f i ∧
      s.pre6 enc C.prog fn conds apart (w.forCall tape i).memory i.args ∧ a.holds C.prog (lone (Frame.enter C.prog f i.args .normal) [] (w.forCall tape i)))
    (hs : LawSpec s k) (hk : fn.params.size = k) {tb : TypeId} (hrt : fn.resultTypes = #[tb]) (hb : C.prog.underlying tb = some .bool)
    (hl : laidOutB C.prog = true) (hr : ∀ t ∈ fn.params.toList, C.prog.readableRec t = true ∧ t < C.prog.types.size)
    (hcall : ∀ (W : World) (base : Nat) (args : Array Value) (ds : List (DataW H)) (p : List MemPlace),
      (∀ (j : Nat) t v, fn.params[j]? = some t → args[j]? = some v → Value.okWide C.prog W .any base t v) →
      DataW.TrodAll enc C.prog W 0 (fun _ => true) true fn.params.toList args.toList ds p →
      Calls C.prog f args W fun e W' => e = .returned (.bool true) ∧ Below W.heap.size W W') :
    ReturnsInHanded a C os f .any (s.pre6 enc C.prog fn conds apart) (s.post enc C.prog fn apart fresh handsOn again) := by
  refine returnsInHanded_of_change own started noInit hfn witness ?_
  intro W base args ds gs before hval hW _ _
  have hW' := hW
  obtain ⟨p, q, hA, _⟩ := hW
  refine (hcall W base args ds p hval hA).mono fun e W' ⟨he, hbl⟩ => ?_
  exact ⟨_, he, law_post hs hk hrt hb hl hr hW' hbl⟩

/-- Likewise, where variables of the program are laid. -/
theorem law_handed_and {C : Checked} {os : Os} {f : FuncId} {fn : Func} {s : ChangeSpec} {k : Nat} {conds : List PathCond} {apart fresh handsOn again : Bool} {a : Assume} {X : World → Array Value → Prop}
    (hX : ∀ (w w' : World) (args : Array Value), w.heap = w'.heap → X w args → X w' args)
    (own : ownKnob C.prog.godebug = none) (started : os.Started) (noInit : C.prog.inits.idxOf? f = none) (hfn : C.prog.funcs[f]? = some fn)
    (witness : ∃ (w : World) (tape : Tape) (i : Input), w.os = os ∧ (w.forCall tape i).Shaped C.prog ∧ i.vars = [] ∧ Input.okWide C.prog (w.forCall tape i) .any w.heap.size f i ∧
      ((s.pre enc C.prog fn conds apart (w.forCall tape i).memory i.args ∧ X (w.forCall tape i).memory i.args) ∧ sizedMet enc C.prog fn (OpenSpec.ofChange s) apart (w.forCall tape i).memory i.args) ∧ a.holds C.prog (lone (Frame.enter C.prog f i.args .normal) [] (w.forCall tape i)))
    (hs : LawSpec s k) (hk : fn.params.size = k) {tb : TypeId} (hrt : fn.resultTypes = #[tb]) (hb : C.prog.underlying tb = some .bool)
    (hl : laidOutB C.prog = true) (hr : ∀ t ∈ fn.params.toList, C.prog.readableRec t = true ∧ t < C.prog.types.size)
    (hcall : ∀ (W : World) (base : Nat) (args : Array Value) (ds : List (DataW H)) (p : List MemPlace),
      (∀ (j : Nat) t v, fn.params[j]? = some t → args[j]? = some v → Value.okWide C.prog W .any base t v) →
      DataW.TrodAll enc C.prog W 0 (fun _ => true) true fn.params.toList args.toList ds p → X W args →
      Calls C.prog f args W fun e W' => e = .returned (.bool true) ∧ Below W.heap.size W W') :
    ReturnsInHanded a C os f .any (fun w args => (s.pre enc C.prog fn conds apart w args ∧ X w args) ∧ sizedMet enc C.prog fn (OpenSpec.ofChange s) apart w args) (s.post enc C.prog fn apart fresh handsOn again) := by
  refine returnsInHanded_of_change_and hX own started noInit hfn witness ?_
  intro W base args ds gs before hval hW _ _ hx _
  have hW' := hW
  obtain ⟨p, q, hA, _⟩ := hW
  refine (hcall W base args ds p hval hA hx).mono fun e W' ⟨he, hbl⟩ => ?_
  exact ⟨_, he, law_post hs hk hrt hb hl hr hW' hbl⟩

end

/-- What a function comes to that asks nothing of its arguments. -/
theorem call_pure {P : Program} {f : FuncId} {g : List AV → Option (Bool × AV)} (h : PureOk P f g) {as : List AV} {args : Array Value} {W : World} {b : Bool} {r : AV} (hg : g as = some (true, r)) (hr : scal r = some (.bool b)) (hx : ∀ ρ, Rvs ρ as args.toList) :
    Calls P f args W fun e W' => e = .returned (.bool b) ∧ Below W.heap.size W W' := by
  have := h Ren.empty as args.toList r hg (hx _) W
  have e : args.toList.toArray = args := by simp
  rw [e] at this
  refine this.mono ?_
  rintro e w' ⟨v, rfl, hv, hb⟩
  rw [hv.scal_eq hr]
  exact ⟨rfl, hb⟩

end Go.Rq
