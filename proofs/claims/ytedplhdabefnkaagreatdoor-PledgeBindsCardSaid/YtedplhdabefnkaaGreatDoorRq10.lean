import Derived.Test.YtedplhdabefnkaaGreatDoorRq09
import Derived.Test.YtedplhdabefnkaaGreatDoorRq06
import Derived.ProofKit
import Derived.Test.YtedplhdabefnkaaGreatDoorRq05
namespace Go.Rq
open Go
theorem oOr_ok {r : Option (Bool × AV)} {s : Option (Bool × AV × AH)} {x : Bool × AV × AH} (h : oOr r s = some x) (hr : ∀ c v, r = some (c, v) -> s = some (c, v, [])) : s = some x := by
 unfold oOr at h
 split at h
 . rw [hr _ _ rfl]; exact h
 . exact h
theorem xor_max {k : IntKind} {M : Nat} (h : uMod k = some M) : k.max = Int.ofNat (Nat.pred M) := by
 cases k <;> simp [uMod] at h <;> subst h <;> rfl
theorem intBits_xor {P : Program} {k : IntKind} {M a b : Nat} (hM : uMod k = some M) : pureRun P (Op.intBits .xor k (Int.ofNat a) (Int.ofNat b)) = some (.int k (.ofNat (Nat.xor (Nat.mod a M) (Nat.mod b M)))) := by
 obtain ⟨h1, h2⟩ := uMod_eq hM
 simp only [Op.intBits]
 show some (Value.int k (k.wrap ((BitVec.ofInt k.bits (Int.ofNat a) ^^^ BitVec.ofInt k.bits (Int.ofNat b)).toNat : Int))) = _
 rw [wrap_nat hM, Nat.mod_eq_of_lt (by rw [h1]; exact BitVec.isLt _), BitVec.toNat_xor, ofInt_nat, ofInt_nat, <- h1]
 rfl
theorem pureRun_bind {α β : Type} {P : Program} {f : α -> Sem β} : ∀ {s : Sem α} {a : α}, pureRun P s = some a -> pureRun P (s >>= f) = pureRun P (f a) := by
 intro s a h
 induction s with
 | pure b => simp only [pureRun, Option.some.injEq] at h; subst h; rfl
 | program k ih => simp only [pureRun] at h; exact ih _ h
 | _ => simp only [pureRun] at h; cases h
theorem pureRun_underlying {P : Program} {t : TypeId} {d : TypeDesc} (h : P.underlying t = some d) : pureRun P (underlying t) = some d := by
 show pureRun P (match P.underlying t with
  | some d => pure d
  | none => stuck "no such type") = _
 rw [h]; rfl
theorem convert_int {P : Program} {s d : TypeId} {k j : IntKind} {a : TypeDesc} {n : Int} (h1 : P.underlying s = some a) (h2 : P.underlying d = some (.int k)) : pureRun P (convert s d (.int j n)) = some (.int k (wrapF k n)) := by
 rw [wrapF_eq]
 unfold convert
 rw [pureRun_bind (pureRun_underlying h1), pureRun_bind (pureRun_underlying h2)]
 cases a <;> rfl
theorem oCv_ok {P : Program} {E : Env} {ev : Operand -> AV} {h : AH} {id : Nat} {s d : TypeId} {x : Operand} {c : Bool} {v : AV} (e : oCv P s d (ev x) = some (c, v)) : effOp P E ev h id (.convert s d x) = some (c, v, []) := by
 have main : isSl (ev x) = false -> effBytes P id s d (ev x) = none -> opPure P E ev (.convert s d x) = some (c, v) -> effOp P E ev h id (.convert s d x) = some (c, v, []) := by
  intro h1 h2 h3
  simp only [effOp, isMark, h1, h2, h3, Bool.and_false]
 unfold oCv at e
 split at e
 . rename_i j n hx
   refine main (by rw [hx]; rfl) (by rw [hx]; unfold effBytes; split <;> simp_all) ?_
   simp only [opPure, hx, Rq.toU, show flat (.v (.int j n)) = some (.int j n) from rfl]
   split at e
   . rename_i a h1 h2
     simp at e; obtain ⟨rfl, rfl⟩ := e
     simp only [h1, h2]
   . rename_i a k hk h1 h2
     simp at e; obtain ⟨rfl, rfl⟩ := e
     rw [h1, h2]
     have hc := convert_int (n := n) (j := j) h1 h2
     cases k with
     | u64 => exact absurd rfl hk
     | _ => simp only [hc]
   . cases e
 . rename_i u hx
   refine main (by rw [hx]; rfl) (by rw [hx]; unfold effBytes; split <;> simp_all) ?_
   simp only [opPure, hx, Rq.toU]
   split at e
   . rename_i a h1 h2
     simp at e; obtain ⟨rfl, rfl⟩ := e
     simp only [h1, h2]
   . rename_i a k hk h1 h2
     simp at e; obtain ⟨rfl, rfl⟩ := e
     rw [h1, h2]
     cases k with
     | u64 => exact absurd rfl hk
     | _ => simp only [wrapF_eq]; rfl
   . cases e
 . cases e
theorem oUn_ok {P : Program} {E : Env} {ev : Operand -> AV} {h : AH} {id : Nat} {o : UnOp} {t : TypeId} {x : Operand} {c : Bool} {v : AV} (e : oUn o (ev x) = some (c, v)) : effOp P E ev h id (.unOp o t x) = some (c, v, []) := by
 have main : opPure P E ev (.unOp o t x) = some (c, v) -> effOp P E ev h id (.unOp o t x) = some (c, v, []) := by
  intro h3
  simp only [effOp, h3]
 refine main ?_
 unfold oUn at e
 split at e
 . rename_i b hx
   split at e
   . simp at e; obtain ⟨rfl, rfl⟩ := e
     simp only [opPure, hx, Rq.toU, show flat (.v (.bool b)) = some (.bool b) from rfl]
     rfl
   . cases e
 . rename_i b hx
   split at e
   . simp at e; obtain ⟨rfl, rfl⟩ := e
     simp only [opPure, hx, Rq.toU, show flat (.lit b) = some (.bool b) from rfl]
     rfl
   . cases e
 . rename_i k n hx
   split at e
   . simp at e; obtain ⟨rfl, rfl⟩ := e
     simp only [opPure, hx, Rq.toU, show flat (.v (.int k n)) = some (.int k n) from rfl]
     rw [wrapF_eq]; rfl
   . split at e
     . rename_i a M hM
       simp at e; obtain ⟨rfl, rfl⟩ := e
       simp only [opPure, hx, Rq.toU, show flat (.v (.int k (.ofNat a))) = some (.int k (.ofNat a)) from rfl]
       have : pureRun P (Op.unary .xor (.int k (.ofNat a))) = some (.int k (.ofNat (Nat.xor (Nat.mod (Nat.pred M) M) (Nat.mod a M)))) := by
        simp only [Op.unary, (uMod_eq hM).2]
        rw [if_neg (by simp), xor_max hM]
        exact intBits_xor hM
       simp only [this]
       rfl
     . cases e
   . cases e
 . cases e
theorem oIA_ok {P : Program} {E : Env} {ev : Operand -> AV} {h : AH} {id : Nat} {t : TypeId} {x ix : Operand} {c : Bool} {v : AV} (e : oIA P t (ev x) (ev ix) = some (c, v)) : effOp P E ev h id (.indexAddr t x ix) = some (c, v, []) := by
 have main : opPure P E ev (.indexAddr t x ix) = some (c, v) -> effOp P E ev h id (.indexAddr t x ix) = some (c, v, []) := by
  intro h3
  simp only [effOp, h3]
 have hd : ∀ (n len : Nat), decide (0 <= (n : Int) /\ (n : Int) < (len : Int)) = Nat.blt n len := by
  intro n len
  rw [blt_dec]
  congr 1
  apply propext
  constructor
  . intro h; exact Int.ofNat_lt.1 h.2
  . intro h; exact ⟨Int.natCast_nonneg _, Int.ofNat_lt.2 h⟩
 refine main ?_
 unfold oIA at e
 split at e
 . rename_i k n hix
   simp only [opPure, hix, show flat (.v (.int k (.ofNat n))) = some (.int k (.ofNat n)) from rfl]
   split at e
   . rename_i len el hu
     split at e
     . rename_i hx
       split at e
       . rename_i m hm
         simp at e; obtain ⟨rfl, rfl⟩ := e
         simp only [hu, hx, hm, Int.ofNat_eq_natCast, Int.toNat_natCast, hd]
       . cases e
     . cases e
   . rename_i el hu
     split at e
     . rename_i hx
       split at e
       . rename_i m hm
         simp at e; obtain ⟨rfl, rfl⟩ := e
         simp only [hu, hx, hm, Int.ofNat_eq_natCast, Int.toNat_natCast, hd]
       . cases e
     . rename_i hx
       split at e
       . rename_i m hm
         simp at e; obtain ⟨rfl, rfl⟩ := e
         simp only [hu, hx, hm, Int.ofNat_eq_natCast, Int.toNat_natCast, hd]
       . cases e
     . cases e
   . cases e
 . cases e
theorem fastBin_eff {P : Program} {E : Env} {ev : Operand -> AV} {h : AH} {id : Nat} {o : BinOp} {t u : TypeId} {x y : Operand} {c : Bool} {v : AV} (e : fastBin o (ev x) (ev y) = some (c, v)) : effOp P E ev h id (.binOp o t x y u) = some (c, v, []) := by
 have hb := fastBin_ok (P := P) (E := E) (t := t) (x := x) (y := y) e
 have main : opPure P E ev (.binOp o t x y u) = some (c, v) -> effOp P E ev h id (.binOp o t x y u) = some (c, v, []) := by
  intro h3
  simp only [effOp, h3]
 refine main ?_
 unfold fastBin at e
 split at e
 . rename_i k m hx
   simp only [opPure, hx]
   rw [hx] at hb
   exact hb
 . rename_i w hx
   simp only [opPure, hx]
   rw [hx] at hb
   exact hb
 . cases e
theorem oCallV_ok {P : Program} {E : Env} {ev : Operand -> AV} (hf : ∀ f, ev (.func f) = .fn (.func f) [] []) {h : AH} {id : Nat} {c : Call} {f : Operand} (hc : c.callee = .value f) {x : Bool × AV × AH}
 (e : oCallV E ev h id f c.args.toList (effOp P E ev h id (.call c)) = some x) : effOp P E ev h id (.call c) = some x := by
 unfold oCallV at e
 split at e
 . rename_i fid
   rw [frcL_eq frc2_eq] at e
   unfold oCallT at e
   have hs : effOp P E ev h id (.call c) = effCall E ev h id (.func fid) c.args.toList := by simp only [effOp, hc]
   split at e
   . rename_i g hg
     rw [hs]
     unfold effCall
     rw [hf]
     simp only [hg, List.nil_append, List.append_nil]
     exact e
   . rename_i hp
     split at e
     . exact e
     . rename_i hh
       split at e
       . exact e
       . rename_i hl
         rw [hs]
         unfold effCall
         rw [hf]
         simp only [hp, hh, hl]
         split at e
         . rename_i g hg
           unfold oAct at e
           simp only [hg]
           exact e
         . cases e
 . exact e
theorem fastOp_ok {P : Program} {E : Env} {ev : Operand -> AV} (hf : ∀ f, ev (.func f) = .fn (.func f) [] []) {h : AH} {id : Nat} {op : Op} {x : Bool × AV × AH} (e : fastOp P E ev h id op = some x) : effOp P E ev h id op = some x := by
 cases op with
 | move y => exact e
 | assign y => exact e
 | binOp o t y z u => exact oOr_ok e fun c v hr => fastBin_eff hr
 | load t a =>
  simp only [fastOp, oLoad] at e
  split at e
  . rename_i i off ha
    simp only [effOp, ha]
    exact e
  . exact e
 | store t a y =>
  simp only [fastOp, oStore] at e
  split at e
  . rename_i i off ha
    simp only [effOp, ha]
    exact e
  . cases e
 | nilCheck y =>
  refine oOr_ok e fun c v hr => ?_
  unfold nilF at hr
  split at hr
  . rename_i i off hy
    simp at hr; obtain ⟨rfl, rfl⟩ := hr
    simp only [effOp, opPure, hy]
  . cases hr
 | fieldAddr s y f =>
  simp only [fastOp, oP] at e
  split at e
  . rename_i c v hr
    unfold oFA at hr
    split at hr
    . rename_i i off hy
      split at hr
      . rename_i fs hu
        simp only [effOp, opPure, hu, hy]
        split at hr
        . rename_i fl hfl
          simp only [hfl]
          split at hr
          . rename_i n hn
            simp at hr; obtain ⟨rfl, rfl⟩ := hr
            simp only [hn]; exact e
          . cases hr
        . cases hr
      . cases hr
    . cases hr
  . cases e
 | indexAddr t y z => exact oOr_ok e fun c v hr => oIA_ok hr
 | extract y i =>
  refine oOr_ok e fun c v hr => ?_
  unfold oEx at hr
  split at hr
  . rename_i cs hy
    split at hr
    . rename_i q hq
      simp at hr; obtain ⟨rfl, rfl⟩ := hr
      simp only [effOp, opPure, hy, hq]
    . cases hr
  . cases hr
 | convert s d y => exact oOr_ok e fun c v hr => oCv_ok hr
 | unOp o t y => exact oOr_ok e fun c v hr => oUn_ok hr
 | call c =>
  simp only [fastOp, oCall] at e
  split at e
  . rename_i f hc
    exact oCallV_ok hf hc e
  . exact e
 | _ => exact e
noncomputable def lookC (L : Nat) (t : PT) : Operand -> AV
 | .tmp k => cond (Nat.blt k L) (t.get k) .any
 | .const v => constA v
 | .global g => .v (.pointer (some ⟨g, 0, none⟩))
 | .func f => .fn (.func f) [] []
noncomputable def putC {β : Type} (L : Nat) (t : PT) (d : Option Tmp) (a : AV) (f : PT -> β) : β := match d with
 | some d => cond (Nat.blt d L) (t.setK d a f) (f t)
 | none => f t
noncomputable def wantedC (L : Nat) (t : PT) (ops : Array Oper) (o : Oper) : Option Bool :=
 match o.guard with
 | none => some true
 | some (j, want) => match (ops.toList[j]?).bind (·.dst) with
  | none => some false
  | some d => cond (Nat.blt d L) (match t.get d with
   | .lit b => some (b == want)
   | .v (.bool b) => some (b == want)
   | .v (.tuple _) => some false
   | _ => none) (some false)
noncomputable def frcBlk {β : Type} (b : Option Blk) (f : Option Blk -> β) : β := match b with
 | none => f none
 | some B => frcB B.wr fun wr => frcN B.ty fun ty => frcL frc1 B.cs fun cs => f (some ⟨wr, ty, cs⟩)
theorem frcBlk_eq {β : Type} (b : Option Blk) (f : Option Blk -> β) : frcBlk b f = f b := by
 unfold frcBlk
 split
 . rfl
 . rw [frcB_eq, frcN_eq, frcL_eq frc1_eq]
noncomputable def insK {β : Type} (h : AH) (i : Nat) (b : Option Blk) (f : AH -> β) : β := List.rec (motive := fun _ => (AH -> β) -> β) (fun f => f [(i, b)]) (fun p t ih f => cond (Nat.beq p.1 i) (f ((i, b) :: t)) (ih fun t => f (p :: t))) h f
def insA : AH -> Nat -> Option Blk -> AH
 | [], i, b => [(i, b)]
 | p :: t, i, b => cond (Nat.beq p.1 i) ((i, b) :: t) (p :: insA t i b)
theorem insK_eq {β : Type} : ∀ (h : AH) (i : Nat) (b : Option Blk) (f : AH -> β), insK h i b f = f (insA h i b)
 | [], i, b, f => rfl
 | p :: t, i, b, f => by
  show cond (Nat.beq p.1 i) (f ((i, b) :: t)) (insK t i b fun t => f (p :: t)) = f (cond _ _ _)
  rw [insK_eq t]
  cases Nat.beq p.1 i <;> rfl
theorem insA_get (i : Nat) (b : Option Blk) (j : Nat) : ∀ (h : AH), AH.get (insA h i b) j = if i = j then b else AH.get h j
 | [] => by rw [show insA [] i b = [(i, b)] from rfl, AH.get_cons]
 | (q, c) :: t => by
  show AH.get (cond (Nat.beq q i) ((i, b) :: t) ((q, c) :: insA t i b)) j = _
  cases hq : Nat.beq q i with
  | true =>
   have := (beq_iff _ _).1 hq
   subst this
   rw [cond_true, AH.get_cons, AH.get_cons]
   by_cases e : q = j
   . rw [if_pos e, if_pos e]
   . rw [if_neg e, if_neg e, if_neg e]
  | false =>
   have := beq_off.1 hq
   rw [cond_false, AH.get_cons, AH.get_cons, insA_get i b j t]
   by_cases e : q = j
   . rw [if_pos e, if_neg (fun h => this (e.trans h.symm)), if_pos e]
   . rw [if_neg e]
     by_cases e' : i = j
     . rw [if_pos e', if_pos e']
     . rw [if_neg e', if_neg e', if_neg e]
noncomputable def upsK {β : Type} (h : AH) (u : AH) : (AH -> β) -> β := List.rec (motive := fun _ => (AH -> β) -> β) (fun f => f h) (fun p _ ih f => ih fun h => frcN p.1 fun i => frcBlk p.2 fun b => insK h i b f) u
theorem upsK_eq {β : Type} (h : AH) : ∀ (u : AH) (f : AH -> β), upsK h u f = f (u.foldr (fun p h => insA h p.1 p.2) h)
 | [], f => rfl
 | p :: t, f => by
  show upsK h t (fun h => frcN p.1 fun i => frcBlk p.2 fun b => insK h i b f) = _
  rw [upsK_eq h t, frcN_eq, frcBlk_eq, insK_eq]
  rfl
theorem ups_get (h : AH) (j : Nat) : ∀ (u : AH), AH.get (u.foldr (fun p h => insA h p.1 p.2) h) j = AH.get (u ++ h) j
 | [] => rfl
 | (i, b) :: t => by
  show AH.get (insA (t.foldr (fun p h => insA h p.1 p.2) h) i b) j = AH.get ((i, b) :: (t ++ h)) j
  rw [insA_get, AH.get_cons, ups_get h j t]
structure CS where
 t : PT
 h : AH
 n : Nat
noncomputable def crunOps (P : Program) (E : Env) (L base : Nat) (ops : Array Oper) : List Oper -> Nat -> PT -> AH -> Option (PT × AH)
 | [], _, t, h => some (t, h)
 | o :: l, i, t, h => match wantedC L t ops o with
  | none => none
  | some false => putC L t o.dst (.v undef) fun t => frcN (i + 1) fun i => crunOps P E L base ops l i t h
  | some true => match tauOk E i o.op (lookC L t) with
   | false => none
   | true => match fastOp P E (lookC L t) h (base + E.kk * i) o.op with
    | some (true, r, ups) => match upsOk E o.op ups with
     | true => frc2 r fun r => putC L t o.dst r fun t => upsK h ups fun h => frcN (i + 1) fun i => crunOps P E L base ops l i t h
     | false => none
    | _ => none
noncomputable def crunT (P : Program) (E : Env) (L : Nat) (ops : Array Oper) (c : CS) : Option (AExit × CS) := match chk E ops with
 | false => none
 | true => match crunOps P E L c.n ops ops.toList 0 c.t c.h with
  | some (t, h) => frcN (c.n + E.kk * ops.size) fun n => some (.normal, ⟨t, h, n⟩)
  | none => none
noncomputable def citer (f : CS -> Option (AExit × CS)) : Nat -> CS -> Option (AExit × CS)
 | 0, _ => none
 | k + 1, c => match f c with
  | some (.normal, c) => citer f k c
  | r => r
noncomputable def crun (P : Program) (E : Env) (L lf : Nat) : Code -> CS -> Option (AExit × CS)
 | .skip, c => some (.normal, c)
 | .label _, c => some (.normal, c)
 | .ret, c => some (.ret, c)
 | .exit id, c => some (.exit id, c)
 | .region _ ops d, c => cond (E.late && (d && !chk E ops)) (crunT P (E.withTau (tauOf P E ops.toList c.n (lookC L c.t) c.h ops.toList 0)) L ops c) (match crunOps P E L c.n ops ops.toList 0 c.t c.h with
  | some (t, h) => frcN (c.n + E.kk * ops.size) fun n => some (.normal, ⟨t, h, n⟩)
  | none => none)
 | .seq a b, c => match crun P E L lf a c with
  | some (.normal, c) => crun P E L lf b c
  | r => r
 | .cond o a b, c => match boolOf (lookC L c.t o) with
  | some true => crun P E L lf a c
  | some false => crun P E L lf b c
  | none => none
 | .block id a, c => match crun P E L lf a c with
  | some (.exit i, c) => cond (Nat.beq i id) (some (.normal, c)) (some (.exit i, c))
  | r => r
 | .loop a, c => citer (crun P E L lf a) lf c
 | _, _ => none
structure RepC (L D : Nat) (t : PT) (h : AH) (s : St) : Prop where
 len : s.tm.length = L
 fit : L <= 2 ^ D
 deep : t.deep D
 tm : ∀ k, k < L -> t.get k = s.tm.getD k .any
 h : ∀ id, s.h.get id = h.get id
 ok : s.ok = true
theorem RepC.look {L D : Nat} {t : PT} {h : AH} {s : St} (r : RepC L D t h s) : lookC L t = look s.tm := by
 funext x
 cases x with
 | tmp k =>
  show cond (Nat.blt k L) (t.get k) .any = s.tm.getD k .any
  cases hb : Nat.blt k L with
  | true => exact r.tm k (Nat.le_of_ble_eq_true hb)
  | false =>
   have : ¬ k < L := fun hh => by rw [show Nat.blt k L = true from Nat.ble_eq_true_of_le hh] at hb; cases hb
   have hk : s.tm.length <= k := by rw [r.len]; exact Nat.le_of_not_lt this
   rw [cond_false, List.getD_eq_getElem?_getD, List.getElem?_eq_none hk]
   rfl
 | _ => rfl
theorem RepC.wanted {L D : Nat} {t : PT} {h : AH} {s : St} (r : RepC L D t h s) (ops : Array Oper) (o : Oper) : wantedC L t ops o = wantedA ops s.tm o := by
 unfold wantedC wantedA
 rcases o.guard with _ | ⟨j, want⟩
 . rfl
 . simp only
   rcases (ops.toList[j]?).bind (·.dst) with _ | d
   . rfl
   . simp only
     cases hb : Nat.blt d L with
     | true =>
      have hd : d < L := Nat.le_of_ble_eq_true hb
      have e : s.tm[d]? = some (t.get d) := by
       rw [r.tm d hd, List.getD_eq_getElem?_getD, List.getElem?_eq_getElem (by rw [r.len]; exact hd)]
       rfl
      rw [cond_true, e]
      cases t.get d with
      | v x => cases x <;> rfl
      | _ => rfl
     | false =>
      have : ¬ d < L := fun hh => by rw [show Nat.blt d L = true from Nat.ble_eq_true_of_le hh] at hb; cases hb
      have hk : s.tm.length <= d := by rw [r.len]; exact Nat.le_of_not_lt this
      rw [cond_false, List.getElem?_eq_none hk]
theorem RepC.put {L D : Nat} {t : PT} {h h' : AH} {s : St} (r : RepC L D t h s) (d : Option Tmp) (a : AV) (ups : AH) (hh : ∀ id, AH.get (ups ++ s.h) id = h'.get id) {β : Type} (f : PT -> β) :
 ∃ t', putC L t d a f = f t' /\ RepC L D t' h' (s.put ⟨true, d, a, ups⟩) := by
 cases d with
 | none => exact ⟨t, rfl, r.len, r.fit, r.deep, r.tm, hh, by simp [St.put, r.ok]⟩
 | some d =>
  show ∃ t', cond (Nat.blt d L) (t.setK d a f) (f t) = f t' /\ _
  cases hb : Nat.blt d L with
  | true =>
   have hd : d < L := Nat.le_of_ble_eq_true hb
   refine ⟨t.set d a, PT.setK_eq _ _ _ _, by simp [St.put, putA, r.len], r.fit, PT.set_deep r.deep, fun k hk => ?_, hh, by simp [St.put, r.ok]⟩
   rw [PT.get_set r.deep (Nat.lt_of_lt_of_le hd r.fit) (Nat.lt_of_lt_of_le hk r.fit), r.tm k hk]
   show _ = (s.tm.set d a).getD k .any
   rw [List.getD_eq_getElem?_getD, List.getD_eq_getElem?_getD, List.getElem?_set]
   by_cases e : d = k
   . rw [if_pos e, if_pos e, if_pos (by rw [r.len]; exact hd)]; rfl
   . rw [if_neg e, if_neg e]
  | false =>
   have hd : ¬ d < L := fun hh => by rw [show Nat.blt d L = true from Nat.ble_eq_true_of_le hh] at hb; cases hb
   refine ⟨t, rfl, by simp [St.put, putA, r.len], r.fit, r.deep, fun k hk => ?_, hh, by simp [St.put, r.ok]⟩
   rw [r.tm k hk]
   show _ = (s.tm.set d a).getD k .any
   have hk : s.tm.length <= d := by rw [r.len]; exact Nat.le_of_not_lt hd
   rw [List.set_eq_of_length_le hk]
theorem crunOps_ok {P : Program} {E : Env} (hE : EnvOk P E) {L D base : Nat} {ops : Array Oper} : ∀ (l : List Oper) (i : Nat) (t : PT) (h : AH) (t' : PT) (h' : AH) (s : St), ops.toList.drop i = l -> RepC L D t h s ->
 crunOps P E L base ops l i t h = some (t', h') -> ∃ s', RepC L D t' h' s' /\ (runT P E [] base ops (List.range' i l.length) s).holds (fun q => q = s')
 | [], i, t, h, t', h', s, hl, r, e => by
  simp only [crunOps, Option.some.injEq, Prod.mk.injEq] at e
  obtain ⟨rfl, rfl⟩ := e
  refine ⟨s, r, ?_⟩
  show (Tree.need s.ok (Tree.leaf (⟨s.tm, s.h, true⟩ : St))).holds _
  refine ⟨r.ok, ?_⟩
  show (⟨s.tm, s.h, true⟩ : St) = s
  rw [<- r.ok]
 | o :: l, i, t, h, t', h', s, hl, r, e => by
  have hget : ops.toList[i]? = some o := by
   have := congrArg (fun l => l[0]?) hl
   simpa [List.getElem?_drop] using this
  have hl' : ops.toList.drop (i + 1) = l := by
   rw [<- List.drop_drop, hl]; rfl
  have next : ∀ (ef : Eff), eff P E (fun _ => none) base ops i s.tm s.h = some ef -> ∀ s', (runT P E [] base ops (List.range' (i + 1) l.length) (s.put ef)).holds (fun q => q = s') ->
   (runT P E [] base ops (List.range' i (l.length + 1)) s).holds (fun q => q = s') := by
   intro ef he s' hk
   rw [List.range'_succ]
   simp only [runT]
   rw [he]
   simp only
   split
   . exact hk
   . exact hk
  simp only [crunOps] at e
  rw [r.wanted] at e
  split at e
  . cases e
  . rename_i hw
    have he : eff P E (fun _ => none) base ops i s.tm s.h = some ⟨true, o.dst, .v undef, []⟩ := by
     unfold eff
     simp only [hget, hw]
    obtain ⟨t1, h1, h2⟩ := r.put (h' := h) o.dst (.v undef) [] r.h (fun t => frcN (i + 1) fun i => crunOps P E L base ops l i t h)
    rw [h1, frcN_eq] at e
    obtain ⟨s', k1, k2⟩ := crunOps_ok hE l (i + 1) t1 h t' h' _ hl' h2 e
    exact ⟨s', k1, next _ he s' k2⟩
  . rename_i hw
    split at e
    . cases e
    rename_i htk
    rw [r.look] at htk
    split at e
    . rename_i q ups hq
      split at e
      case h_2 => cases e
      rename_i huk
      have hq' : effOp P E (Rq.look s.tm) s.h (base + E.kk * i) o.op = some (true, q, ups) := by
       rw [effOp_congr_h hE r.h, <- r.look]; exact fastOp_ok (fun _ => rfl) hq
      have he : eff P E (fun _ => none) base ops i s.tm s.h = some ⟨true, o.dst, q, ups⟩ := by
       unfold eff
       simp only [hget, hw, htk, effT_mk hq' huk]
      rw [frc2_eq] at e
      obtain ⟨t1, h1, h2⟩ := r.put (h' := ups.foldr (fun p h => insA h p.1 p.2) h) o.dst q ups (fun id => by
       rw [ups_get, AH.get_append_congr r.h id]) (fun t => upsK h ups fun h => frcN (i + 1) fun i => crunOps P E L base ops l i t h)
      rw [h1, upsK_eq, frcN_eq] at e
      obtain ⟨s', k1, k2⟩ := crunOps_ok hE l (i + 1) t1 _ t' h' _ hl' h2 e
      exact ⟨s', k1, next _ he s' k2⟩
    . cases e
theorem condA_none {E : Env} (hm : E.mrg = []) (c : Operand) (a b : Code) (x : XS) : condA E [] c a b x = none := by
 unfold condA
 cases c with
 | tmp ct =>
  simp only
  rw [hm, show inL ct ([] : List Nat) = false from rfl, Bool.false_and]
 | _ => rfl
theorem evR_congr {P : Program} {E : Env} (hE : EnvOk P E) {ops : List Oper} {base : Nat} {lk : Operand -> AV} {h h' : AH} (hh : ∀ id, h.get id = h'.get id) : ∀ (k : Nat) (x : Operand), evR P E ops base lk h k x = evR P E ops base lk h' k x
 | 0, _ => rfl
 | k + 1, x => by
  have ih : evR P E ops base lk h k = evR P E ops base lk h' k := funext (evR_congr hE hh k)
  unfold evR
  simp only [ih, effOp_congr_h hE hh]
theorem ovT_congr {P : Program} {E : Env} (hE : EnvOk P E) {base : Nat} {lk : Operand -> AV} : ∀ (l : List Oper) (i : Nat) (ov : List (Tmp × AV)) {h h' : AH}, (∀ id, h.get id = h'.get id) -> ovT P E base lk l i ov h = ovT P E base lk l i ov h'
 | [], _, _, _, _, _ => rfl
 | o :: t, i, ov, h, h', hh => by
  unfold ovT
  rw [effOp_congr_h hE hh]
  split
  . exact ovT_congr hE t (i + 1) _ fun id => AH.get_append_congr hh id
  . exact ovT_congr hE t (i + 1) _ hh
theorem tauOf_congr {P : Program} {E : Env} (hE : EnvOk P E) {ops : List Oper} {base : Nat} {lk : Operand -> AV} {h h' : AH} (hh : ∀ id, h.get id = h'.get id) : ∀ (l : List Oper) (i : Nat), tauOf P E ops base lk h l i = tauOf P E ops base lk h' l i
 | [], _ => rfl
 | o :: l, i => by
  unfold tauOf
  rw [tauOf_congr hE hh l (i + 1)]
  simp only [evR_congr hE hh, ovT_congr hE _ _ _ hh]
theorem crun_ok {P : Program} {E : Env} (hE : EnvOk P E) (_htau : E.tau = none) (hm : E.mrg = []) {L D lf : Nat} : ∀ (code : Code) (c : CS) (e : AExit) (c' : CS) (s : St), RepC L D c.t c.h s ->
 crun P E L lf code c = some (e, c') -> ∃ s', RepC L D c'.t c'.h s' /\ (exec P E [] (fun _ => none) lf code ⟨s, c.n⟩).holds (fun q => q = (e, ⟨s', c'.n⟩)) := by
 intro code
 induction code with
 | skip => intro c e c' s r h; simp only [crun, Option.some.injEq, Prod.mk.injEq] at h; obtain ⟨rfl, rfl⟩ := h; exact ⟨s, r, rfl⟩
 | label l => intro c e c' s r h; simp only [crun, Option.some.injEq, Prod.mk.injEq] at h; obtain ⟨rfl, rfl⟩ := h; exact ⟨s, r, rfl⟩
 | ret => intro c e c' s r h; simp only [crun, Option.some.injEq, Prod.mk.injEq] at h; obtain ⟨rfl, rfl⟩ := h; exact ⟨s, r, rfl⟩
 | exit id => intro c e c' s r h; simp only [crun, Option.some.injEq, Prod.mk.injEq] at h; obtain ⟨rfl, rfl⟩ := h; exact ⟨s, r, rfl⟩
 | region id ops d =>
  intro c e c' s r h
  simp only [crun] at h
  cases hc : (E.late && (d && !chk E ops)) with
  | true =>
   rw [hc, cond_true] at h
   rw [r.look] at h
   unfold crunT at h
   split at h
   . cases h
   rename_i hck
   split at h
   . rename_i t h1 hr
     rw [frcN_eq] at h
     simp only [Option.some.injEq, Prod.mk.injEq] at h
     obtain ⟨rfl, rfl⟩ := h
     obtain ⟨s', k1, k2⟩ := crunOps_ok (withTau_ok hE _) ops.toList 0 c.t c.h t h1 s rfl r hr
     refine ⟨s', k1, ?_⟩
     simp only [exec, hc, cond_true, tauOf_congr hE r.h, hck]
     rw [rangeL_eq, List.append_nil, List.range_eq_range']
     refine Tree.bind_holds (Tree.holds_mono (fun q hq => ?_) (by simpa using k2))
     subst hq
     rfl
   . cases h
  | false =>
   rw [hc, cond_false] at h
   split at h
   . rename_i t h1 hr
     rw [frcN_eq] at h
     simp only [Option.some.injEq, Prod.mk.injEq] at h
     obtain ⟨rfl, rfl⟩ := h
     obtain ⟨s', k1, k2⟩ := crunOps_ok hE ops.toList 0 c.t c.h t h1 s rfl r hr
     refine ⟨s', k1, ?_⟩
     simp only [exec, hc, cond_false]
     rw [rangeL_eq, List.append_nil, List.range_eq_range']
     refine Tree.bind_holds (Tree.holds_mono (fun q hq => ?_) (by simpa using k2))
     subst hq
     rfl
   . cases h
 | seq a b iha ihb =>
  intro c e c' s r h
  simp only [crun] at h
  split at h
  . rename_i c1 h1
    obtain ⟨s1, r1, k1⟩ := iha c _ _ s r h1
    obtain ⟨s2, r2, k2⟩ := ihb c1 _ _ s1 r1 h
    refine ⟨s2, r2, ?_⟩
    simp only [exec]
    refine Tree.bind_holds (Tree.holds_mono (fun q hq => ?_) k1)
    subst hq
    exact k2
  . rename_i hn
    obtain ⟨s1, r1, k1⟩ := iha c _ _ s r h
    refine ⟨s1, r1, ?_⟩
    simp only [exec]
    refine Tree.bind_holds (Tree.holds_mono (fun q hq => ?_) k1)
    subst hq
    cases e with
    | normal => exact absurd h (hn c')
    | _ => rfl
 | cond o a b iha ihb =>
  intro c e c' s r h
  simp only [crun] at h
  rw [r.look] at h
  simp only [exec, condA_none hm]
  split at h
  . rename_i hb
    obtain ⟨s1, r1, k1⟩ := iha c _ _ s r h
    refine ⟨s1, r1, ?_⟩
    rw [hb]; exact k1
  . rename_i hb
    obtain ⟨s1, r1, k1⟩ := ihb c _ _ s r h
    refine ⟨s1, r1, ?_⟩
    rw [hb]; exact k1
  . cases h
 | block id a iha =>
  intro c e c' s r h
  simp only [crun] at h
  split at h
  . rename_i i c1 h1
    obtain ⟨s1, r1, k1⟩ := iha c _ _ s r h1
    cases hi : Nat.beq i id with
    | true =>
     rw [hi, cond_true] at h
     simp only [Option.some.injEq, Prod.mk.injEq] at h
     obtain ⟨rfl, rfl⟩ := h
     refine ⟨s1, r1, ?_⟩
     simp only [exec]
     refine Tree.bind_holds (Tree.holds_mono (fun q hq => ?_) k1)
     subst hq
     simp only [hi, cond_true]
     rfl
    | false =>
     rw [hi, cond_false] at h
     simp only [Option.some.injEq, Prod.mk.injEq] at h
     obtain ⟨rfl, rfl⟩ := h
     refine ⟨s1, r1, ?_⟩
     simp only [exec]
     refine Tree.bind_holds (Tree.holds_mono (fun q hq => ?_) k1)
     subst hq
     simp only [hi, cond_false]
     rfl
  . rename_i hn
    obtain ⟨s1, r1, k1⟩ := iha c _ _ s r h
    refine ⟨s1, r1, ?_⟩
    simp only [exec]
    refine Tree.bind_holds (Tree.holds_mono (fun q hq => ?_) k1)
    subst hq
    cases e with
    | exit i => exact absurd h (hn i c')
    | _ => rfl
 | loop a iha =>
  intro c e c' s r h
  simp only [crun] at h
  simp only [exec]
  have main : ∀ (k : Nat) (c : CS) (s : St), RepC L D c.t c.h s -> citer (crun P E L lf a) k c = some (e, c') -> ∃ s', RepC L D c'.t c'.h s' /\ (iter (exec P E [] (fun _ => none) lf a) k ⟨s, c.n⟩).holds (fun q => q = (e, ⟨s', c'.n⟩)) := by
   intro k
   induction k with
   | zero => intro c s r h; cases h
   | succ k ih =>
    intro c s r h
    simp only [citer] at h
    split at h
    . rename_i c1 h1
      obtain ⟨s1, r1, k1⟩ := iha c _ _ s r h1
      obtain ⟨s2, r2, k2⟩ := ih c1 s1 r1 h
      refine ⟨s2, r2, ?_⟩
      simp only [iter]
      refine Tree.bind_holds (Tree.holds_mono (fun q hq => ?_) k1)
      subst hq
      exact k2
    . rename_i hn
      obtain ⟨s1, r1, k1⟩ := iha c _ _ s r h
      refine ⟨s1, r1, ?_⟩
      simp only [iter]
      refine Tree.bind_holds (Tree.holds_mono (fun q hq => ?_) k1)
      subst hq
      cases e with
      | normal => exact absurd h (hn c')
      | _ => rfl
  exact main lf c s r h
 | _ => intro c e c' s r h; simp [crun] at h
noncomputable def initK {β : Type} (t : PT) : List AV -> Nat -> (PT -> β) -> β
 | [], _, f => f t
 | a :: l, k, f => frc2 a fun a => t.setK k a fun t => initK t l (k + 1) f
theorem initK_eq {β : Type} {D : Nat} : ∀ (l : List AV) (k : Nat) (t : PT) (f : PT -> β), t.deep D -> k + l.length <= 2 ^ D -> ∃ t', initK t l k f = f t' /\ t'.deep D /\ ∀ j, j < 2 ^ D -> t'.get j = if k <= j /\ j < k + l.length then l.getD (j - k) .any else t.get j
 | [], k, t, f, hd, hk => ⟨t, rfl, hd, fun j hj => by rw [if_neg (by simp only [List.length_nil]; omega)]⟩
 | a :: l, k, t, f, hd, hk => by
  simp only [List.length_cons] at hk
  obtain ⟨t', h1, h2, h3⟩ := initK_eq l (k + 1) (t.set k a) f (PT.set_deep hd) (by omega)
  refine ⟨t', ?_, h2, fun j hj => ?_⟩
  . simp only [initK]
    rw [frc2_eq, PT.setK_eq]
    exact h1
  . rw [h3 j hj, PT.get_set hd (by omega) hj]
    simp only [List.length_cons]
    by_cases e : k = j
    . subst e
      rw [if_neg (by omega), if_pos rfl, if_pos (by omega), Nat.sub_self]; rfl
    . by_cases e2 : k + 1 <= j /\ j < k + 1 + l.length
      . rw [if_pos e2, if_pos (by omega), show j - k = (j - (k + 1)) + 1 by omega]; rfl
      . rw [if_neg e2, if_neg e, if_neg (by omega)]
noncomputable def resC (P : Program) (L : Nat) (t : PT) (h : AH) : ResultVar -> Option AV
 | .tmp k => cond (Nat.blt k L) (some (t.get k)) none
 | .cell a ty => match lookC L t (.tmp a) with
  | .ptr id off => match h.getC id with
   | some B => match loadA P ty B.cs off with
    | some r => some r
    | none => none
   | none => none
  | _ => none
noncomputable def resAllC (P : Program) (L : Nat) (t : PT) (h : AH) : List ResultVar -> Option (List AV)
 | [] => some []
 | r :: l => match resC P L t h r with
  | none => none
  | some a => match resAllC P L t h l with
   | none => none
   | some m => some (a :: m)
theorem resC_eq {P : Program} {L D : Nat} {t : PT} {h : AH} {s : St} (r : RepC L D t h s) {x : ResultVar} {a : AV} (e : resC P L t h x = some a) : resA P s.tm s.h x = some a := by
 cases x with
 | tmp k =>
  simp only [resC] at e
  obtain ⟨hb, e⟩ := cond_some e
  have hk : k < L := Nat.le_of_ble_eq_true hb
  simp only [resA]
  rw [<- e, r.tm k hk, List.getD_eq_getElem?_getD, List.getElem?_eq_getElem (by rw [r.len]; exact hk)]
  rfl
 | cell a' ty =>
  simp only [resC, r.look] at e
  simp only [resA]
  rw [show Rq.look s.tm (.tmp a') = s.tm.getD a' .any from rfl] at e
  split at e
  . rename_i id off hv
    rw [hv]
    simp only
    rw [getC_congr (r.h id)]
    split at e
    . rename_i B hB
      rw [hB]
      simp only
      split at e
      . rename_i q hq
        rw [hq]; exact e
      . cases e
    . cases e
  . cases e
theorem resAllC_eq {P : Program} {L D : Nat} {t : PT} {h : AH} {s : St} (r : RepC L D t h s) : ∀ {l : List ResultVar} {m : List AV}, resAllC P L t h l = some m -> resAll P s.tm s.h l = some m
 | [], m, e => e
 | x :: l, m, e => by
  simp only [resAllC] at e
  simp only [resAll]
  split at e
  . cases e
  . rename_i a ha
    rw [resC_eq r ha]
    simp only
    split at e
    . cases e
    . rename_i q hq
      rw [resAllC_eq r hq]
      exact e
noncomputable def crunF (P : Program) (E : Env) (D lf f : Nat) (args : List AV) (h : AH) (n : Nat) : Option (AV × AH) :=
 match P.funcs.toList[f]? with
 | none => none
 | some fn => match fn.body with
  | none => none
  | some c => frcN (args.length + (fn.ntmps - args.length)) fun L => cond (Nat.ble L (2 ^ D)) (initK (PT.uni D) args 0 fun t => match crun P E L lf c ⟨t, h, n⟩ with
   | some (.exit _, _) => none
   | some (_, y) => match resAllC P L y.t y.h fn.results.toList with
    | none => none
    | some l => frc2 (one1 l) fun r => some (r, y.h)
   | none => none) none
theorem undefs_length : ∀ n, (undefs n).length = n
 | 0 => rfl
 | n + 1 => by simp [undefs, undefs_length n]
theorem undefs_get : ∀ n k, k < n -> (undefs n)[k]? = some (.v undef)
 | 0, k, h => absurd h (Nat.not_lt_zero _)
 | n + 1, 0, h => rfl
 | n + 1, k + 1, h => by simp only [undefs, List.getElem?_cons_succ]; exact undefs_get n k (by omega)
theorem crunF_ok {P : Program} {E : Env} (hE : EnvOk P E) (htau : E.tau = none) (hm : E.mrg = []) {D lf f : Nat} {args : List AV} {h : AH} {n : Nat} {r : AV} {h' : AH}
 (e : crunF P E D lf f args h n = some (r, h')) : (afun P E [] (fun _ => none) lf f args h n).holds (fun q => q.1 = r /\ ∀ id, q.2.get id = h'.get id) := by
 unfold crunF at e
 unfold afun
 split at e
 . cases e
 rename_i fn hf
 split at e
 . cases e
 rename_i c hb
 rw [frcN_eq] at e
 obtain ⟨hL, e⟩ := cond_some e
 have hL := Nat.le_of_ble_eq_true hL
 obtain ⟨t, h1, h2, h3⟩ := initK_eq args 0 (PT.uni D) (fun t => match crun P E (args.length + (fn.ntmps - args.length)) lf c ⟨t, h, n⟩ with
  | some (.exit _, _) => none
  | some (_, y) => match resAllC P (args.length + (fn.ntmps - args.length)) y.t y.h fn.results.toList with
   | none => none
   | some l => frc2 (one1 l) fun r => some (r, y.h)
  | none => none) (PT.uni_deep D) (by omega)
 rw [h1] at e
 have rep : RepC (args.length + (fn.ntmps - args.length)) D t h ⟨args ++ undefs (fn.ntmps - args.length), h, true⟩ := by
  refine ⟨by simp [undefs_length], hL, h2, fun k hk => ?_, fun _ => rfl, rfl⟩
  rw [h3 k (by omega)]
  show _ = (args ++ undefs (fn.ntmps - args.length)).getD k .any
  by_cases hk' : k < args.length
  . rw [if_pos (by omega), Nat.sub_zero, List.getD_eq_getElem?_getD, List.getD_eq_getElem?_getD, List.getElem?_append_left hk']
  . rw [if_neg (by omega), List.getD_eq_getElem?_getD, List.getElem?_append_right (by omega), undefs_get _ _ (by omega), PT.uni_get]; rfl
 simp only [hf, hb]
 have fin : ∀ (ex : AExit) (y : CS), crun P E (args.length + (fn.ntmps - args.length)) lf c ⟨t, h, n⟩ = some (ex, y) -> (∀ i, ex ≠ .exit i) -> (match resAllC P (args.length + (fn.ntmps - args.length)) y.t y.h fn.results.toList with
  | none => none
  | some l => frc2 (one1 l) fun r => some (r, y.h)) = some (r, h') ->
  ((exec P E [] (fun _ => none) lf c ⟨⟨args ++ undefs (fn.ntmps - args.length), h, true⟩, n⟩).bind fun (x : AExit × XS) => match x.1 with
  | .exit _ => Tree.fail
  | _ => match resAll P x.2.s.tm x.2.s.h fn.results.toList with
   | none => .fail
   | some l => .leaf (one1 l, x.2.s.h)).holds (fun q => q.1 = r /\ ∀ id, q.2.get id = h'.get id) := by
  intro ex y hc hex hr
  obtain ⟨s', k1, k2⟩ := crun_ok hE htau hm c _ _ _ _ rep hc
  refine Tree.bind_holds (Tree.holds_mono (fun q hq => ?_) k2)
  subst hq
  split at hr
  . cases hr
  . rename_i l hl
    rw [frc2_eq] at hr
    simp only [Option.some.injEq, Prod.mk.injEq] at hr
    obtain ⟨rfl, rfl⟩ := hr
    have hl' := resAllC_eq k1 hl
    cases ex with
    | exit i => exact absurd rfl (hex i)
    | normal => simp only [hl']; exact ⟨rfl, k1.h⟩
    | ret => simp only [hl']; exact ⟨rfl, k1.h⟩
 split at e
 . cases e
 . rename_i ex y hne hc
   exact fin ex y hc (fun i hi => by subst hi; exact hne i rfl) e
 . cases e
noncomputable def inlineC (P : Program) (E : Env) (D lf f : Nat) (as : List AV) : Option (Bool × AV) :=
 match allFlat as with
 | true => match crunF P E D lf f as [] 0 with
  | some (r, _) => match isFlat r with
   | true => some (true, r)
   | false => none
  | none => none
 | false => none
theorem inlineC_ok {P : Program} {E : Env} {D lf f : Nat} (X : Ctx P E [] (fun _ => none) lf f) (htau : E.tau = none) (hm : E.mrg = []) : PureOk P f (inlineC P E D lf f) := by
 refine pure_core X fun as r hg => ?_
 unfold inlineC at hg
 split at hg
 . rename_i hfl
   split at hg
   . rename_i q h' hq
     split at hg
     . rename_i hfr
       simp at hg; subst hg
       unfold allFlat at hfl
       split at hfl
       . rename_i l hl
         unfold isFlat at hfr
         split at hfr
         . rename_i y hy
           refine ⟨as, l, fun ρ xs hx => hx.flatL_eq hl, hl, y, hy, ?_⟩
           exact Tree.bind_holds (Tree.holds_mono (fun a ha => by show flat a.1 = some y; rw [ha.1]; exact hy) (crunF_ok X.env htau hm hq))
         . cases hfr
       . cases hfl
     . cases hg
   . cases hg
 . cases hg
noncomputable def frcP {β : Type} (p : Nat × Option Blk) (f : Nat × Option Blk -> β) : β := frcN p.1 fun i => frcBlk p.2 fun b => f (i, b)
theorem frcP_eq {β : Type} (p : Nat × Option Blk) (f : Nat × Option Blk -> β) : frcP p f = f p := by
 unfold frcP
 rw [frcN_eq, frcBlk_eq]
noncomputable def deepC (P : Program) (E : Env) (D lf f kk : Nat) (rd : Bool) (args : List AV) (h : AH) (z : Nat) : Option (Bool × AV × AH) :=
 match closeI h 65536 (args.foldr nm3 []) [] with
 | none => none
 | some ids => frcL frcN ids fun ids => frcL frcP (inH h (inM ids) (!rd) ids 0) fun h0 => match crunF P E D lf f (args.map (mv3 (inM ids))) h0 ids.length with
  | none => none
  | some (r, h') => backL kk rd ids z r h' (closeX h' ids.length 65536 (nm3 r (bif rd then [] else namesH h' ids.length)) [])
theorem deepC_ok {P : Program} {E : Env} {D lf f kk : Nat} {rd : Bool} (X : Ctx P E [] (fun _ => none) lf f) (htau : E.tau = none) (hm : E.mrg = []) : ActOk P kk f (deepC P E D lf f kk rd) := by
 obtain ⟨fn, c, hf, hb, hok, htab⟩ := X.body
 have same : ∀ {args : List AV} {h h' : AH} {z : Nat} {x : Bool × AV × AH}, (∀ ids, closeI h 65536 (args.foldr nm3 []) [] = some ids -> closeI h' 65536 (args.foldr nm3 []) [] = some ids /\ ∀ i ∈ ids, h.get i = h'.get i) ->
  deepC P E D lf f kk rd args h z = some x -> deepC P E D lf f kk rd args h' z = some x := by
  intro args h h' z x hh hg
  unfold deepC at hg ⊢
  split at hg
  . cases hg
  . rename_i ids hi
    obtain ⟨h1, h2⟩ := hh ids hi
    have e : ∀ (l : List Nat) (n : Nat), (∀ i ∈ l, h.get i = h'.get i) -> inH h (inM ids) (!rd) l n = inH h' (inM ids) (!rd) l n := by
     intro l
     induction l with
     | nil => intro n _; rfl
     | cons i t ih =>
      intro n hl
      simp only [inH]
      rw [hl i (by simp), ih (n + 1) (fun j hj => hl j (by simp [hj]))]
    simp only [h1]
    rw [frcL_eq frcN_eq, frcL_eq frcP_eq] at hg ⊢
    rw [<- e ids 0 h2]
    exact hg
 have hin : ∀ {args : List AV} {h : AH} {ids : List Nat}, closeI h 65536 (args.foldr nm3 []) [] = some ids -> ∀ i ∈ ids, ∃ B, h.get i = some B := fun e => closeI_in e (fun i hi => by simp at hi)
 refine ⟨?_, fun args h h' z x hle hg => same (fun ids hi => ⟨closeI_mono hle hi, fun i hm => ?_⟩) hg, fun F ρ args xs z u h w x hx hw hu hg => ?_, fun args h z c' r ups hg => ?_⟩
 . intro F ρ args xs h z r ups w hg hx hw hz
   unfold deepC at hg
   split at hg
   . cases hg
   rename_i ids hi
   rw [frcL_eq frcN_eq, frcL_eq frcP_eq] at hg
   split at hg
   . cases hg
   rename_i r0 h0 hq
   unfold backL at hg
   obtain ⟨hc, hg⟩ := cond_some hg
   simp only [Bool.and_eq_true] at hc
   obtain ⟨c1, c2, c3⟩ := hc
   simp at hg
   obtain ⟨rfl, rfl⟩ := hg
   have hnd : ids.Nodup := closeI_nodup hi List.nodup_nil
   have hcall := afun_calls X.env X.mixed hf hb hok (tabOk_none c) (K := fun a h' => a = r0 /\ ∀ id, h'.get id = h0.get id) (crunF_ok X.env htau hm hq) (F := deepF ρ h (bif rd then [] else ids) w)
    (Rvs.mapS (mv3_ok NmOk.ins) hx) (deep_in hw rd hnd) (fun id hid => by
     have : ids[id]? = none := by rw [List.getElem?_eq_none_iff]; exact hid
     simp [Ren.ins, this])
   refine Calls.mono hcall ?_
   rintro e w' ⟨v, q, h', ρ', rfl, ⟨rfl, hk⟩, hrv, hrw, hsame⟩
   have hrw := hrw.congr (fun id => (hk id).symm)
   have c1 := Nat.le_of_ble_eq_true c1
   refine ⟨v, ρ.out ρ' _ z, rfl, Ren.le_out hz c1, fun j hj => ?_, mv3_ok (NmOk.out hz c1 hsame) _ _ hrv, ?_⟩
   . exact (Ren.out_old (fun hh => hj ⟨hh.1, by omega⟩)).1
   . exact deep_out hw (hin hi) hz c1 (nodB_spec c2) (newOk_spec c3) hrw hsame
 . obtain ⟨B, hB⟩ := hin hi i hm
   rw [hB, hle i B hB]
 . refine same (fun ids hi => ?_) hg
   have hn : ∀ i ∈ args.foldr nm3 [], ρ i ≠ none := fun i hm => (foldr_named nm3_named hx hm).resolve_left (by simp)
   have h1 := closeI_local hw hu hn hi
   refine ⟨h1, fun i hm => ?_⟩
   obtain ⟨B, hB⟩ := hin h1 i hm
   obtain ⟨b, o, g1, _⟩ := hw.blk i B hB
   rw [AH.get_append, if_neg]
   rintro ⟨p, hp, rfl⟩
   rw [hu p hp] at g1; cases g1
 . unfold deepC at hg
   split at hg
   . cases hg
   rename_i ids hi
   rw [frcL_eq frcN_eq, frcL_eq frcP_eq] at hg
   split at hg
   . cases hg
   unfold backL at hg
   obtain ⟨hc, hg⟩ := cond_some hg
   simp only [Bool.and_eq_true] at hc
   have c1 := Nat.le_of_ble_eq_true hc.1
   simp at hg
   obtain ⟨-, -, rfl⟩ := hg
   intro p hp
   rcases List.mem_append.1 hp with hp | hp
   . have := newH_dom p hp
     exact .inl ⟨this.1, by omega⟩
   . refine .inr (hin hi p.1 ?_)
     have := oldH_dom p hp
     cases rd with
     | true => simp at this
     | false => exact this
end Go.Rq

namespace Go.Rq
open Go
def nrm : AV -> AV
 | .v (.int .u64 (.ofNat n)) => match Nat.decLt n (2 ^ 64) with
  | .isTrue _ => .u (BitVec.ofNat 64 n)
  | .isFalse _ => .v (.int .u64 (.ofNat n))
 | .agg l => .agg (go l)
 | .tup l => .tup (go l)
 | a => a
where
 go : List AV -> List AV
 | [] => []
 | a :: l => nrm a :: go l
mutual
theorem nrm_rv {ρ : Ren} : ∀ {a : AV} {x : Value}, Rv ρ a x -> Rv ρ (nrm a) x := by
 intro a x h
 unfold nrm
 split
 . rename_i n
   split
   . rename_i hn _
     cases h
     have e := Rv.u (ρ := ρ) (BitVec.ofNat 64 n)
     have e2 : uval (BitVec.ofNat 64 n) = .int .u64 (Int.ofNat n) := by
      show Value.int .u64 (((BitVec.ofNat 64 n).toNat : Nat) : Int) = _
      rw [BitVec.toNat_ofNat, Nat.mod_eq_of_lt hn]
      rfl
     rw [e2] at e
     exact e
   . exact h
 . rename_i l
   cases h
   rename_i xs hl hh
   have := nrm_go l xs.toList ⟨by rw [hl, Array.length_toList], fun i a x ha hx => hh i a x ha (by rw [<- Array.getElem?_toList]; exact hx)⟩
   exact .agg (by rw [this.1, Array.length_toList]) fun i a x ha hx => this.2 i a x ha (by rw [Array.getElem?_toList]; exact hx)
 . rename_i l
   cases h
   rename_i xs hl hh
   have := nrm_go l xs.toList ⟨by rw [hl, Array.length_toList], fun i a x ha hx => hh i a x ha (by rw [<- Array.getElem?_toList]; exact hx)⟩
   exact .tup (by rw [this.1, Array.length_toList]) fun i a x ha hx => this.2 i a x ha (by rw [Array.getElem?_toList]; exact hx)
 . exact h
theorem nrm_go {ρ : Ren} : ∀ (l : List AV) (xs : List Value), Rvs ρ l xs -> Rvs ρ (nrm.go l) xs := by
 intro l xs h
 match l with
 | [] => exact h
 | a :: l =>
  obtain ⟨x, ys, rfl, h1, h2⟩ := h.uncons
  exact Rvs.cons (nrm_rv h1) (nrm_go l ys h2)
end
def nrmG (g : List AV -> Option (Bool × AV)) (as : List AV) : Option (Bool × AV) := match g as with
 | some (b, r) => some (b, nrm r)
 | none => none
theorem nrmG_ok {P : Program} {f : FuncId} {g : List AV -> Option (Bool × AV)} (h : CallOk P f g) : CallOk P f (nrmG g) := by
 have key : ∀ {as : List AV} {r : AV}, nrmG g as = some (true, r) -> ∃ r0, g as = some (true, r0) /\ r = nrm r0 := by
  intro as r e
  unfold nrmG at e
  split at e
  . rename_i b r0 h0
    simp only [Option.some.injEq, Prod.mk.injEq] at e
    obtain ⟨rfl, rfl⟩ := e
    exact ⟨r0, h0, rfl⟩
  . cases e
 rcases h with ⟨h1, h2⟩ | h2
 . refine .inl ⟨h1, fun ρ as xs r hg hx w hw => ?_⟩
   obtain ⟨r0, e0, rfl⟩ := key hg
   exact (h2 ρ as xs r0 e0 hx w hw).mono fun e w' hh => by
    obtain ⟨v, e1, e2, e3⟩ := hh
    exact ⟨v, e1, nrm_rv e2, e3⟩
 . refine .inr fun ρ as xs r hg hx w => ?_
   obtain ⟨r0, e0, rfl⟩ := key hg
   obtain ⟨v, e1, e2⟩ := h2 ρ as xs r0 e0 hx w
   exact ⟨v, e1, nrm_rv e2⟩
end Go.Rq

namespace Go.Rq
open Go Go.ChangeShapes Go.WideShapes Go.RowKit
section
variable {H : Type} {enc : TypeId × Value -> H} {P : Program}
theorem trodCons {w : World} {base : Nat} {sp : Nat -> Bool} {held : Bool} {t : TypeId} {ts : List TypeId} {v : Value} {vs : List Value} {d : DataW H} {ds : List (DataW H)} {p p' : List MemPlace}
 (h : DataW.Trod enc P w base sp held t v d p) (hs : DataW.TrodAll enc P w base sp held ts vs ds p') : DataW.TrodAll enc P w base sp held (t :: ts) (v :: vs) (d :: ds) (p ++ p') := ⟨p, p', h, hs, rfl⟩
theorem stays_all (hl : laidOutB P = true) {W W' : World} {sp : Nat -> Bool} (hb : Below W.heap.size W W') :
 ∀ {ts : List TypeId} {vs : List Value} {ds : List (DataW H)} {ps : List MemPlace}, (∀ t ∈ ts, P.readableRec t = true /\ t < P.types.size) ->
 DataW.TrodAll enc P W 0 (fun _ => true) true ts vs ds ps -> (∀ x ∈ ps, x.block < W.heap.size) -> (∀ x ∈ ps, sp x.block = true) -> DataW.TrodAll enc P W' 0 sp true ts vs ds ps
 | [], vs, ds, ps, _, h, _, _ => by
  obtain ⟨rfl, rfl, rfl⟩ := trodAll_nil h
  exact trodAll_mk0
 | t :: ts, vs, ds, ps, hr, h, hlt, hs => by
  obtain ⟨v, vs', d, ds', p, q, rfl, rfl, rfl, h1, h2⟩ := trodAll_cons h
  obtain ⟨r1, r2⟩ := hr t (by simp)
  exact trodCons (WideElems.Trod_stays hl r1 r2 h1 (fun x hx => hb.same (hlt x (by simp [hx]))) (fun x hx => hs x (by simp [hx])))
   (stays_all hl hb (fun u hu => hr u (by simp [hu])) h2 (fun x hx => hlt x (by simp [hx])) (fun x hx => hs x (by simp [hx])))
theorem trodAll_length {W : World} {base : Nat} {sp : Nat -> Bool} {held : Bool} : ∀ {ts : List TypeId} {vs : List Value} {ds : List (DataW H)} {ps : List MemPlace},
 DataW.TrodAll enc P W base sp held ts vs ds ps -> ds.length = ts.length
 | [], vs, ds, ps, h => by obtain ⟨_, rfl, _⟩ := trodAll_nil h; rfl
 | t :: ts, vs, ds, ps, h => by
  obtain ⟨v, vs', d, ds', p, q, rfl, rfl, rfl, _, h2⟩ := trodAll_cons h
  simp [trodAll_length h2]
structure LawSpec (s : ChangeSpec) (k : Nat) : Prop where
 vars : s.vars = []
 fn : ∀ (H : Type) (ds : List (DataW H)), ds.length = k -> s.fn H ds = { results := [.lit (.bool true)], args := ds }
theorem law_post {f : Func} {s : ChangeSpec} {k : Nat} (hs : LawSpec s k) (hk : f.params.size = k) {tb : TypeId} (hrt : f.resultTypes = #[tb]) (hb : P.underlying tb = some .bool)
 (hl : laidOutB P = true) (hr : ∀ t ∈ f.params.toList, P.readableRec t = true /\ t < P.types.size) {apart fresh handsOn again : Bool}
 {W W' : World} {args : Array Value} {ds gs : List (DataW H)} {before : List MemPlace} (hW : DataW.Whole enc P f.params.toList s.vars apart W args.toList ds gs before)
 (hbl : Below W.heap.size W W') : s.post enc P f apart fresh handsOn again W args (.bool true) W' := by
 have hlt := hW.lt
 have hW' := hW
 obtain ⟨p, q, hA, hV, rfl, hfz, hnd⟩ := hW
 rw [hs.vars] at hV
 obtain ⟨rfl, rfl⟩ := trodVars_none hV
 have hlen : ds.length = k := by rw [trodAll_length hA, <- hk]; simp
 have hfn : s.fn H (ds ++ []) = { results := [.lit (.bool true)], args := ds } := by rw [List.append_nil]; exact hs.fn H ds hlen
 simp only [List.append_nil] at hlt hfz hnd
 have hres : ∀ (b : Nat) (sp : Nat -> Bool) (hd : Bool), DataW.TrodAll enc P W' b sp hd f.resultTypes.toList ((Value.bool true).resultList f.resultTypes.size) (s.fn H (ds ++ [])).results [] := by
  intro b sp hd
  rw [hfn, hrt]
  exact trodAll_mk1 (shut_bool hb true)
 have hargs : ∀ sp : Nat -> Bool, (∀ x ∈ p, sp x.block = true) -> DataW.TrodAll enc P W' 0 sp true f.params.toList args.toList (s.fn H (ds ++ [])).args p := by
  intro sp hsp
  rw [hfn]
  exact stays_all hl hbl hr hA hlt hsp
 have hvars : ∀ sp : Nat -> Bool, DataW.TrodVars enc P W' sp s.vars (s.fn H (ds ++ [])).vars [] := by
  intro sp
  rw [hfn, hs.vars]
  rfl
 refine ⟨ds, [], p ++ [], [], p, [], hW', hres _ _ _, hargs _ (fun x hx => by simpa using hlt x hx), hvars _, hbl.frame _, fun _ => ?_⟩
 refine ⟨?_, _, _, ([] ++ p) ++ [], ⟨[] ++ p, [], trodAll_append (hargs _ (fun _ _ => rfl)) (hres _ _ _), hvars _, rfl, ?_, ?_⟩, ?_⟩
 . intro j t r hj hv
   rw [hrt] at hj hv
   cases j with
   | zero =>
    simp [Value.resultList] at hj hv
    subst hj; subst hv
    exact okWide_bool_mk hb true
   | succ j => simp at hj
 . intro b off hp
   have hp' : MemPlace.cell b off ∈ p := by simpa using hp
   have : W'.frozen? ⟨b, off, none⟩ = W.frozen? ⟨b, off, none⟩ := hbl.frozen (hlt _ hp')
   rw [this]
   exact hfz b off (by simpa using hp)
 . intro ha
   simpa using hnd ha
 . intro x hx _
   simpa using hx
theorem law_handed {C : Checked} {os : Os} {f : FuncId} {fn : Func} {s : ChangeSpec} {k : Nat} {conds : List PathCond} {apart fresh handsOn again : Bool} {a : Assume}
 (own : ownKnob C.prog.godebug = none) (started : os.Started) (noInit : C.prog.inits.idxOf? f = none) (hfn : C.prog.funcs[f]? = some fn)
 (witness : ∃ (w : World) (tape : Tape) (i : Input), w.os = os /\ (w.forCall tape i).Shaped C.prog /\ i.vars = [] /\ Input.okWide C.prog (w.forCall tape i) .any w.heap.size f i /\
  s.pre6 enc C.prog fn conds apart (w.forCall tape i).memory i.args /\ a.holds C.prog (lone (Frame.enter C.prog f i.args .normal) [] (w.forCall tape i)))
 (hs : LawSpec s k) (hk : fn.params.size = k) {tb : TypeId} (hrt : fn.resultTypes = #[tb]) (hb : C.prog.underlying tb = some .bool)
 (hl : laidOutB C.prog = true) (hr : ∀ t ∈ fn.params.toList, C.prog.readableRec t = true /\ t < C.prog.types.size)
 (hcall : ∀ (W : World) (base : Nat) (args : Array Value) (ds : List (DataW H)) (p : List MemPlace),
  (∀ (j : Nat) t v, fn.params[j]? = some t -> args[j]? = some v -> Value.okWide C.prog W .any base t v) ->
  DataW.TrodAll enc C.prog W 0 (fun _ => true) true fn.params.toList args.toList ds p ->
  Calls C.prog f args W fun e W' => e = .returned (.bool true) /\ Below W.heap.size W W') :
 ReturnsInHanded a C os f .any (s.pre6 enc C.prog fn conds apart) (s.post enc C.prog fn apart fresh handsOn again) := by
 refine returnsInHanded_of_change own started noInit hfn witness ?_
 intro W base args ds gs before hval hW _ _
 have hW' := hW
 obtain ⟨p, q, hA, _⟩ := hW
 refine (hcall W base args ds p hval hA).mono fun e W' ⟨he, hbl⟩ => ?_
 exact ⟨_, he, law_post hs hk hrt hb hl hr hW' hbl⟩
theorem law_handed_and {C : Checked} {os : Os} {f : FuncId} {fn : Func} {s : ChangeSpec} {k : Nat} {conds : List PathCond} {apart fresh handsOn again : Bool} {a : Assume} {X : World -> Array Value -> Prop}
 (hX : ∀ (w w' : World) (args : Array Value), w.heap = w'.heap -> X w args -> X w' args)
 (own : ownKnob C.prog.godebug = none) (started : os.Started) (noInit : C.prog.inits.idxOf? f = none) (hfn : C.prog.funcs[f]? = some fn)
 (witness : ∃ (w : World) (tape : Tape) (i : Input), w.os = os /\ (w.forCall tape i).Shaped C.prog /\ i.vars = [] /\ Input.okWide C.prog (w.forCall tape i) .any w.heap.size f i /\
  ((s.pre enc C.prog fn conds apart (w.forCall tape i).memory i.args /\ X (w.forCall tape i).memory i.args) /\ sizedMet enc C.prog fn (OpenSpec.ofChange s) apart (w.forCall tape i).memory i.args) /\ a.holds C.prog (lone (Frame.enter C.prog f i.args .normal) [] (w.forCall tape i)))
 (hs : LawSpec s k) (hk : fn.params.size = k) {tb : TypeId} (hrt : fn.resultTypes = #[tb]) (hb : C.prog.underlying tb = some .bool)
 (hl : laidOutB C.prog = true) (hr : ∀ t ∈ fn.params.toList, C.prog.readableRec t = true /\ t < C.prog.types.size)
 (hcall : ∀ (W : World) (base : Nat) (args : Array Value) (ds : List (DataW H)) (p : List MemPlace),
  (∀ (j : Nat) t v, fn.params[j]? = some t -> args[j]? = some v -> Value.okWide C.prog W .any base t v) ->
  DataW.TrodAll enc C.prog W 0 (fun _ => true) true fn.params.toList args.toList ds p -> X W args ->
  Calls C.prog f args W fun e W' => e = .returned (.bool true) /\ Below W.heap.size W W') :
 ReturnsInHanded a C os f .any (fun w args => (s.pre enc C.prog fn conds apart w args /\ X w args) /\ sizedMet enc C.prog fn (OpenSpec.ofChange s) apart w args) (s.post enc C.prog fn apart fresh handsOn again) := by
 refine returnsInHanded_of_change_and hX own started noInit hfn witness ?_
 intro W base args ds gs before hval hW _ _ hx _
 have hW' := hW
 obtain ⟨p, q, hA, _⟩ := hW
 refine (hcall W base args ds p hval hA hx).mono fun e W' ⟨he, hbl⟩ => ?_
 exact ⟨_, he, law_post hs hk hrt hb hl hr hW' hbl⟩
end
theorem call_pure {P : Program} {f : FuncId} {g : List AV -> Option (Bool × AV)} (h : PureOk P f g) {as : List AV} {args : Array Value} {W : World} {b : Bool} {r : AV} (hg : g as = some (true, r)) (hr : scal r = some (.bool b)) (hx : ∀ ρ, Rvs ρ as args.toList) (hgw : GW W) :
 Calls P f args W fun e W' => e = .returned (.bool b) /\ Below W.heap.size W W' := by
 have := h Ren.empty as args.toList r hg (hx _) W hgw
 have e : args.toList.toArray = args := by simp
 rw [e] at this
 refine this.mono ?_
 rintro e w' ⟨v, rfl, hv, hb⟩
 rw [hv.scal_eq hr]
 exact ⟨rfl, hb⟩
end Go.Rq

namespace Go.Rq
open Go Go.WideShapes
section
variable {P : Program} {w : World} {r : Reach} {base : Nat} {t u : TypeId} {v : Value}
theorem cell_u64 (hu : P.underlying u = some (.int .u64)) (h : Cell.okWide P w r base u v) : ∃ x : BitVec 64, v = uval x := by
 simp only [Cell.okWide, hu] at h
 cases v with
 | int k n =>
  simp only [Cell.ok, hu] at h
  obtain ⟨rfl, h1, h2⟩ := h
  have h1 : (0 : Int) <= n := h1
  have h2 : n <= 18446744073709551615 := h2
  refine ⟨BitVec.ofNat 64 n.toNat, ?_⟩
  unfold uval
  congr 1
  rw [BitVec.toNat_ofNat, Nat.mod_eq_of_lt (by omega)]
  show n = ((n.toNat : Nat) : Int)
  omega
 | _ => simp [Cell.ok, hu] at h
theorem open_cells {ts : List TypeId} (ha : ∃ cs, v = .agg cs /\ cs.size = P.cellsOf t /\ Row.okWide P w r base t cs) (hc : P.cellTypes P.depth t = some ts) (hn : P.cellsOf t = ts.length) :
 ∃ l : List Value, v = .agg l.toArray /\ l.length = ts.length /\ ∀ (i : Nat) (u : TypeId) (x : Value), ts[i]? = some u -> l[i]? = some x -> Cell.okWide P w r base u x := by
 obtain ⟨cs, rfl, h1, ts', h2, -, h4⟩ := ha
 rw [hc] at h2
 simp at h2
 subst h2
 refine ⟨cs.toList, by simp, by simp [h1, hn], fun i u x hu hx => ?_⟩
 obtain ⟨u', h5, h6⟩ := h4 i x (by simpa using hx)
 have hi : i < ts.length := (List.getElem?_eq_some_iff.1 hu).1
 rw [Nat.mod_eq_of_lt hi, hu] at h5
 simp at h5
 rw [h5]
 exact h6
theorem okWide_arr {e : TypeId} {n : Nat} (ht : P.underlying t = some (.array n e)) (h : Value.okWide P w r base t v) : ∃ cs, v = .agg cs /\ cs.size = P.cellsOf t /\ Row.okWide P w r base t cs := by
 simp only [Value.okWide, ht] at h
 exact h
theorem open_six (hu : P.underlying u = some (.int .u64)) {l : List Value} (hl : l.length = 6) (h : ∀ (i : Nat) (x : Value), i < 6 -> l[i]? = some x -> Cell.okWide P w r base u x) : ∃ x : W6, l = c6.val x := by
 match l, hl with
 | [a0, a1, a2, a3, a4, a5], _ =>
  obtain ⟨x0, rfl⟩ := cell_u64 hu (h 0 a0 (by decide) rfl)
  obtain ⟨x1, rfl⟩ := cell_u64 hu (h 1 a1 (by decide) rfl)
  obtain ⟨x2, rfl⟩ := cell_u64 hu (h 2 a2 (by decide) rfl)
  obtain ⟨x3, rfl⟩ := cell_u64 hu (h 3 a3 (by decide) rfl)
  obtain ⟨x4, rfl⟩ := cell_u64 hu (h 4 a4 (by decide) rfl)
  obtain ⟨x5, rfl⟩ := cell_u64 hu (h 5 a5 (by decide) rfl)
  exact ⟨⟨x0, x1, x2, x3, x4, x5⟩, rfl⟩
theorem open_num (hu : P.underlying u = some (.int .u64)) (ha : ∃ cs, v = .agg cs /\ cs.size = P.cellsOf t /\ Row.okWide P w r base t cs) (hc : P.cellTypes P.depth t = some [u, u, u, u, u, u]) (hn : P.cellsOf t = 6) : ∃ x : W6, v = c6.agg.val x := by
 obtain ⟨l, rfl, h1, h2⟩ := open_cells ha hc hn
 obtain ⟨x, rfl⟩ := open_six hu h1 (fun i x hi hx => h2 i u x (by
  match i, hi with
  | 0, _ => rfl
  | 1, _ => rfl
  | 2, _ => rfl
  | 3, _ => rfl
  | 4, _ => rfl
  | 5, _ => rfl) hx)
 exact ⟨x, rfl⟩
end
end Go.Rq

namespace Go.Rq
open Go Go.RowKit
end Go.Rq
