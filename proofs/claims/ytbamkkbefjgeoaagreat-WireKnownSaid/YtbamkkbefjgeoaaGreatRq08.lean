/- Whole functions, gone through by the abstract machine. -/
import Derived.Test.YtbamkkbefjgeoaaGreatRq07
namespace Go.Rq
open Go

/-- Whether a value names blocks below a number alone (one level deep). -/
def AV.lt0 (n : Nat) : AV → Bool
  | .any => true
  | .v _ => true
  | .lit _ => true
  | .u _ => true
  | .bit _ => true
  | .ptr id _ => Nat.blt id n
  | .slc id _ _ _ => Nat.blt id n
  | .own id _ _ _ => Nat.blt id n
  | .mp id => Nat.blt id n
  | .mk => true
  | .fn _ [] [] => true
  | _ => false

def allLt0 (n : Nat) : List AV → Bool
  | [] => true
  | a :: t => a.lt0 n && allLt0 n t

def AV.lt (n : Nat) : AV → Bool
  | .agg cs => allLt0 n cs
  | .tup cs => allLt0 n cs
  | .fn _ as bs => allLt0 n as && allLt0 n bs
  | .ifc _ a => a.lt0 n
  | a => a.lt0 n

/-- Slots that are not kept are forgotten. -/
def trimTm (keep : List Tmp) (n : Nat) : List AV → Nat → Option (List AV)
  | [], _ => some []
  | a :: t, i => match trimTm keep n t (i + 1) with
    | none => none
    | some l => bif memb i keep then (bif a.lt n then some (a :: l) else none) else some (.any :: l)

def allLt (n : Nat) : List AV → Bool
  | [] => true
  | a :: t => a.lt n && allLt n t

/-- The blocks that are kept, in their order. -/
def trimH (n : Nat) (h : AH) : List Nat → Option AH
  | [] => some []
  | i :: t => match AH.get h i with
    | none => none
    | some B => match trimH n h t with
      | none => none
      | some l => bif allLt n B.cs then some ((i, some B) :: l) else none

/-- A state of which less is known: some slots, some blocks; names below n alone. -/
def trim (keep : List Tmp) (ids : List Nat) (n : Nat) (x : XS) : Option XS :=
  match trimTm keep n x.s.tm 0, trimH n x.s.h ids with
  | some tm, some h => some ⟨⟨tm, h, true⟩, n⟩
  | _, _ => none

/-- A block of code that is told: what is known ahead of it (which slots and blocks, the state), and what comes of it. -/
structure BEnt where
  keep : List Tmp
  ids : List Nat
  n : Nat
  pre : XS
  post : Tree (AExit × XS)

abbrev BTab := Nat → Option BEnt

theorem Rv.lt0 {ρ : Ren} {n : Nat} {a : AV} {x : Value} (h : Rv ρ a x) (e : a.lt0 n = true) : Rv (ρ.cut n) a x := by
  cases h with
  | any x => exact .any x
  | v x => exact .v x
  | lit b => exact .lit b
  | u x => exact .u x
  | bit b => exact .bit b
  | @ptr id off b hb =>
    have hlt : id < n := Nat.le_of_ble_eq_true e
    exact .ptr (by rw [Ren.cut_lt hlt]; exact hb)
  | @slc id off len cap b hb =>
    have hlt : id < n := Nat.le_of_ble_eq_true e
    exact .slc (by rw [Ren.cut_lt hlt]; exact hb)
  | @own id es k len b cap hb h0 hc hl hm =>
    have hlt : id < n := Nat.le_of_ble_eq_true e
    exact .own (by rw [Ren.cut_lt hlt]; exact hb) h0 hc hl hm
  | @ownE id es k b j cap hb hk =>
    have hlt : id < n := Nat.le_of_ble_eq_true e
    exact .ownE (by rw [Ren.cut_lt hlt]; exact hb) hk
  | agg _ _ => simp [AV.lt0] at e
  | tup _ _ => simp [AV.lt0] at e
  | @fn f as bs xs ys hl h kl k =>
    cases as with
    | cons => simp [AV.lt0] at e
    | nil =>
      cases bs with
      | cons => simp [AV.lt0] at e
      | nil => exact .fn hl (fun i a x ha => by simp at ha) kl (fun i a x ha => by simp at ha)
  | ifc _ => simp [AV.lt0] at e
  | @mp id b hb =>
    have hlt : id < n := Nat.le_of_ble_eq_true e
    exact .mp (by rw [Ren.cut_lt hlt]; exact hb)

theorem Rvs.lt0 {ρ : Ren} {n : Nat} : ∀ {as : List AV} {xs : List Value}, Rvs ρ as xs → allLt0 n as = true → Rvs (ρ.cut n) as xs
  | [], xs, h, _ => by rw [h.unnil]; exact .nil
  | a :: t, xs, h, e => by
    obtain ⟨x, ys, rfl, hx, ht⟩ := h.uncons
    simp only [allLt0, Bool.and_eq_true] at e
    exact .cons (hx.lt0 e.1) (Rvs.lt0 ht e.2)

theorem Rv.lt {ρ : Ren} {n : Nat} {a : AV} {x : Value} (h : Rv ρ a x) (e : a.lt n = true) : Rv (ρ.cut n) a x := by
  cases a with
  | agg cs => obtain ⟨xs, rfl, hx⟩ := h.agg_iff; simpa using Rv.agg_mk (Rvs.lt0 hx e)
  | tup cs => obtain ⟨xs, rfl, hx⟩ := h.tup_iff; simpa using Rv.tup_mk (Rvs.lt0 hx e)
  | fn f as bs =>
    obtain ⟨xs, ys, rfl, hx, hy⟩ := h.fn_iff
    simp only [AV.lt, Bool.and_eq_true] at e
    simpa using Rv.fn_mk (f := f) (Rvs.lt0 hx e.1) (Rvs.lt0 hy e.2)
  | ifc t a => cases h with | ifc h => exact .ifc (h.lt0 e)
  | _ => exact h.lt0 e

theorem allLt_spec {n : Nat} : ∀ {l : List AV}, allLt n l = true → ∀ a ∈ l, a.lt n = true
  | [], _, a, h => by simp at h
  | b :: t, e, a, h => by
    simp only [allLt, Bool.and_eq_true] at e
    rcases List.mem_cons.1 h with rfl | h
    · exact e.1
    · exact allLt_spec e.2 a h

theorem trimTm_spec {ρ : Ren} {keep : List Tmp} {n : Nat} : ∀ {as : List AV} {xs : List Value} {i : Nat} {l : List AV}, Rvs ρ as xs → trimTm keep n as i = some l → Rvs (ρ.cut n) l xs
  | [], xs, i, l, h, e => by simp [trimTm] at e; subst e; rw [h.unnil]; exact .nil
  | a :: t, xs, i, l, h, e => by
    obtain ⟨x, ys, rfl, hx, ht⟩ := h.uncons
    simp only [trimTm] at e
    split at e
    · cases e
    · rename_i m hm
      have := trimTm_spec ht hm
      cases hk : memb i keep with
      | false => rw [hk] at e; simp at e; subst e; exact .cons (.any _) this
      | true =>
        rw [hk] at e
        cases hl : a.lt n with
        | false => rw [hl] at e; simp at e
        | true => rw [hl] at e; simp at e; subst e; exact .cons (hx.lt hl) this

theorem trimH_get {n : Nat} {h : AH} : ∀ {ids : List Nat} {l : AH}, trimH n h ids = some l → ∀ id B, l.get id = some B → h.get id = some B ∧ allLt n B.cs = true
  | [], l, e, id, B, g => by simp [trimH] at e; subst e; simp [AH.get] at g
  | i :: t, l, e, id, B, g => by
    simp only [trimH] at e
    split at e
    · cases e
    · rename_i C hC
      split at e
      · cases e
      · rename_i m hm
        cases hl : allLt n C.cs with
        | false => rw [hl] at e; simp at e
        | true =>
          rw [hl] at e; simp at e; subst e
          rw [AH.get_cons] at g
          split at g
          · rename_i hi; subst hi; simp at g; subst g; exact ⟨hC, hl⟩
          · exact trimH_get hm id B g

/-- What fits a state fits one of which less is known. -/
theorem trim_sim {F : Fr} {ds : List Deferred} {ρ : Ren} {keep : List Tmp} {ids : List Nat} {n m : Nat} {x y : XS} {a : Act} {w : World} (hs : Sim F ds ρ x.s a w) (ht : trim keep ids n x = some y) (hid : ∀ i ∈ ids, i < n) (hmn : m ≤ n) :
    ∃ ρ', Sim F ds ρ' y.s a w ∧ m ≤ y.n ∧ (∀ id, y.n ≤ id → ρ' id = none) ∧ (∀ id, id < m → Ren.eqAt ρ' ρ id) := by
  unfold trim at ht
  split at ht
  · rename_i tm h htm hh
    simp at ht; subst ht
    refine ⟨ρ.cut n, ⟨trimTm_spec hs.tm htm, ?_, hs.ds⟩, hmn, fun id hge => Ren.cut_ge hge, fun id hlt => ⟨Ren.cut_lt (by omega), fun _ _ => ⟨rfl, rfl⟩⟩⟩
    have key : ∀ id B, h.get id = some B → id ∈ ids := by
      intro id B hB
      clear htm
      revert h
      induction ids with
      | nil => intro h hh hB; simp [trimH] at hh; subst hh; simp [AH.get] at hB
      | cons i t ih =>
        intro h hh hB
        simp only [trimH] at hh
        split at hh
        · cases hh
        · split at hh
          · cases hh
          · rename_i C _ _ l hl
            cases hlt : allLt n C.cs with
            | false => rw [hlt] at hh; simp at hh
            | true =>
              rw [hlt] at hh; simp at hh; subst hh
              rw [AH.get_cons] at hB
              split at hB
              · rename_i hi; subst hi; simp
              · exact List.mem_cons_of_mem _ (ih (fun j hj => hid j (by simp [hj])) l hl hB)
    refine ⟨fun id B hB => ?_, fun id id' B B' b hB hB' hw hb hb' => ?_, hs.h.fr, hs.h.os, hs.h.tape, hs.h.out, hs.h.gc⟩
    · obtain ⟨hg, hl⟩ := trimH_get hh id B hB
      obtain ⟨b, o, h1, h2, h3, h6⟩ := hs.h.blk id B hg
      have hlt := hid id (key id B hB)
      exact ⟨b, _, by rw [Ren.cut_lt hlt]; exact h1, h2, h3.keep rfl (fun hh => hh) rfl rfl (fun a' ha x' hx => hx.lt (allLt_spec hl a' ha)), h6⟩
    · have h1 := (trimH_get hh id B hB).1
      have h2 := (trimH_get hh id' B' hB').1
      rw [Ren.cut_lt (hid id (key id B hB))] at hb
      rw [Ren.cut_lt (hid id' (key id' B' hB'))] at hb'
      exact hs.h.inj id id' B B' b h1 h2 hw hb hb'
  · cases ht

def allBlt (n : Nat) : List Nat → Bool
  | [] => true
  | i :: t => Nat.blt i n && allBlt n t

theorem allBlt_spec {n : Nat} : ∀ {l : List Nat}, allBlt n l = true → ∀ i ∈ l, i < n
  | [], _, i, h => by simp at h
  | j :: t, e, i, h => by
    simp only [allBlt, Bool.and_eq_true] at e
    rcases List.mem_cons.1 h with rfl | h
    · exact Nat.le_of_ble_eq_true e.1
    · exact allBlt_spec e.2 i h

/-- A loop, round by round: at most so many. -/
def iter (f : XS → Tree (AExit × XS)) : Nat → XS → Tree (AExit × XS)
  | 0, _ => .fail
  | k + 1, x => (f x).bind fun (e, y) => match e with
    | .normal => iter f k y
    | e => .leaf (e, y)

def boolOf : AV → Option Bool
  | .lit b => some b
  | .v (.bool b) => some b
  | _ => none

/-- An assignment under a bool that may be a variable: of both values one. -/
def condA (E : Env) (sym : List Tmp) (c : Operand) (a b : Code) (x : XS) : Option (AV × AV × Nat) :=
  match c with
  | .tmp ct => match inL ct E.mrg && x.s.ok with
    | false => none
    | true => match a, b with
      | .region _ ops false, .skip => match ops.toList with
        | [o] => match o.op, o.dst, o.guard with
          | .assign y, some d, none => match memb d sym with
            | true => none
            | false => match look x.s.tm c with
              | .v (.bool g) => match choose2 g (look x.s.tm y) (x.s.tm.getD d .any) with
                | some r => some (look x.s.tm y, r, d)
                | none => none
              | _ => none
          | _, _, _ => none
        | _ => none
      | _, _ => none
  | _ => none

theorem condA_spec {E : Env} {sym : List Tmp} {c : Operand} {a b : Code} {x : XS} {u r : AV} {d : Nat} (h : condA E sym c a b x = some (u, r, d)) :
    ∃ id ops o y g, a = .region id ops false ∧ b = .skip ∧ ops.toList = [o] ∧ o.op = .assign y ∧ o.dst = some d ∧ o.guard = none ∧ memb d sym = false ∧ look x.s.tm c = .v (.bool g) ∧ u = look x.s.tm y ∧
      choose2 g u (x.s.tm.getD d .any) = some r ∧ x.s.ok = true := by
  unfold condA at h
  split at h
  · split at h
    · cases h
    · rename_i hok
      simp only [Bool.and_eq_true] at hok
      split at h
      · rename_i id ops
        split at h
        · rename_i o ho
          split at h
          · rename_i y d' hop hd hg
            split at h
            · cases h
            · rename_i hm
              split at h
              · rename_i g hc
                split at h
                · rename_i r' hr
                  simp at h
                  obtain ⟨rfl, rfl, rfl⟩ := h
                  exact ⟨id, ops, o, y, g, rfl, rfl, ho, hop, hd, hg, hm, hc, rfl, hr, hok.2⟩
                · cases h
              · cases h
          · cases h
        · cases h
      · cases h
  · cases h

theorem tauOk_assign (E : Env) (i : Nat) (y : Operand) (ev : Operand → AV) : tauOk E i (.assign y) ev = true := by
  unfold tauOk
  split <;> rfl

theorem upsOk_assign (E : Env) (y : Operand) (u : AH) : upsOk E (.assign y) u = true := by
  unfold upsOk
  split <;> rfl

/-- The operation that a slot is of. -/
def writer (p : Tmp) : List Oper → Nat → Option (Nat × Op)
  | [], _ => none
  | o :: t, i => match o.dst with
    | some d => bif Nat.beq d p then some (i, o.op) else writer p t (i + 1)
    | none => writer p t (i + 1)

def blkOf : AV → Option Nat
  | .ptr id _ => some id
  | .slc id _ _ _ => some id
  | .own id _ _ _ => some id
  | _ => none

/-- The block that a pointer comes from, as it seems. -/
def orgA (kk : Nat) (ops : List Oper) (base : Nat) (lk : Operand → AV) : Nat → Operand → Option Nat
  | 0, _ => none
  | k + 1, x => match x with
    | .tmp p => match writer p ops 0 with
      | none => blkOf (lk x)
      | some (i, op) => match op with
        | .alloc _ => some (base + kk * i)
        | .box _ _ => some (base + kk * i)
        | .fieldAddr _ y _ => orgA kk ops base lk k y
        | .indexAddr _ y _ => orgA kk ops base lk k y
        | .slice _ y _ _ _ => orgA kk ops base lk k y
        | .sliceToArrayPointer _ y => orgA kk ops base lk k y
        | .move y => orgA kk ops base lk k y
        | .assign y => orgA kk ops base lk k y
        | .nilCheck y => orgA kk ops base lk k y
        | _ => none
    | _ => none

/-- What an operand holds, as it seems: through moves, addresses of fields and loads of the region. -/
def evR (P : Program) (E : Env) (ops : List Oper) (base : Nat) (lk : Operand → AV) (h : AH) : Nat → Operand → AV
  | 0, x => lk x
  | k + 1, x => match x with
    | .tmp p => match writer p ops 0 with
      | none => lk x
      | some (i, op) => match op with
        | .move y => evR P E ops base lk h k y
        | .assign y => evR P E ops base lk h k y
        | .nilCheck y => evR P E ops base lk h k y
        | .fieldAddr t y j => match effOp P E (evR P E ops base lk h k) h (base + E.kk * i) (.fieldAddr t y j) with
          | some (_, r, _) => r
          | none => lk x
        | .load t y => match effOp P E (evR P E ops base lk h k) h (base + E.kk * i) (.load t y) with
          | some (_, r, _) => r
          | none => lk x
        | _ => lk x
    | _ => lk x

/-- The row that an append is told to write: what its first argument owns; to an empty one: its own new name. -/
def orgO (id : Nat) : AV → Option Nat
  | .own i _ _ _ => some i
  | .v (.slice none _ _) => some id
  | _ => none

/-- The first that is told. -/
def firstO (f : Operand → Option Nat) : List Operand → Option Nat
  | [] => none
  | x :: t => match f x with
    | some i => some i
    | none => firstO f t
/-- What operands hold once some operations of the region were gone through in the text's order. -/
def lkO (lk : Operand → AV) : List (Tmp × AV) → Operand → AV
  | [], x => lk x
  | (d, v) :: t, x => match x with
    | .tmp p => bif Nat.beq d p then v else lkO lk t x
    | _ => lkO lk t x
def putO (d : Option Tmp) (r : AV) (ov : List (Tmp × AV)) : List (Tmp × AV) := match d with
  | some d => (d, r) :: ov
  | none => ov
def ovT (P : Program) (E : Env) (base : Nat) (lk : Operand → AV) : List Oper → Nat → List (Tmp × AV) → AH → List (Tmp × AV)
  | [], _, ov, _ => ov
  | o :: t, i, ov, h => match effOp P E (lkO lk ov) h (base + E.kk * i) o.op with
    | some (_, r, ups) => ovT P E base lk t (i + 1) (putO o.dst r ov) (ups ++ h)
    | none => ovT P E base lk t (i + 1) ov h
def slOf : AV → Option Nat
  | .slc i _ _ _ => some i
  | .own i _ _ _ => some i
  | _ => none
def tauOf (P : Program) (E : Env) (ops : List Oper) (base : Nat) (lk : Operand → AV) (h : AH) : List Oper → Nat → List (Option Nat)
  | [], _ => []
  | o :: t, i => (match o.op with
    | .load _ a => orgA E.kk (ops.take i) base lk 8 a
    | .store _ a _ => orgA E.kk (ops.take i) base lk 8 a
    | op => match appArg op with
      | some s => orgO (base + E.kk * i) (evR P E (ops.take i) base lk h 8 s)
      | none => match strArg E op with
        | some a => slOf (lkO lk (ovT P E base lk (ops.take i) 0 [] h) a)
        | none => match rdArgs E op with
          | some as => firstO (orgA E.kk (ops.take i) base lk 8) as
          | none => none) :: tauOf P E ops base lk h t (i + 1)

def Env.withTau (E : Env) (l : List (Option Nat)) : Env := ⟨E.pure, E.heap, E.cellEq, E.wide, E.late, E.strT, E.mrg, E.lay, some l, E.act, E.fresh, E.ro, E.kk⟩
theorem withTau_ok {P : Program} {E : Env} (h : EnvOk P E) (l : List (Option Nat)) : EnvOk P (E.withTau l) := ⟨h.eq, h.pure, h.heap, h.lay, h.act, h.kk⟩

def exec (P : Program) (E : Env) (sym : List Tmp) (tab : BTab) (lf : Nat) : Code → XS → Tree (AExit × XS)
  | .skip, x => .leaf (.normal, x)
  | .label _, x => .leaf (.normal, x)
  | .ret, x => .leaf (.ret, x)
  | .exit id, x => .leaf (.exit id, x)
  | .region _ ops d, x => bif E.late && (d && !chk E ops) then
      (bif chk (E.withTau (tauOf P E ops.toList x.n (look x.s.tm) x.s.h ops.toList 0)) ops then
        (runT P (E.withTau (tauOf P E ops.toList x.n (look x.s.tm) x.s.h ops.toList 0)) sym x.n ops (rangeL 0 ops.size []) x.s).bind fun s => .leaf (.normal, ⟨s, x.n + E.kk * ops.size⟩)
      else .fail)
    else (runT P E sym x.n ops (rangeL 0 ops.size []) x.s).bind fun s => .leaf (.normal, ⟨s, x.n + E.kk * ops.size⟩)
  | .seq a b, x => (exec P E sym tab lf a x).bind fun (e, y) => match e with
    | .normal => exec P E sym tab lf b y
    | e => .leaf (e, y)
  | .cond c a b, x => match condA E sym c a b x with
    | some (_, r, d) => .leaf (.normal, ⟨⟨x.s.tm.set d r, x.s.h, true⟩, x.n + E.kk⟩)
    | none => match boolOf (look x.s.tm c) with
      | some true => exec P E sym tab lf a x
      | some false => exec P E sym tab lf b x
      | none => .fail
  | .block id c, x => match tab id with
    | some b => match trim b.keep b.ids b.n x with
      | some y => .same y b.pre (.need (allBlt b.n b.ids) b.post)
      | none => .fail
    | none => (exec P E sym tab lf c x).bind fun (e, y) => match e with
      | .exit i => bif Nat.beq i id then .leaf (.normal, y) else .leaf (e, y)
      | e => .leaf (e, y)
  | .loop c, x => iter (exec P E sym tab lf c) lf x
  | _, _ => .fail

/-- What is told of blocks of the code is so. -/
def TabOk (P : Program) (m : Nat) (tab : BTab) : Code → Prop
  | .block id c => match tab id with
    | some b => m ≤ b.n ∧ ∀ F ds K, b.post.holds (fun r => K r.1 r.2) → Tri P F ds m (.block id c) b.pre K
    | none => TabOk P m tab c
  | .seq a b => TabOk P m tab a ∧ TabOk P m tab b
  | .cond _ a b => TabOk P m tab a ∧ TabOk P m tab b
  | .loop c => TabOk P m tab c
  | _ => True

/-- All regions that draw an order come to the same in whatever order. -/
def codeOk (E : Env) : Code → Bool
  | .region _ ops d => E.late || (!d || chk E ops)
  | .seq a b => codeOk E a && codeOk E b
  | .cond _ a b => codeOk E a && codeOk E b
  | .block _ c => codeOk E c
  | .loop c => codeOk E c
  | _ => true

theorem Tri.mono {P : Program} {F : Fr} {ds : List Deferred} {m : Nat} {c : Code} {x : XS} {K L : AExit → XS → Prop} (h : ∀ e y, K e y → L e y) (t : Tri P F ds m c x K) : Tri P F ds m c x L :=
  fun ρ a w hs hm hf => wp_mono (t ρ a w hs hm hf) fun _ _ _ ⟨e', y, ρ', hk, r⟩ => ⟨e', y, ρ', h _ _ hk, r⟩

theorem Tri.seq {P : Program} {F : Fr} {ds : List Deferred} {m : Nat} {a b : Code} {x : XS} {K L : AExit → XS → Prop} (h : Tri P F ds m a x K)
    (hb : ∀ y, K .normal y → Tri P F ds m b y L) (ho : ∀ e y, e ≠ .normal → K e y → L e y) : Tri P F ds m (.seq a b) x L := by
  intro ρ ac w hs hm hf
  refine wp_seq (wp_mono (h ρ ac w hs hm hf) ?_)
  rintro e a' w' ⟨e', y, ρ', hk, he, hs', hm', hf', hp⟩
  cases e' with
  | normal =>
    cases e <;> simp only [AExit.is] at he
    refine wp_mono (hb y hk ρ' a' w' hs' hm' hf') ?_
    rintro e2 a2 w2 ⟨e2', z, ρ2, hk2, he2, hs2, hm2, hf2, hp2⟩
    exact ⟨e2', z, ρ2, hk2, he2, hs2, hm2, hf2, fun id hid => (hp2 id hid).trans (hp id hid)⟩
  | exit i =>
    cases e <;> simp only [AExit.is] at he
    exact ⟨.exit i, y, ρ', ho _ _ (by simp) hk, he, hs', hm', hf', hp⟩
  | ret =>
    cases e <;> simp only [AExit.is] at he
    exact ⟨.ret, y, ρ', ho _ _ (by simp) hk, trivial, hs', hm', hf', hp⟩

theorem Tri.block {P : Program} {F : Fr} {ds : List Deferred} {m id : Nat} {c : Code} {x : XS} {L : AExit → XS → Prop}
    (h : Tri P F ds m c x (fun e y => match e with
      | .exit i => if i = id then L .normal y else L (.exit i) y
      | e => L e y)) : Tri P F ds m (.block id c) x L := by
  intro ρ ac w hs hm hf
  refine wp_block (wp_mono (h ρ ac w hs hm hf) ?_)
  rintro e a' w' ⟨e', y, ρ', hk, he, hs', hm', hf', hp⟩
  cases e' with
  | normal =>
    cases e <;> simp only [AExit.is] at he
    exact ⟨.normal, y, ρ', hk, trivial, hs', hm', hf', hp⟩
  | exit i =>
    cases e <;> simp only [AExit.is] at he
    subst he
    simp only at hk
    simp only [Exit.inBlock]
    split at hk
    · rename_i hid
      rw [if_pos hid]
      exact ⟨.normal, y, ρ', hk, trivial, hs', hm', hf', hp⟩
    · rename_i hid
      rw [if_neg hid]
      exact ⟨.exit i, y, ρ', hk, rfl, hs', hm', hf', hp⟩
  | ret =>
    cases e <;> simp only [AExit.is] at he
    exact ⟨.ret, y, ρ', hk, trivial, hs', hm', hf', hp⟩

/-- A loop: what holds ahead of each round, and a measure. -/
theorem Tri.loop {P : Program} {F : Fr} {ds : List Deferred} {m : Nat} {c : Code} {x : XS} {L : AExit → XS → Prop} {α : Type} (I : α → XS) (R : α → Prop) (μ : α → Nat) (i0 : α) (h0 : I i0 = x) (hR : R i0)
    (round : ∀ i, R i → Tri P F ds m c (I i) (fun e y => match e with
      | .normal => ∃ j, R j ∧ μ j < μ i ∧ y = I j
      | e => L e y)) : Tri P F ds m (.loop c) x L := by
  intro ρ0 a0 w0 hs0 hm0 hf0
  subst h0
  let J : Act → World → Nat → Prop := fun a w k => ∃ i ρ, R i ∧ μ i = k ∧ Sim F ds ρ (I i).s a w ∧ m ≤ (I i).n ∧ (∀ id, (I i).n ≤ id → ρ id = none) ∧ (∀ id, id < m → Ren.eqAt ρ ρ0 id)
  have hex : ∀ a w, (∃ k, J a w k) → ∃ k, J a w k ∧ ∀ k', J a w k' → k ≤ k' := by
    intro a w ⟨k, hk⟩
    induction k using Nat.strongRecOn with
    | _ k ih =>
      by_cases hh : ∃ k', k' < k ∧ J a w k'
      · obtain ⟨k', hlt, hk'⟩ := hh; exact ih k' hlt hk'
      · exact ⟨k, hk, fun k' hk' => Nat.le_of_not_lt fun hlt => hh ⟨k', hlt, hk'⟩⟩
  refine wp_loop (fun a w => ∃ k, J a w k) (fun a w => (Classical.epsilon fun k => J a w k ∧ ∀ k', J a w k' → k ≤ k')) ⟨μ i0, i0, ρ0, hR, rfl, hs0, hm0, hf0, fun _ _ => Ren.eqAt.refl _ _⟩ ?_
  intro a w hJ
  have hmin := Classical.epsilon_spec (hex a w hJ)
  obtain ⟨⟨i, ρ, hRi, hμ, hs, hm, hf, hp⟩, hle⟩ := hmin
  refine wp_mono (round i hRi ρ a w hs hm hf) ?_
  rintro e a' w' ⟨e', y, ρ', hk, he, hs', hm', hf', hp'⟩
  cases e' with
  | normal =>
    cases e <;> simp only [AExit.is] at he
    obtain ⟨j, hRj, hlt, rfl⟩ := hk
    have hJ' : J a' w' (μ j) := ⟨j, ρ', hRj, rfl, hs', hm', hf', fun id hid => (hp' id hid).trans (hp id hid)⟩
    refine ⟨⟨_, hJ'⟩, ?_⟩
    have hmin' := Classical.epsilon_spec (hex a' w' ⟨_, hJ'⟩)
    have := hmin'.2 _ hJ'
    omega
  | exit i =>
    cases e <;> simp only [AExit.is] at he
    exact ⟨.exit i, y, ρ', hk, he, hs', hm', hf', fun id hid => (hp' id hid).trans (hp id hid)⟩
  | ret =>
    cases e <;> simp only [AExit.is] at he
    exact ⟨.ret, y, ρ', hk, trivial, hs', hm', hf', fun id hid => (hp' id hid).trans (hp id hid)⟩

theorem Tri.leaf {P : Program} {F : Fr} {ds : List Deferred} {m : Nat} {c : Code} {x : XS} {K : AExit → XS → Prop} {e : Exit} {e' : AExit} (he : e'.is e) (hk : K e' x)
    (hw : ∀ (Q : Exit → Act → World → Prop) a w, Q e a w → c.wp P Q a w) : Tri P F ds m c x K :=
  fun ρ a w hs hm hf => hw _ a w ⟨e', x, ρ, hk, he, hs, hm, hf, fun _ _ => Ren.eqAt.refl _ _⟩

theorem boolOf_ok {ρ : Ren} {a : AV} {x : Value} {b : Bool} (h : Rv ρ a x) (e : boolOf a = some b) : x = .bool b := by
  unfold boolOf at e
  split at e
  · simp at e; subst e; cases h; rfl
  · simp at e; subst e; cases h; rfl
  · cases e

theorem Tri.of_holds {P : Program} {F : Fr} {ds : List Deferred} {m : Nat} {c : Code} {x : XS} {K : AExit → XS → Prop} {α : Type} {J : α → Prop} : ∀ {t : Tree α}, t.holds J → (∀ a, J a → Tri P F ds m c x K) → Tri P F ds m c x K
  | .leaf a, h, k => k a h
  | .br true t _, h, k => Tri.of_holds (t := t) (h.1 rfl) k
  | .br false _ f, h, k => Tri.of_holds (t := f) (h.2 rfl) k
  | .need _ t, h, k => Tri.of_holds (t := t) h.2 k
  | .same _ _ t, h, k => Tri.of_holds (t := t) h.2 k
  | .fail, h, _ => h.elim

theorem exec_sound {P : Program} {E : Env} (hE : EnvOk P E) (hm : P.follows .mixedOrders = true) {F : Fr} {ds : List Deferred} {m : Nat} {sym : List Tmp} {tab : BTab} {lf : Nat} :
    ∀ (c : Code) (x : XS) (K : AExit → XS → Prop), codeOk E c = true → TabOk P m tab c → (exec P E sym tab lf c x).holds (fun r => K r.1 r.2) → Tri P F ds m c x K := by
  intro c
  induction c with
  | skip => intro x K _ _ h; exact Tri.leaf (e := .normal) (e' := .normal) trivial h fun Q a w hq => wp_skip hq
  | label l => intro x K _ _ h; exact Tri.leaf (e := .normal) (e' := .normal) trivial h fun Q a w hq => wp_label hq
  | ret => intro x K _ _ h; exact Tri.leaf (e := .ret) (e' := .ret) trivial h fun Q a w hq => wp_ret hq
  | exit id => intro x K _ _ h; exact Tri.leaf (e := .exit id) (e' := .exit id) rfl h fun Q a w hq => wp_exit hq
  | region id ops d =>
    intro x K hk _ h
    simp only [exec] at h
    cases hl : (E.late && (d && !chk E ops)) with
    | true =>
      rw [hl, cond_true] at h
      cases hc : chk (E.withTau (tauOf P E ops.toList x.n (look x.s.tm) x.s.h ops.toList 0)) ops with
      | false => rw [hc] at h; exact h.elim
      | true =>
        rw [hc, cond_true] at h
        exact region_sound (withTau_ok hE _) hm (fun _ => hc) (Tree.holds_bind h)
    | false =>
      rw [hl, cond_false] at h
      refine region_sound hE hm ?_ (Tree.holds_bind h)
      intro hd; subst hd
      cases hc : chk E ops with
      | true => rfl
      | false =>
        simp [codeOk, hc] at hk hl
        rw [hk] at hl; cases hl
  | seq a b iha ihb =>
    intro x K hk ht h
    simp only [exec] at h
    simp only [codeOk, Bool.and_eq_true] at hk
    refine Tri.seq (K := fun e y => match e with
      | .normal => (exec P E sym tab lf b y).holds (fun r => K r.1 r.2)
      | e => K e y) (iha x _ hk.1 ht.1 ?_) (fun y hy => ihb y K hk.2 ht.2 hy) (fun e y hne hy => by cases e <;> first | exact absurd rfl hne | exact hy)
    refine Tree.holds_mono ?_ (Tree.holds_bind h)
    rintro ⟨e, y⟩ hy
    cases e <;> exact hy
  | cond c a b iha ihb =>
    intro x K hk ht h
    simp only [exec] at h
    simp only [codeOk, Bool.and_eq_true] at hk
    intro ρ ac w hs hmn hf
    split at h
    · rename_i u r d hq
      obtain ⟨id, ops, o, y, g, rfl, rfl, ho, hop, hd, hg, hm', hc, rfl, hr, hok⟩ := condA_spec hq
      have hcv := look_ok hs.tm c
      rw [hc] at hcv
      have hcv : ac.eval c = .bool g := by generalize ac.eval c = v at hcv; cases hcv; rfl
      have hsz : ops.size = 1 := by rw [← Array.length_toList, ho]; rfl
      have weak : ∀ {ρ' : Ren} {a' : Act} {w' : World} {t0 : List AV}, Sim F ds ρ' ⟨t0, x.s.h, true⟩ a' w' → (∀ (i : Nat) (q : AV) (v : Value), (x.s.tm.set d r)[i]? = some q → a'.tmps.toList[i]? = some v → Rv ρ' q v) → (x.s.tm.set d r).length = t0.length → Sim F ds ρ' ⟨x.s.tm.set d r, x.s.h, true⟩ a' w' :=
        fun hs1 hrel hlen => ⟨⟨hlen.trans hs1.tm.1, hrel⟩, hs1.h, hs1.ds⟩
      cases g with
      | true =>
        refine wp_cond_true hcv ?_
        have hrun : (exec P E sym tab lf (.region id ops false) x).holds (fun q : AExit × XS => q.1 = .normal ∧ q.2 = ⟨⟨x.s.tm.set d (look x.s.tm y), x.s.h, true⟩, x.n + E.kk⟩) := by
          have heff : eff P E (fun _ => none) x.n ops 0 x.s.tm x.s.h = some ⟨true, some d, look x.s.tm y, []⟩ := by
            unfold eff wantedA effT
            simp only [ho, List.getElem?_cons_zero, hg, hop, effOp, opPure, hd, tauOk_assign, upsOk_assign]
          have hp : x.s.put ⟨true, some d, look x.s.tm y, []⟩ = ⟨x.s.tm.set d (look x.s.tm y), x.s.h, true⟩ := by
            simp [St.put, putA, hok]
          have hrt : runT P E sym x.n ops (rangeL 0 ops.size []) x.s = .need true (.leaf ⟨x.s.tm.set d (look x.s.tm y), x.s.h, true⟩) := by
            rw [hsz]
            show runT P E sym x.n ops [0] x.s = _
            simp only [runT, heff]
            split
            · rename_i d' g' hd' hg'
              simp at hd'; subst hd'
              rw [hm', cond_false, hp]
            · rw [hp]
          simp only [exec, Bool.false_and, Bool.and_false, cond_false, hrt]
          exact ⟨rfl, rfl, by rw [hsz, Nat.mul_one]⟩
        refine wp_mono (iha x (fun e z => e = .normal ∧ z = ⟨⟨x.s.tm.set d (look x.s.tm y), x.s.h, true⟩, x.n + E.kk⟩) hk.1 ht.1 hrun ρ ac w hs hmn hf) ?_
        rintro e a' w' ⟨e', z, ρ', ⟨rfl, rfl⟩, he, hs', hm2, hf2, hp2⟩
        refine ⟨.normal, _, ρ', h, he, weak hs' (fun i q v hi hv => ?_) (by simp), hm2, hf2, hp2⟩
        rw [List.getElem?_set] at hi
        by_cases hdi : d = i
        · subst hdi
          rw [if_pos rfl] at hi
          split at hi
          · rename_i hlt
            simp at hi; subst hi
            exact choose2_t (hs'.tm.2 d (look x.s.tm y) v (by simp [hlt]) hv) hr
          · cases hi
        · rw [if_neg hdi] at hi
          exact hs'.tm.2 i q v (by rw [List.getElem?_set, if_neg hdi]; exact hi) hv
      | false =>
        refine wp_cond_false hcv ?_
        refine wp_skip ?_
        refine ⟨.normal, _, ρ, h, trivial, weak (t0 := x.s.tm) ⟨hs.tm, hs.h, hs.ds⟩ (fun i q v hi hv => ?_) (by simp), by simp; omega, fun id hid => hf id (by simp at hid; omega), fun _ _ => Ren.eqAt.refl _ _⟩
        rw [List.getElem?_set] at hi
        by_cases hdi : d = i
        · subst hdi
          rw [if_pos rfl] at hi
          split at hi
          · rename_i hlt
            simp at hi; subst hi
            have e1 : x.s.tm.getD d .any = x.s.tm[d] := by simp [List.getD, hlt]
            rw [e1] at hr
            exact choose2_f (hs.tm.2 d x.s.tm[d] v (by simp [hlt]) hv) hr
          · cases hi
        · rw [if_neg hdi] at hi
          exact hs.tm.2 i q v hi hv
    split at h
    · rename_i hb
      exact wp_cond_true (boolOf_ok (look_ok hs.tm c) hb) (iha x K hk.1 ht.1 h ρ ac w hs hmn hf)
    · rename_i hb
      exact wp_cond_false (boolOf_ok (look_ok hs.tm c) hb) (ihb x K hk.2 ht.2 h ρ ac w hs hmn hf)
    · exact h.elim
  | block id c ih =>
    intro x K hk ht h
    simp only [exec] at h
    simp only [codeOk] at hk
    simp only [TabOk] at ht
    split at h
    · rename_i b hg
      rw [hg] at ht
      split at h
      · rename_i y hy
        obtain ⟨rfl, hn, hpost⟩ := h
        have hids := allBlt_spec hn
        intro ρ ac w hs hmn hf
        obtain ⟨ρ1, hs1, hm1, hf1, hp1⟩ := trim_sim (m := m) hs hy hids ht.1
        refine wp_mono (ht.2 F ds K hpost ρ1 ac w hs1 hm1 hf1) ?_
        rintro e a' w' ⟨e', z, ρ2, hk2, he2, hs2, hm2, hf2, hp2⟩
        exact ⟨e', z, ρ2, hk2, he2, hs2, hm2, hf2, fun id hlt => (hp2 id hlt).trans (hp1 id hlt)⟩
      · exact h.elim
    · rename_i hg
      rw [hg] at ht
      refine Tri.block (ih x _ hk ht ?_)
      refine Tree.holds_mono ?_ (Tree.holds_bind h)
      rintro ⟨e, y⟩ hy
      cases e with
      | normal => exact hy
      | exit i =>
        simp only at hy ⊢
        cases hb : Nat.beq i id with
        | true =>
          rw [hb] at hy
          rw [if_pos (Nat.eq_of_beq_eq_true hb)]
          exact hy
        | false =>
          rw [hb] at hy
          rw [if_neg (Nat.ne_of_beq_eq_false hb)]
          exact hy
      | ret => exact hy
  | loop c ih =>
    intro x K hk ht h
    simp only [exec] at h
    simp only [codeOk] at hk
    refine Tri.loop (α := Nat × XS) (fun p => p.2) (fun p => (iter (exec P E sym tab lf c) p.1 p.2).holds (fun r => K r.1 r.2)) (fun p => p.1) (lf, x) rfl h ?_
    rintro ⟨k, y⟩ hR
    cases k with
    | zero => exact hR.elim
    | succ k =>
      simp only [iter] at hR
      refine ih y _ hk ht ?_
      refine Tree.holds_mono ?_ (Tree.holds_bind hR)
      rintro ⟨e, z⟩ hz
      cases e with
      | normal => exact ⟨(k, z), hz, by simp, rfl⟩
      | exit i => exact hz
      | ret => exact hz
  | _ => intro x K _ _ h; exact h.elim

end Go.Rq

/- Contracts of functions. -/
namespace Go.Rq
open Go

def resA (P : Program) (tm : List AV) (h : AH) : ResultVar → Option AV
  | .tmp t => tm[t]?
  | .cell a t => match tm.getD a .any with
    | .ptr id off => match h.getC id with
      | some B => loadA P t B.cs off
      | none => none
    | _ => none

def resAll (P : Program) (tm : List AV) (h : AH) : List ResultVar → Option (List AV)
  | [] => some []
  | r :: t => match resA P tm h r with
    | none => none
    | some a => match resAll P tm h t with
      | none => none
      | some l => some (a :: l)

def one1 : List AV → AV
  | [a] => a
  | l => .tup l

def undefs : Nat → List AV
  | 0 => []
  | n + 1 => .v undef :: undefs n

theorem undefs_eq {ρ : Ren} (n : Nat) : Rvs ρ (undefs n) (List.replicate n undef) := by
  induction n with
  | zero => exact .nil
  | succ n ih => rw [List.replicate_succ]; exact .cons (.v _) ih

/-- A function's body, gone through: what it hands back, and the heap behind. -/
def afun (P : Program) (E : Env) (sym : List Tmp) (tab : BTab) (lf : Nat) (f : FuncId) (args : List AV) (h : AH) (n : Nat) : Tree (AV × AH) :=
  match P.funcs.toList[f]? with
  | none => .fail
  | some fn => match fn.body with
    | none => .fail
    | some c => (exec P E sym tab lf c ⟨⟨args ++ undefs (fn.ntmps - args.length), h, true⟩, n⟩).bind fun (e, y) => match e with
      | .exit _ => .fail
      | _ => match resAll P y.s.tm y.s.h fn.results.toList with
        | none => .fail
        | some l => .leaf (one1 l, y.s.h)

theorem resA_run {P : Program} {F : Fr} {ds : List Deferred} {ρ : Ren} {s : St} {a : Act} {w : World} (hs : Sim F ds ρ s a w) {r : ResultVar} {x : AV} (h : resA P s.tm s.h r = some x) :
    ∃ v, (match r with | .tmp t => pure (a.tmps.getD t undef) | .cell c t => do loadVar t (← asAddr (a.tmps.getD c undef)) : Sem Value).run P w = .ok v w ∧ Rv ρ x v := by
  cases r with
  | tmp t =>
    simp only [resA] at h
    obtain ⟨v, hv, hr⟩ := hs.tm.getD h
    have hv' : a.tmps[t]? = some v := by simpa using hv
    exact ⟨v, by simp [hv'], hr⟩
  | cell c t =>
    simp only [resA] at h
    split at h
    · rename_i id off hc
      split at h
      · rename_i B hB
        obtain ⟨b, o, h1, h2, ⟨xs, fr, rfl, h3, h4, h5⟩, h6⟩ := hs.h.blkC hB
        have := look_ok hs.tm (.tmp c)
        simp only [look, Act.eval] at this
        rw [hc] at this
        generalize hv : a.tmps.getD c undef = v at this
        cases this with
        | ptr hb =>
          rw [h1] at hb; simp at hb; subst hb
          obtain ⟨u, h7, h8⟩ := loadA_run h h2 h4 h5
          refine ⟨u, ?_, h8⟩
          simp only [hv, asAddr, Sem.run_bind, Sem.run_pure, Result.andThen_ok, h7]
      · cases h
    · cases h

theorem results_run {P : Program} {F : Fr} {ds : List Deferred} {ρ : Ren} {s : St} {a : Act} {w : World} (hs : Sim F ds ρ s a w) : ∀ {rs : List ResultVar} {l : List AV}, resAll P s.tm s.h rs = some l →
    ∃ vs : List Value, (rs.mapM (fun (r : ResultVar) => (match r with | .tmp t => pure (a.tmps.getD t undef) | .cell c t => do loadVar t (← asAddr (a.tmps.getD c undef)) : Sem Value))).run P w = .ok vs w ∧ Rvs ρ l vs
  | [], l, h => by simp [resAll] at h; subst h; exact ⟨[], by simp, .nil⟩
  | r :: t, l, h => by
    simp only [resAll] at h
    split at h
    · cases h
    · rename_i x hx
      split at h
      · cases h
      · rename_i m hm
        simp at h; subst h
        obtain ⟨v, h1, h2⟩ := resA_run hs hx
        obtain ⟨vs, h3, h4⟩ := results_run hs hm
        refine ⟨v :: vs, ?_, .cons h2 h4⟩
        rw [List.mapM_cons]
        simp only [Sem.run_bind, h1, h3, Result.andThen_ok, Sem.run_pure]

theorem one1_ok {ρ : Ren} {l : List AV} {vs : List Value} (h : Rvs ρ l vs) : Rv ρ (one1 l) (if h : vs.toArray.size = 1 then vs.toArray[0] else .tuple vs.toArray) := by
  cases l with
  | nil => rw [h.unnil]; exact .tup_mk .nil
  | cons a t =>
    obtain ⟨x, ys, rfl, hx, ht⟩ := h.uncons
    cases t with
    | nil => rw [ht.unnil]; exact hx
    | cons b u =>
      obtain ⟨y, zs, rfl, hy, hu⟩ := ht.uncons
      rw [dif_neg (by simp)]
      exact .tup_mk (.cons hx (.cons hy hu))

/-- What a function comes to, from whatever fits. -/
theorem afun_calls {P : Program} {E : Env} (hE : EnvOk P E) (hm : P.follows .mixedOrders = true) {sym : List Tmp} {tab : BTab} {lf f : Nat} {fn : Func} {c : Code} (hf : P.funcs.toList[f]? = some fn) (hb : fn.body = some c)
    (hok : codeOk E c = true) {args : List AV} {h : AH} {n : Nat} (htab : TabOk P n tab c) {K : AV → AH → Prop} (ht : (afun P E sym tab lf f args h n).holds (fun r => K r.1 r.2))
    {F : Fr} {ρ : Ren} {xs : List Value} {w : World} (hx : Rvs ρ args xs) (hw : RW F ρ h w) (hn : ∀ id, n ≤ id → ρ id = none) :
    Calls P f xs.toArray w (fun e w' => ∃ v r h' ρ', e = .returned v ∧ K r h' ∧ Rv ρ' r v ∧ RW F ρ' h' w' ∧ (∀ id, id < n → Ren.eqAt ρ' ρ id)) := by
  have hf' : P.funcs[f]? = some fn := by simpa using hf
  unfold afun at ht
  rw [hf] at ht
  simp only [hb] at ht
  refine calls_of_wp hf' hb ?_
  have hlen := hx.1
  have hs : Sim F [] ρ ⟨args ++ undefs (fn.ntmps - args.length), h, true⟩ { tmps := xs.toArray ++ Array.replicate (fn.ntmps - xs.toArray.size) undef, defers := [] } w := by
    refine ⟨?_, hw, rfl⟩
    have := hx.append (undefs_eq (ρ := ρ) (fn.ntmps - args.length))
    simpa [hlen] using this
  have main := exec_sound hE hm (F := F) (ds := []) (m := n) c ⟨⟨args ++ undefs (fn.ntmps - args.length), h, true⟩, n⟩
    (fun e y => Tree.holds (fun r : AV × AH => K r.1 r.2) (match e with
        | AExit.exit _ => Tree.fail
        | _ => match resAll P y.s.tm y.s.h fn.results.toList with
          | none => Tree.fail
          | some l => Tree.leaf (one1 l, y.s.h))) hok htab (Tree.holds_mono (fun _ k => k) (Tree.holds_bind ht)) ρ _ w hs (Nat.le_refl _) hn
  refine wp_mono main ?_
  rintro e a' w' ⟨e', y, ρ', hk, he, hs', hmy, hfr', hp⟩
  have fin : e = .normal ∨ e = .ret → Tree.holds (fun r : AV × AH => K r.1 r.2) (match resAll P y.s.tm y.s.h fn.results.toList with
        | none => Tree.fail
        | some l => Tree.leaf (one1 l, y.s.h)) → bodyPost P fn (fun e w' => ∃ v r h' ρ', e = .returned v ∧ K r h' ∧ Rv ρ' r v ∧ RW F ρ' h' w' ∧ (∀ id, id < n → Ren.eqAt ρ' ρ id)) e a' w' := by
    intro hcase hh
    split at hh
    · exact hh.elim
    · rename_i l hl
      obtain ⟨vs, h1, h2⟩ := results_run hs' hl
      have hres : (results fn a'.tmps).run P w' = .ok (if h : vs.toArray.size = 1 then vs.toArray[0] else .tuple vs.toArray) w' := by
        unfold results
        simp only [Sem.run_bind]
        rw [Array.mapM_eq_mapM_toList]
        simp only [Sem.run_map]
        have e1 : (fn.results.toList.mapM (fun (x : ResultVar) => (match x with
            | .tmp t => pure (a'.tmps.getD t undef)
            | .cell a t => do loadVar t (← asAddr (a'.tmps.getD a undef)) : Sem Value))).run P w' = .ok vs w' := h1
        erw [e1]
        simp only [Result.andThen_ok, Sem.run_pure]
      have post : a'.defers = [] ∧ ∃ v, (results fn a'.tmps).run P w' = .ok v w' ∧ (∃ v' r h' ρ', Ending.returned v = .returned v' ∧ K r h' ∧ Rv ρ' r v' ∧ RW F ρ' h' w' ∧ (∀ id, id < n → Ren.eqAt ρ' ρ id)) :=
        ⟨hs'.ds, _, hres, _, _, _, ρ', rfl, hh, one1_ok h2, hs'.h, hp⟩
      rcases hcase with rfl | rfl
      · exact post
      · exact post
  cases e' with
  | normal =>
    cases e <;> simp only [AExit.is] at he
    exact fin (.inl rfl) hk
  | exit i => exact hk.elim
  | ret =>
    cases e <;> simp only [AExit.is] at he
    exact fin (.inr rfl) hk

def flatL : List AV → Option (List Value)
  | [] => some []
  | a :: t => match flat a with
    | none => none
    | some x => match flatL t with
      | none => none
      | some l => some (x :: l)

theorem Rvs.flatL_eq {ρ : Ren} : ∀ {as : List AV} {xs l : List Value}, Rvs ρ as xs → flatL as = some l → xs = l
  | [], xs, l, h, e => by simp [flatL] at e; subst e; exact h.unnil
  | a :: t, xs, l, h, e => by
    obtain ⟨x, ys, rfl, hx, ht⟩ := h.uncons
    simp only [flatL] at e
    split at e
    · cases e
    · rename_i y hy
      split at e
      · cases e
      · rename_i m hm
        simp at e; subst e
        rw [hx.flat_eq hy, Rvs.flatL_eq ht hm]

theorem Rvs.of_flatL {ρ : Ren} : ∀ {as : List AV} {l : List Value}, flatL as = some l → Rvs ρ as l
  | [], l, e => by simp [flatL] at e; subst e; exact .nil
  | a :: t, l, e => by
    simp only [flatL] at e
    split at e
    · cases e
    · rename_i y hy
      split at e
      · cases e
      · rename_i m hm
        simp at e; subst e
        exact .cons (.of_flat hy) (Rvs.of_flatL hm)

def frameOf (w : World) : Fr := ⟨fun b => w.heap[b]?, w.os, w.tape, w.output⟩

theorem RW.init (w : World) (ρ : Ren) (hg : GW w) : RW (frameOf w) ρ [] w :=
  ⟨fun id B h => by simp [AH.get] at h, fun id id' B B' b h => by simp [AH.get] at h, fun _ _ h => h, rfl, rfl, rfl, hg⟩

theorem RW.to_below {w w' : World} {ρ : Ren} {h : AH} (r : RW (frameOf w) ρ h w') : RowKit.Below w.heap.size w w' := by
  refine ⟨r.os, r.tape, r.out, ?_, fun k hk => ?_⟩
  · cases hs : w.heap.size with
    | zero => omega
    | succ n =>
      have hlt : n < w.heap.size := by omega
      have := r.fr n w.heap[n] (by simp [frameOf, hlt])
      have := (Array.getElem?_eq_some_iff.1 this).1
      omega
  · have hg : w.heap[k]? = some w.heap[k] := Array.getElem?_eq_getElem hk
    rw [hg]
    exact r.fr k w.heap[k] hg

/-- A function of exact values, whose answer is exact: its contract. -/
theorem pure_of_afun {P : Program} {E : Env} (hE : EnvOk P E) (hm : P.follows .mixedOrders = true) {sym : List Tmp} {tab : BTab} {lf f : Nat} {fn : Func} {c : Code} (hf : P.funcs.toList[f]? = some fn) (hb : fn.body = some c)
    (hok : codeOk E c = true) (htab : TabOk P 0 tab c) {g : List AV → Option (Bool × AV)}
    (h : ∀ as r, g as = some (true, r) → (∃ l, flatL as = some l) ∧ (∃ y, flat r = some y ∧ (afun P E sym tab lf f as [] 0).holds (fun q => flat q.1 = some y))) : PureOk P f g := by
  intro ρ as xs r hg hx w hgw
  obtain ⟨⟨l, hl⟩, y, hy, ht⟩ := h as r hg
  have hxl := hx.flatL_eq hl
  subst hxl
  have := afun_calls hE hm hf hb hok htab (K := fun q _ => flat q = some y) (Tree.holds_mono (fun _ k => k) ht) (F := frameOf w) (ρ := Ren.empty) (xs := xs) (w := w) (Rvs.of_flatL hl) (RW.init w _ hgw) (fun _ _ => rfl)
  refine Calls.mono this ?_
  rintro e w' ⟨v, q, h', ρ', rfl, hk, hrv, hrw, _⟩
  have := hrv.flat_eq hk
  subst this
  exact ⟨v, rfl, .of_flat hy, hrw.to_below⟩

/-! Tables of functions. -/

abbrev PureTab := List (FuncId × (List AV → Option (Bool × AV)))

def lookP : PureTab → FuncId → Option (List AV → Option (Bool × AV))
  | [], _ => none
  | (f, g) :: t, k => bif Nat.beq f k then some g else lookP t k

def lookE : List (TypeId × List Nat) → TypeId → Option (List Nat)
  | [], _ => none
  | (f, g) :: t, k => bif Nat.beq f k then some g else lookE t k

def envOf (eqs : List (TypeId × List Nat)) (ps : PureTab) : Env := ⟨lookP ps, fun _ => none, lookE eqs, false, false, [], [], fun _ => none, none, fun _ => none, false, [], 1⟩

/-- Likewise, where places may be variables. -/
def envW (eqs : List (TypeId × List Nat)) (ps : PureTab) : Env := ⟨lookP ps, fun _ => none, lookE eqs, true, false, [], [], fun _ => none, none, fun _ => none, false, [], 1⟩

theorem lookP_mem : ∀ {ps : PureTab} {f : FuncId} {g}, lookP ps f = some g → (f, g) ∈ ps
  | [], f, g, h => by simp [lookP] at h
  | (k, q) :: t, f, g, h => by
    simp only [lookP] at h
    cases hb : Nat.beq k f with
    | true => rw [hb] at h; simp at h; subst h; rw [Nat.eq_of_beq_eq_true hb]; simp
    | false => rw [hb] at h; exact List.mem_cons_of_mem _ (lookP_mem h)

theorem lookE_mem : ∀ {ps : List (TypeId × List Nat)} {f : TypeId} {g}, lookE ps f = some g → (f, g) ∈ ps
  | [], f, g, h => by simp [lookE] at h
  | (k, q) :: t, f, g, h => by
    simp only [lookE] at h
    cases hb : Nat.beq k f with
    | true => rw [hb] at h; simp at h; subst h; rw [Nat.eq_of_beq_eq_true hb]; simp
    | false => rw [hb] at h; exact List.mem_cons_of_mem _ (lookE_mem h)

def EqsOk (P : Program) (eqs : List (TypeId × List Nat)) : Prop := ∀ p ∈ eqs, plan P 100 p.1 = some p.2 ∧ (match P.underlying p.1 with | some u => isRow u | none => false) = true ∧ P.eqGuardType P.depth p.1 = false

def TabPOk (P : Program) (ps : PureTab) : Prop := ∀ p ∈ ps, CallOk P p.1 p.2

theorem TabPOk.nil {P : Program} : TabPOk P [] := fun p h => by simp at h
theorem TabPOk.cons {P : Program} {f : FuncId} {g : List AV → Option (Bool × AV)} {t : PureTab} (h : CallOk P f g) (r : TabPOk P t) : TabPOk P ((f, g) :: t) := by
  intro p hp
  rcases List.mem_cons.1 hp with rfl | hp
  · exact h
  · exact r p hp

theorem envOf_ok {P : Program} {eqs : List (TypeId × List Nat)} {ps : PureTab} (he : EqsOk P eqs) (hp : TabPOk P ps) : EnvOk P (envOf eqs ps) :=
  ⟨fun _ _ h => he _ (lookE_mem h), fun _ _ h => hp _ (lookP_mem h), fun _ _ h => by simp [envOf] at h, fun _ _ h => by simp [envOf] at h, fun _ _ h => by simp [envOf] at h, Nat.le_refl 1⟩

theorem envW_ok {P : Program} {eqs : List (TypeId × List Nat)} {ps : PureTab} (he : EqsOk P eqs) (hp : TabPOk P ps) : EnvOk P (envW eqs ps) :=
  ⟨fun _ _ h => he _ (lookE_mem h), fun _ _ h => hp _ (lookP_mem h), fun _ _ h => by simp [envW] at h, fun _ _ h => by simp [envW] at h, fun _ _ h => by simp [envW] at h, Nat.le_refl 1⟩

theorem EqsOk.nil {P : Program} : EqsOk P [] := fun p h => by simp at h
theorem EqsOk.cons {P : Program} {t : TypeId} {k : List Nat} {l : List (TypeId × List Nat)} (h1 : plan P 100 t = some k) (h2 : (match P.underlying t with | some u => isRow u | none => false) = true) (h3 : P.eqGuardType P.depth t = false)
    (r : EqsOk P l) : EqsOk P ((t, k) :: l) := by
  intro p hp
  rcases List.mem_cons.1 hp with rfl | hp
  · exact ⟨h1, h2, h3⟩
  · exact r p hp

theorem enters_of {P : Program} {f : FuncId} {fn : Func} (h : P.funcs.toList[f]? = some fn) (h2 : (fn.name == "runtime.NumGoroutine") = false) (h3 : fn.body.isNone = false) : Enters P f :=
  ⟨fn, by simpa using h, h2, h3⟩

end Go.Rq
