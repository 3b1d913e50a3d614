/- Whole functions, gone through by the abstract machine. -/
import Derived.Test.YtbamkkbefjgeoaaGreatDoorRq05
namespace Go.Rq
open Go

/-- Whether a value names blocks below a number alone (one level deep). -/
def AV.lt0 (n : Nat) : AV → Bool
  | .any => true
  | .v _ => true
  | .lit _ => true
  | .u _ => true
  | .bit _ => true
  | .ptr id _ => Nat.blt id n
  | .slc id _ _ _ => Nat.blt id n
  | .own id _ _ _ => Nat.blt id n
  | .mp id => Nat.blt id n
  | .mk => true
  | .fn _ [] [] => true
  | _ => false

def allLt0 (n : Nat) : List AV → Bool
  | [] => true
  | a :: t => a.lt0 n && allLt0 n t

def AV.lt (n : Nat) : AV → Bool
  | .agg cs => allLt0 n cs
  | .tup cs => allLt0 n cs
  | .fn _ as bs => allLt0 n as && allLt0 n bs
  | .ifc _ a => a.lt0 n
  | a => a.lt0 n

/-- Slots that are not kept are forgotten. -/
def trimTm (keep : List Tmp) (n : Nat) : List AV → Nat → Option (List AV)
  | [], _ => some []
  | a :: t, i => match trimTm keep n t (i + 1) with
    | none => none
    | some l => bif memb i keep then (bif a.lt n then some (a :: l) else none) else some (.any :: l)

def allLt (n : Nat) : List AV → Bool
  | [] => true
  | a :: t => a.lt n && allLt n t

/-- The blocks that are kept, in their order. -/
def trimH (n : Nat) (h : AH) : List Nat → Option AH
  | [] => some []
  | i :: t => match AH.get h i with
    | none => none
    | some B => match trimH n h t with
      | none => none
      | some l => bif allLt n B.cs then some ((i, some B) :: l) else none

/-- A state of which less is known: some slots, some blocks; names below n alone. -/
def trim (keep : List Tmp) (ids : List Nat) (n : Nat) (x : XS) : Option XS :=
  match trimTm keep n x.s.tm 0, trimH n x.s.h ids with
  | some tm, some h => some ⟨⟨tm, h, true⟩, n⟩
  | _, _ => none

/-- A block of code that is told: what is known ahead of it (which slots and blocks, the state), and what comes of it. -/
structure BEnt where
  keep : List Tmp
  ids : List Nat
  n : Nat
  pre : XS
  post : Tree (AExit × XS)

abbrev BTab := Nat → Option BEnt

theorem Rv.lt0 {ρ : Ren} {n : Nat} {a : AV} {x : Value} (h : Rv ρ a x) (e : a.lt0 n = true) : Rv (ρ.cut n) a x := by
  cases h with
  | any x => exact .any x
  | v x => exact .v x
  | lit b => exact .lit b
  | u x => exact .u x
  | bit b => exact .bit b
  | @ptr id off b hb =>
    have hlt : id < n := Nat.le_of_ble_eq_true e
    exact .ptr (by rw [Ren.cut_lt hlt]; exact hb)
  | @slc id off len cap b hb =>
    have hlt : id < n := Nat.le_of_ble_eq_true e
    exact .slc (by rw [Ren.cut_lt hlt]; exact hb)
  | @own id es k len b cap hb h0 hc hl hm =>
    have hlt : id < n := Nat.le_of_ble_eq_true e
    exact .own (by rw [Ren.cut_lt hlt]; exact hb) h0 hc hl hm
  | @ownE id es k b j cap hb hk =>
    have hlt : id < n := Nat.le_of_ble_eq_true e
    exact .ownE (by rw [Ren.cut_lt hlt]; exact hb) hk
  | agg _ _ => simp [AV.lt0] at e
  | tup _ _ => simp [AV.lt0] at e
  | @fn f as bs xs ys hl h kl k =>
    cases as with
    | cons => simp [AV.lt0] at e
    | nil =>
      cases bs with
      | cons => simp [AV.lt0] at e
      | nil => exact .fn hl (fun i a x ha => by simp at ha) kl (fun i a x ha => by simp at ha)
  | ifc _ => simp [AV.lt0] at e
  | @mp id b hb =>
    have hlt : id < n := Nat.le_of_ble_eq_true e
    exact .mp (by rw [Ren.cut_lt hlt]; exact hb)

theorem Rvs.lt0 {ρ : Ren} {n : Nat} : ∀ {as : List AV} {xs : List Value}, Rvs ρ as xs → allLt0 n as = true → Rvs (ρ.cut n) as xs
  | [], xs, h, _ => by rw [h.unnil]; exact .nil
  | a :: t, xs, h, e => by
    obtain ⟨x, ys, rfl, hx, ht⟩ := h.uncons
    simp only [allLt0, Bool.and_eq_true] at e
    exact .cons (hx.lt0 e.1) (Rvs.lt0 ht e.2)

theorem Rv.lt {ρ : Ren} {n : Nat} {a : AV} {x : Value} (h : Rv ρ a x) (e : a.lt n = true) : Rv (ρ.cut n) a x := by
  cases a with
  | agg cs => obtain ⟨xs, rfl, hx⟩ := h.agg_iff; simpa using Rv.agg_mk (Rvs.lt0 hx e)
  | tup cs => obtain ⟨xs, rfl, hx⟩ := h.tup_iff; simpa using Rv.tup_mk (Rvs.lt0 hx e)
  | fn f as bs =>
    obtain ⟨xs, ys, rfl, hx, hy⟩ := h.fn_iff
    simp only [AV.lt, Bool.and_eq_true] at e
    simpa using Rv.fn_mk (f := f) (Rvs.lt0 hx e.1) (Rvs.lt0 hy e.2)
  | ifc t a => cases h with | ifc h => exact .ifc (h.lt0 e)
  | _ => exact h.lt0 e

theorem allLt_spec {n : Nat} : ∀ {l : List AV}, allLt n l = true → ∀ a ∈ l, a.lt n = true
  | [], _, a, h => by simp at h
  | b :: t, e, a, h => by
    simp only [allLt, Bool.and_eq_true] at e
    rcases List.mem_cons.1 h with rfl | h
    · exact e.1
    · exact allLt_spec e.2 a h

theorem trimTm_spec {ρ : Ren} {keep : List Tmp} {n : Nat} : ∀ {as : List AV} {xs : List Value} {i : Nat} {l : List AV}, Rvs ρ as xs → trimTm keep n as i = some l → Rvs (ρ.cut n) l xs
  | [], xs, i, l, h, e => by simp [trimTm] at e; subst e; rw [h.unnil]; exact .nil
  | a :: t, xs, i, l, h, e => by
    obtain ⟨x, ys, rfl, hx, ht⟩ := h.uncons
    simp only [trimTm] at e
    split at e
    · cases e
    · rename_i m hm
      have := trimTm_spec ht hm
      cases hk : memb i keep with
      | false => rw [hk] at e; simp at e; subst e; exact .cons (.any _) this
      | true =>
        rw [hk] at e
        cases hl : a.lt n with
        | false => rw [hl] at e; simp at e
        | true => rw [hl] at e; simp at e; subst e; exact .cons (hx.lt hl) this

theorem trimH_get {n : Nat} {h : AH} : ∀ {ids : List Nat} {l : AH}, trimH n h ids = some l → ∀ id B, l.get id = some B → h.get id = some B ∧ allLt n B.cs = true
  | [], l, e, id, B, g => by simp [trimH] at e; subst e; simp [AH.get] at g
  | i :: t, l, e, id, B, g => by
    simp only [trimH] at e
    split at e
    · cases e
    · rename_i C hC
      split at e
      · cases e
      · rename_i m hm
        cases hl : allLt n C.cs with
        | false => rw [hl] at e; simp at e
        | true =>
          rw [hl] at e; simp at e; subst e
          rw [AH.get_cons] at g
          split at g
          · rename_i hi; subst hi; simp at g; subst g; exact ⟨hC, hl⟩
          · exact trimH_get hm id B g

/-- What fits a state fits one of which less is known. -/
theorem trim_sim {F : Fr} {ds : List Deferred} {ρ : Ren} {keep : List Tmp} {ids : List Nat} {n m : Nat} {x y : XS} {a : Act} {w : World} (hs : Sim F ds ρ x.s a w) (ht : trim keep ids n x = some y) (hid : ∀ i ∈ ids, i < n) (hmn : m ≤ n) :
    ∃ ρ', Sim F ds ρ' y.s a w ∧ m ≤ y.n ∧ (∀ id, y.n ≤ id → ρ' id = none) ∧ (∀ id, id < m → Ren.eqAt ρ' ρ id) := by
  unfold trim at ht
  split at ht
  · rename_i tm h htm hh
    simp at ht; subst ht
    refine ⟨ρ.cut n, ⟨trimTm_spec hs.tm htm, ?_, hs.ds⟩, hmn, fun id hge => Ren.cut_ge hge, fun id hlt => ⟨Ren.cut_lt (by omega), fun _ _ => ⟨rfl, rfl⟩⟩⟩
    have key : ∀ id B, h.get id = some B → id ∈ ids := by
      intro id B hB
      clear htm
      revert h
      induction ids with
      | nil => intro h hh hB; simp [trimH] at hh; subst hh; simp [AH.get] at hB
      | cons i t ih =>
        intro h hh hB
        simp only [trimH] at hh
        split at hh
        · cases hh
        · split at hh
          · cases hh
          · rename_i C _ _ l hl
            cases hlt : allLt n C.cs with
            | false => rw [hlt] at hh; simp at hh
            | true =>
              rw [hlt] at hh; simp at hh; subst hh
              rw [AH.get_cons] at hB
              split at hB
              · rename_i hi; subst hi; simp
              · exact List.mem_cons_of_mem _ (ih (fun j hj => hid j (by simp [hj])) l hl hB)
    refine ⟨fun id B hB => ?_, fun id id' B B' b hB hB' hw hb hb' => ?_, hs.h.fr, hs.h.os, hs.h.tape, hs.h.out, hs.h.gc⟩
    · obtain ⟨hg, hl⟩ := trimH_get hh id B hB
      obtain ⟨b, o, h1, h2, h3, h6⟩ := hs.h.blk id B hg
      have hlt := hid id (key id B hB)
      exact ⟨b, _, by rw [Ren.cut_lt hlt]; exact h1, h2, h3.keep rfl (fun hh => hh) rfl rfl (fun a' ha x' hx => hx.lt (allLt_spec hl a' ha)), h6⟩
    · have h1 := (trimH_get hh id B hB).1
      have h2 := (trimH_get hh id' B' hB').1
      rw [Ren.cut_lt (hid id (key id B hB))] at hb
      rw [Ren.cut_lt (hid id' (key id' B' hB'))] at hb'
      exact hs.h.inj id id' B B' b h1 h2 hw hb hb'
  · cases ht

def allBlt (n : Nat) : List Nat → Bool
  | [] => true
  | i :: t => Nat.blt i n && allBlt n t

theorem allBlt_spec {n : Nat} : ∀ {l : List Nat}, allBlt n l = true → ∀ i ∈ l, i < n
  | [], _, i, h => by simp at h
  | j :: t, e, i, h => by
    simp only [allBlt, Bool.and_eq_true] at e
    rcases List.mem_cons.1 h with rfl | h
    · exact Nat.le_of_ble_eq_true e.1
    · exact allBlt_spec e.2 i h

/-- A loop, round by round: at most so many. -/
def iter (f : XS → Tree (AExit × XS)) : Nat → XS → Tree (AExit × XS)
  | 0, _ => .fail
  | k + 1, x => (f x).bind fun (e, y) => match e with
    | .normal => iter f k y
    | e => .leaf (e, y)

def boolOf : AV → Option Bool
  | .lit b => some b
  | .v (.bool b) => some b
  | _ => none

/-- An assignment under a bool that may be a variable: of both values one. -/
def condA (E : Env) (sym : List Tmp) (c : Operand) (a b : Code) (x : XS) : Option (AV × AV × Nat) :=
  match c with
  | .tmp ct => match inL ct E.mrg && x.s.ok with
    | false => none
    | true => match a, b with
      | .region _ ops false, .skip => match ops.toList with
        | [o] => match o.op, o.dst, o.guard with
          | .assign y, some d, none => match memb d sym with
            | true => none
            | false => match look x.s.tm c with
              | .v (.bool g) => match choose2 g (look x.s.tm y) (x.s.tm.getD d .any) with
                | some r => some (look x.s.tm y, r, d)
                | none => none
              | _ => none
          | _, _, _ => none
        | _ => none
      | _, _ => none
  | _ => none

theorem condA_spec {E : Env} {sym : List Tmp} {c : Operand} {a b : Code} {x : XS} {u r : AV} {d : Nat} (h : condA E sym c a b x = some (u, r, d)) :
    ∃ id ops o y g, a = .region id ops false ∧ b = .skip ∧ ops.toList = [o] ∧ o.op = .assign y ∧ o.dst = some d ∧ o.guard = none ∧ memb d sym = false ∧ look x.s.tm c = .v (.bool g) ∧ u = look x.s.tm y ∧
      choose2 g u (x.s.tm.getD d .any) = some r ∧ x.s.ok = true := by
  unfold condA at h
  split at h
  · split at h
    · cases h
    · rename_i hok
      simp only [Bool.and_eq_true] at hok
      split at h
      · rename_i id ops
        split at h
        · rename_i o ho
          split at h
          · rename_i y d' hop hd hg
            split at h
            · cases h
            · rename_i hm
              split at h
              · rename_i g hc
                split at h
                · rename_i r' hr
                  simp at h
                  obtain ⟨rfl, rfl, rfl⟩ := h
                  exact ⟨id, ops, o, y, g, rfl, rfl, ho, hop, hd, hg, hm, hc, rfl, hr, hok.2⟩
                · cases h
              · cases h
          · cases h
        · cases h
      · cases h
  · cases h

theorem tauOk_assign (E : Env) (i : Nat) (y : Operand) (ev : Operand → AV) : tauOk E i (.assign y) ev = true := by
  unfold tauOk
  split <;> rfl

theorem upsOk_assign (E : Env) (y : Operand) (u : AH) : upsOk E (.assign y) u = true := by
  unfold upsOk
  split <;> rfl

/-- The operation that a slot is of. -/
def writer (p : Tmp) : List Oper → Nat → Option (Nat × Op)
  | [], _ => none
  | o :: t, i => match o.dst with
    | some d => bif Nat.beq d p then some (i, o.op) else writer p t (i + 1)
    | none => writer p t (i + 1)

def blkOf : AV → Option Nat
  | .ptr id _ => some id
  | .slc id _ _ _ => some id
  | .own id _ _ _ => some id
  | _ => none

/-- The block that a pointer comes from, as it seems. -/
def orgA (kk : Nat) (ops : List Oper) (base : Nat) (lk : Operand → AV) : Nat → Operand → Option Nat
  | 0, _ => none
  | k + 1, x => match x with
    | .tmp p => match writer p ops 0 with
      | none => blkOf (lk x)
      | some (i, op) => match op with
        | .alloc _ => some (base + kk * i)
        | .box _ _ => some (base + kk * i)
        | .fieldAddr _ y _ => orgA kk ops base lk k y
        | .indexAddr _ y _ => orgA kk ops base lk k y
        | .slice _ y _ _ _ => orgA kk ops base lk k y
        | .sliceToArrayPointer _ y => orgA kk ops base lk k y
        | .move y => orgA kk ops base lk k y
        | .assign y => orgA kk ops base lk k y
        | .nilCheck y => orgA kk ops base lk k y
        | _ => none
    | _ => none

/-- What an operand holds, as it seems: through moves, addresses of fields and loads of the region. -/
def evR (P : Program) (E : Env) (ops : List Oper) (base : Nat) (lk : Operand → AV) (h : AH) : Nat → Operand → AV
  | 0, x => lk x
  | k + 1, x => match x with
    | .tmp p => match writer p ops 0 with
      | none => lk x
      | some (i, op) => match op with
        | .move y => evR P E ops base lk h k y
        | .assign y => evR P E ops base lk h k y
        | .nilCheck y => evR P E ops base lk h k y
        | .fieldAddr t y j => match effOp P E (evR P E ops base lk h k) h (base + E.kk * i) (.fieldAddr t y j) with
          | some (_, r, _) => r
          | none => lk x
        | .load t y => match effOp P E (evR P E ops base lk h k) h (base + E.kk * i) (.load t y) with
          | some (_, r, _) => r
          | none => lk x
        | _ => lk x
    | _ => lk x

/-- The row that an append is told to write: what its first argument owns; to an empty one: its own new name. -/
def orgO (id : Nat) : AV → Option Nat
  | .own i _ _ _ => some i
  | .v (.slice none _ _) => some id
  | _ => none

/-- The first that is told. -/
def firstO (f : Operand → Option Nat) : List Operand → Option Nat
  | [] => none
  | x :: t => match f x with
    | some i => some i
    | none => firstO f t
/-- What operands hold once some operations of the region were gone through in the text's order. -/
def lkO (lk : Operand → AV) : List (Tmp × AV) → Operand → AV
  | [], x => lk x
  | (d, v) :: t, x => match x with
    | .tmp p => bif Nat.beq d p then v else lkO lk t x
    | _ => lkO lk t x
def putO (d : Option Tmp) (r : AV) (ov : List (Tmp × AV)) : List (Tmp × AV) := match d with
  | some d => (d, r) :: ov
  | none => ov
def ovT (P : Program) (E : Env) (base : Nat) (lk : Operand → AV) : List Oper → Nat → List (Tmp × AV) → AH → List (Tmp × AV)
  | [], _, ov, _ => ov
  | o :: t, i, ov, h => match effOp P E (lkO lk ov) h (base + E.kk * i) o.op with
    | some (_, r, ups) => ovT P E base lk t (i + 1) (putO o.dst r ov) (ups ++ h)
    | none => ovT P E base lk t (i + 1) ov h
def slOf : AV → Option Nat
  | .slc i _ _ _ => some i
  | .own i _ _ _ => some i
  | _ => none
/-- The block of a slice that is turned to its own type, as it seems. -/
def mvO (kk : Nat) (ops : List Oper) (base : Nat) (lk : Operand → AV) (x : Operand) : Option Nat := match x with
  | .tmp p => match writer p ops 0 with
    | none => slOf (lk x)
    | some (i, op) => match op with
      | .buildSlice _ _ _ => some (base + kk * i)
      | _ => none
  | _ => none
/-- Is what is appended to a slice that no append writes to: one that was just laid and marked? -/
def fullB (ops : List Oper) (x : Operand) : Bool := match x with
  | .tmp p => match writer p ops 0 with
    | some (_, .convert s d (.tmp q)) => match writer q ops 0 with
      | some (_, .buildSlice _ _ _) => Nat.beq s d
      | _ => false
    | _ => false
  | _ => false
def tauOf (P : Program) (E : Env) (ops : List Oper) (base : Nat) (lk : Operand → AV) (h : AH) : List Oper → Nat → List (Option Nat)
  | [], _ => []
  | o :: t, i => (match o.op with
    | .load _ a => orgA E.kk (ops.take i) base lk 8 a
    | .store _ a _ => orgA E.kk (ops.take i) base lk 8 a
    | op => match appArg op with
      | some s => bif fullB (ops.take i) s then some (base + E.kk * i) else orgO (base + E.kk * i) (evR P E (ops.take i) base lk h 8 s)
      | none => match strArg E op with
        | some a => slOf (lkO lk (ovT P E base lk (ops.take i) 0 [] h) a)
        | none => match rdArgs E op with
          | some as => firstO (orgA E.kk (ops.take i) base lk 8) as
          | none => match mvArg E op with
            | some a => mvO E.kk (ops.take i) base lk a
            | none => none) :: tauOf P E ops base lk h t (i + 1)

def Env.withTau (E : Env) (l : List (Option Nat)) : Env := ⟨E.pure, E.heap, E.cellEq, E.wide, E.late, E.strT, E.mrg, E.lay, some l, E.act, E.fresh, E.ro, E.kk⟩
theorem withTau_ok {P : Program} {E : Env} (h : EnvOk P E) (l : List (Option Nat)) : EnvOk P (E.withTau l) := ⟨h.eq, h.pure, h.heap, h.lay, h.act, h.kk⟩

def exec (P : Program) (E : Env) (sym : List Tmp) (tab : BTab) (lf : Nat) : Code → XS → Tree (AExit × XS)
  | .skip, x => .leaf (.normal, x)
  | .label _, x => .leaf (.normal, x)
  | .ret, x => .leaf (.ret, x)
  | .exit id, x => .leaf (.exit id, x)
  | .region _ ops d, x => bif E.late && (d && !chk E ops) then
      (bif chk (E.withTau (tauOf P E ops.toList x.n (look x.s.tm) x.s.h ops.toList 0)) ops then
        (runT P (E.withTau (tauOf P E ops.toList x.n (look x.s.tm) x.s.h ops.toList 0)) sym x.n ops (rangeL 0 ops.size []) x.s).bind fun s => .leaf (.normal, ⟨s, x.n + E.kk * ops.size⟩)
      else .fail)
    else (runT P E sym x.n ops (rangeL 0 ops.size []) x.s).bind fun s => .leaf (.normal, ⟨s, x.n + E.kk * ops.size⟩)
  | .seq a b, x => (exec P E sym tab lf a x).bind fun (e, y) => match e with
    | .normal => exec P E sym tab lf b y
    | e => .leaf (e, y)
  | .cond c a b, x => match condA E sym c a b x with
    | some (_, r, d) => .leaf (.normal, ⟨⟨x.s.tm.set d r, x.s.h, true⟩, x.n + E.kk⟩)
    | none => match boolOf (look x.s.tm c) with
      | some true => exec P E sym tab lf a x
      | some false => exec P E sym tab lf b x
      | none => .fail
  | .block id c, x => match tab id with
    | some b => match trim b.keep b.ids b.n x with
      | some y => .same y b.pre (.need (allBlt b.n b.ids) b.post)
      | none => .fail
    | none => (exec P E sym tab lf c x).bind fun (e, y) => match e with
      | .exit i => bif Nat.beq i id then .leaf (.normal, y) else .leaf (e, y)
      | e => .leaf (e, y)
  | .loop c, x => iter (exec P E sym tab lf c) lf x
  | _, _ => .fail

/-- What is told of blocks of the code is so. -/
def TabOk (P : Program) (m : Nat) (tab : BTab) : Code → Prop
  | .block id c => match tab id with
    | some b => m ≤ b.n ∧ ∀ F ds K, b.post.holds (fun r => K r.1 r.2) → Tri P F ds m (.block id c) b.pre K
    | none => TabOk P m tab c
  | .seq a b => TabOk P m tab a ∧ TabOk P m tab b
  | .cond _ a b => TabOk P m tab a ∧ TabOk P m tab b
  | .loop c => TabOk P m tab c
  | _ => True

/-- All regions that draw an order come to the same in whatever order. -/
def codeOk (E : Env) : Code → Bool
  | .region _ ops d => E.late || (!d || chk E ops)
  | .seq a b => codeOk E a && codeOk E b
  | .cond _ a b => codeOk E a && codeOk E b
  | .block _ c => codeOk E c
  | .loop c => codeOk E c
  | _ => true

theorem Tri.mono {P : Program} {F : Fr} {ds : List Deferred} {m : Nat} {c : Code} {x : XS} {K L : AExit → XS → Prop} (h : ∀ e y, K e y → L e y) (t : Tri P F ds m c x K) : Tri P F ds m c x L :=
  fun ρ a w hs hm hf => wp_mono (t ρ a w hs hm hf) fun _ _ _ ⟨e', y, ρ', hk, r⟩ => ⟨e', y, ρ', h _ _ hk, r⟩

theorem Tri.seq {P : Program} {F : Fr} {ds : List Deferred} {m : Nat} {a b : Code} {x : XS} {K L : AExit → XS → Prop} (h : Tri P F ds m a x K)
    (hb : ∀ y, K .normal y → Tri P F ds m b y L) (ho : ∀ e y, e ≠ .normal → K e y → L e y) : Tri P F ds m (.seq a b) x L := by
  intro ρ ac w hs hm hf
  refine wp_seq (wp_mono (h ρ ac w hs hm hf) ?_)
  rintro e a' w' ⟨e', y, ρ', hk, he, hs', hm', hf', hp⟩
  cases e' with
  | normal =>
    cases e <;> simp only [AExit.is] at he
    refine wp_mono (hb y hk ρ' a' w' hs' hm' hf') ?_
    rintro e2 a2 w2 ⟨e2', z, ρ2, hk2, he2, hs2, hm2, hf2, hp2⟩
    exact ⟨e2', z, ρ2, hk2, he2, hs2, hm2, hf2, fun id hid => (hp2 id hid).trans (hp id hid)⟩
  | exit i =>
    cases e <;> simp only [AExit.is] at he
    exact ⟨.exit i, y, ρ', ho _ _ (by simp) hk, he, hs', hm', hf', hp⟩
  | ret =>
    cases e <;> simp only [AExit.is] at he
    exact ⟨.ret, y, ρ', ho _ _ (by simp) hk, trivial, hs', hm', hf', hp⟩

theorem Tri.block {P : Program} {F : Fr} {ds : List Deferred} {m id : Nat} {c : Code} {x : XS} {L : AExit → XS → Prop}
    (h : Tri P F ds m c x (fun e y => match e with
      | .exit i => if i = id then L .normal y else L (.exit i) y
      | e => L e y)) : Tri P F ds m (.block id c) x L := by
  intro ρ ac w hs hm hf
  refine wp_block (wp_mono (h ρ ac w hs hm hf) ?_)
  rintro e a' w' ⟨e', y, ρ', hk, he, hs', hm', hf', hp⟩
  cases e' with
  | normal =>
    cases e <;> simp only [AExit.is] at he
    exact ⟨.normal, y, ρ', hk, trivial, hs', hm', hf', hp⟩
  | exit i =>
    cases e <;> simp only [AExit.is] at he
    subst he
    simp only at hk
    simp only [Exit.inBlock]
    split at hk
    · rename_i hid
      rw [if_pos hid]
      exact ⟨.normal, y, ρ', hk, trivial, hs', hm', hf', hp⟩
    · rename_i hid
      rw [if_neg hid]
      exact ⟨.exit i, y, ρ', hk, rfl, hs', hm', hf', hp⟩
  | ret =>
    cases e <;> simp only [AExit.is] at he
    exact ⟨.ret, y, ρ', hk, trivial, hs', hm', hf', hp⟩

/-- A loop: what holds ahead of each round, and a measure. -/
theorem Tri.loop {P : Program} {F : Fr} {ds : List Deferred} {m : Nat} {c : Code} {x : XS} {L : AExit → XS → Prop} {α : Type} (I : α → XS) (R : α → Prop) (μ : α → Nat) (i0 : α) (h0 : I i0 = x) (hR : R i0)
    (round : ∀ i, R i → Tri P F ds m c (I i) (fun e y => match e with
      | .normal => ∃ j, R j ∧ μ j < μ i ∧ y = I j
      | e => L e y)) : Tri P F ds m (.loop c) x L := by
  intro ρ0 a0 w0 hs0 hm0 hf0
  subst h0
  let J : Act → World → Nat → Prop := fun a w k => ∃ i ρ, R i ∧ μ i = k ∧ Sim F ds ρ (I i).s a w ∧ m ≤ (I i).n ∧ (∀ id, (I i).n ≤ id → ρ id = none) ∧ (∀ id, id < m → Ren.eqAt ρ ρ0 id)
  have hex : ∀ a w, (∃ k, J a w k) → ∃ k, J a w k ∧ ∀ k', J a w k' → k ≤ k' := by
    intro a w ⟨k, hk⟩
    induction k using Nat.strongRecOn with
    | _ k ih =>
      by_cases hh : ∃ k', k' < k ∧ J a w k'
      · obtain ⟨k', hlt, hk'⟩ := hh; exact ih k' hlt hk'
      · exact ⟨k, hk, fun k' hk' => Nat.le_of_not_lt fun hlt => hh ⟨k', hlt, hk'⟩⟩
  refine wp_loop (fun a w => ∃ k, J a w k) (fun a w => (Classical.epsilon fun k => J a w k ∧ ∀ k', J a w k' → k ≤ k')) ⟨μ i0, i0, ρ0, hR, rfl, hs0, hm0, hf0, fun _ _ => Ren.eqAt.refl _ _⟩ ?_
  intro a w hJ
  have hmin := Classical.epsilon_spec (hex a w hJ)
  obtain ⟨⟨i, ρ, hRi, hμ, hs, hm, hf, hp⟩, hle⟩ := hmin
  refine wp_mono (round i hRi ρ a w hs hm hf) ?_
  rintro e a' w' ⟨e', y, ρ', hk, he, hs', hm', hf', hp'⟩
  cases e' with
  | normal =>
    cases e <;> simp only [AExit.is] at he
    obtain ⟨j, hRj, hlt, rfl⟩ := hk
    have hJ' : J a' w' (μ j) := ⟨j, ρ', hRj, rfl, hs', hm', hf', fun id hid => (hp' id hid).trans (hp id hid)⟩
    refine ⟨⟨_, hJ'⟩, ?_⟩
    have hmin' := Classical.epsilon_spec (hex a' w' ⟨_, hJ'⟩)
    have := hmin'.2 _ hJ'
    omega
  | exit i =>
    cases e <;> simp only [AExit.is] at he
    exact ⟨.exit i, y, ρ', hk, he, hs', hm', hf', fun id hid => (hp' id hid).trans (hp id hid)⟩
  | ret =>
    cases e <;> simp only [AExit.is] at he
    exact ⟨.ret, y, ρ', hk, trivial, hs', hm', hf', fun id hid => (hp' id hid).trans (hp id hid)⟩

theorem Tri.leaf {P : Program} {F : Fr} {ds : List Deferred} {m : Nat} {c : Code} {x : XS} {K : AExit → XS → Prop} {e : Exit} {e' : AExit} (he : e'.is e) (hk : K e' x)
    (hw : ∀ (Q : Exit → Act → World → Prop) a w, Q e a w → c.wp P Q a w) : Tri P F ds m c x K :=
  fun ρ a w hs hm hf => hw _ a w ⟨e', x, ρ, hk, he, hs, hm, hf, fun _ _ => Ren.eqAt.refl _ _⟩

theorem boolOf_ok {ρ : Ren} {a : AV} {x : Value} {b : Bool} (h : Rv ρ a x) (e : boolOf a = some b) : x = .bool b := by
  unfold boolOf at e
  split at e
  · simp at e; subst e; cases h; rfl
  · simp at e; subst e; cases h; rfl
  · cases e

theorem exec_sound {P : Program} {E : Env} (hE : EnvOk P E) (hm : P.follows .mixedOrders = true) {F : Fr} {ds : List Deferred} {m : Nat} {sym : List Tmp} {tab : BTab} {lf : Nat} :
    ∀ (c : Code) (x : XS) (K : AExit → XS → Prop), codeOk E c = true → TabOk P m tab c → (exec P E sym tab lf c x).holds (fun r => K r.1 r.2) → Tri P F ds m c x K := by
  intro c
  induction c with
  | skip => intro x K _ _ h; exact Tri.leaf (e := .normal) (e' := .normal) trivial h fun Q a w hq => wp_skip hq
  | label l => intro x K _ _ h; exact Tri.leaf (e := .normal) (e' := .normal) trivial h fun Q a w hq => wp_label hq
  | ret => intro x K _ _ h; exact Tri.leaf (e := .ret) (e' := .ret) trivial h fun Q a w hq => wp_ret hq
  | exit id => intro x K _ _ h; exact Tri.leaf (e := .exit id) (e' := .exit id) rfl h fun Q a w hq => wp_exit hq
  | region id ops d =>
    intro x K hk _ h
    simp only [exec] at h
    cases hl : (E.late && (d && !chk E ops)) with
    | true =>
      rw [hl, cond_true] at h
      cases hc : chk (E.withTau (tauOf P E ops.toList x.n (look x.s.tm) x.s.h ops.toList 0)) ops with
      | false => rw [hc] at h; exact h.elim
      | true =>
        rw [hc, cond_true] at h
        exact region_sound (withTau_ok hE _) hm (fun _ => hc) (Tree.holds_bind h)
    | false =>
      rw [hl, cond_false] at h
      refine region_sound hE hm ?_ (Tree.holds_bind h)
      intro hd; subst hd
      cases hc : chk E ops with
      | true => rfl
      | false =>
        simp [codeOk, hc] at hk hl
        rw [hk] at hl; cases hl
  | seq a b iha ihb =>
    intro x K hk ht h
    simp only [exec] at h
    simp only [codeOk, Bool.and_eq_true] at hk
    refine Tri.seq (K := fun e y => match e with
      | .normal => (exec P E sym tab lf b y).holds (fun r => K r.1 r.2)
      | e => K e y) (iha x _ hk.1 ht.1 ?_) (fun y hy => ihb y K hk.2 ht.2 hy) (fun e y hne hy => by cases e <;> first | exact absurd rfl hne | exact hy)
    refine Tree.holds_mono ?_ (Tree.holds_bind h)
    rintro ⟨e, y⟩ hy
    cases e <;> exact hy
  | cond c a b iha ihb =>
    intro x K hk ht h
    simp only [exec] at h
    simp only [codeOk, Bool.and_eq_true] at hk
    intro ρ ac w hs hmn hf
    split at h
    · rename_i u r d hq
      obtain ⟨id, ops, o, y, g, rfl, rfl, ho, hop, hd, hg, hm', hc, rfl, hr, hok⟩ := condA_spec hq
      have hcv := look_ok hs.tm c
      rw [hc] at hcv
      have hcv : ac.eval c = .bool g := by generalize ac.eval c = v at hcv; cases hcv; rfl
      have hsz : ops.size = 1 := by rw [← Array.length_toList, ho]; rfl
      have weak : ∀ {ρ' : Ren} {a' : Act} {w' : World} {t0 : List AV}, Sim F ds ρ' ⟨t0, x.s.h, true⟩ a' w' → (∀ (i : Nat) (q : AV) (v : Value), (x.s.tm.set d r)[i]? = some q → a'.tmps.toList[i]? = some v → Rv ρ' q v) → (x.s.tm.set d r).length = t0.length → Sim F ds ρ' ⟨x.s.tm.set d r, x.s.h, true⟩ a' w' :=
        fun hs1 hrel hlen => ⟨⟨hlen.trans hs1.tm.1, hrel⟩, hs1.h, hs1.ds⟩
      cases g with
      | true =>
        refine wp_cond_true hcv ?_
        have hrun : (exec P E sym tab lf (.region id ops false) x).holds (fun q : AExit × XS => q.1 = .normal ∧ q.2 = ⟨⟨x.s.tm.set d (look x.s.tm y), x.s.h, true⟩, x.n + E.kk⟩) := by
          have heff : eff P E (fun _ => none) x.n ops 0 x.s.tm x.s.h = some ⟨true, some d, look x.s.tm y, []⟩ := by
            unfold eff wantedA effT
            simp only [ho, List.getElem?_cons_zero, hg, hop, effOp, opPure, hd, tauOk_assign, upsOk_assign]
          have hp : x.s.put ⟨true, some d, look x.s.tm y, []⟩ = ⟨x.s.tm.set d (look x.s.tm y), x.s.h, true⟩ := by
            simp [St.put, putA, hok]
          have hrt : runT P E sym x.n ops (rangeL 0 ops.size []) x.s = .need true (.leaf ⟨x.s.tm.set d (look x.s.tm y), x.s.h, true⟩) := by
            rw [hsz]
            show runT P E sym x.n ops [0] x.s = _
            simp only [runT, heff]
            split
            · rename_i d' g' hd' hg'
              simp at hd'; subst hd'
              rw [hm', cond_false, hp]
            · rw [hp]
          simp only [exec, Bool.false_and, Bool.and_false, cond_false, hrt]
          exact ⟨rfl, rfl, by rw [hsz, Nat.mul_one]⟩
        refine wp_mono (iha x (fun e z => e = .normal ∧ z = ⟨⟨x.s.tm.set d (look x.s.tm y), x.s.h, true⟩, x.n + E.kk⟩) hk.1 ht.1 hrun ρ ac w hs hmn hf) ?_
        rintro e a' w' ⟨e', z, ρ', ⟨rfl, rfl⟩, he, hs', hm2, hf2, hp2⟩
        refine ⟨.normal, _, ρ', h, he, weak hs' (fun i q v hi hv => ?_) (by simp), hm2, hf2, hp2⟩
        rw [List.getElem?_set] at hi
        by_cases hdi : d = i
        · subst hdi
          rw [if_pos rfl] at hi
          split at hi
          · rename_i hlt
            simp at hi; subst hi
            exact choose2_t (hs'.tm.2 d (look x.s.tm y) v (by simp [hlt]) hv) hr
          · cases hi
        · rw [if_neg hdi] at hi
          exact hs'.tm.2 i q v (by rw [List.getElem?_set, if_neg hdi]; exact hi) hv
      | false =>
        refine wp_cond_false hcv ?_
        refine wp_skip ?_
        refine ⟨.normal, _, ρ, h, trivial, weak (t0 := x.s.tm) ⟨hs.tm, hs.h, hs.ds⟩ (fun i q v hi hv => ?_) (by simp), by simp; omega, fun id hid => hf id (by simp at hid; omega), fun _ _ => Ren.eqAt.refl _ _⟩
        rw [List.getElem?_set] at hi
        by_cases hdi : d = i
        · subst hdi
          rw [if_pos rfl] at hi
          split at hi
          · rename_i hlt
            simp at hi; subst hi
            have e1 : x.s.tm.getD d .any = x.s.tm[d] := by simp [List.getD, hlt]
            rw [e1] at hr
            exact choose2_f (hs.tm.2 d x.s.tm[d] v (by simp [hlt]) hv) hr
          · cases hi
        · rw [if_neg hdi] at hi
          exact hs.tm.2 i q v hi hv
    split at h
    · rename_i hb
      exact wp_cond_true (boolOf_ok (look_ok hs.tm c) hb) (iha x K hk.1 ht.1 h ρ ac w hs hmn hf)
    · rename_i hb
      exact wp_cond_false (boolOf_ok (look_ok hs.tm c) hb) (ihb x K hk.2 ht.2 h ρ ac w hs hmn hf)
    · exact h.elim
  | block id c ih =>
    intro x K hk ht h
    simp only [exec] at h
    simp only [codeOk] at hk
    simp only [TabOk] at ht
    split at h
    · rename_i b hg
      rw [hg] at ht
      split at h
      · rename_i y hy
        obtain ⟨rfl, hn, hpost⟩ := h
        have hids := allBlt_spec hn
        intro ρ ac w hs hmn hf
        obtain ⟨ρ1, hs1, hm1, hf1, hp1⟩ := trim_sim (m := m) hs hy hids ht.1
        refine wp_mono (ht.2 F ds K hpost ρ1 ac w hs1 hm1 hf1) ?_
        rintro e a' w' ⟨e', z, ρ2, hk2, he2, hs2, hm2, hf2, hp2⟩
        exact ⟨e', z, ρ2, hk2, he2, hs2, hm2, hf2, fun id hlt => (hp2 id hlt).trans (hp1 id hlt)⟩
      · exact h.elim
    · rename_i hg
      rw [hg] at ht
      refine Tri.block (ih x _ hk ht ?_)
      refine Tree.holds_mono ?_ (Tree.holds_bind h)
      rintro ⟨e, y⟩ hy
      cases e with
      | normal => exact hy
      | exit i =>
        simp only at hy ⊢
        cases hb : Nat.beq i id with
        | true =>
          rw [hb] at hy
          rw [if_pos (Nat.eq_of_beq_eq_true hb)]
          exact hy
        | false =>
          rw [hb] at hy
          rw [if_neg (Nat.ne_of_beq_eq_false hb)]
          exact hy
      | ret => exact hy
  | loop c ih =>
    intro x K hk ht h
    simp only [exec] at h
    simp only [codeOk] at hk
    refine Tri.loop (α := Nat × XS) (fun p => p.2) (fun p => (iter (exec P E sym tab lf c) p.1 p.2).holds (fun r => K r.1 r.2)) (fun p => p.1) (lf, x) rfl h ?_
    rintro ⟨k, y⟩ hR
    cases k with
    | zero => exact hR.elim
    | succ k =>
      simp only [iter] at hR
      refine ih y _ hk ht ?_
      refine Tree.holds_mono ?_ (Tree.holds_bind hR)
      rintro ⟨e, z⟩ hz
      cases e with
      | normal => exact ⟨(k, z), hz, by simp, rfl⟩
      | exit i => exact hz
      | ret => exact hz
  | _ => intro x K _ _ h; exact h.elim

end Go.Rq

/- Contracts of functions. -/
namespace Go.Rq
open Go

def resA (P : Program) (tm : List AV) (h : AH) : ResultVar → Option AV
  | .tmp t => tm[t]?
  | .cell a t => match tm.getD a .any with
    | .ptr id off => match h.getC id with
      | some B => loadA P t B.cs off
      | none => none
    | _ => none

def resAll (P : Program) (tm : List AV) (h : AH) : List ResultVar → Option (List AV)
  | [] => some []
  | r :: t => match resA P tm h r with
    | none => none
    | some a => match resAll P tm h t with
      | none => none
      | some l => some (a :: l)

def one1 : List AV → AV
  | [a] => a
  | l => .tup l

def undefs : Nat → List AV
  | 0 => []
  | n + 1 => .v undef :: undefs n

theorem undefs_eq {ρ : Ren} (n : Nat) : Rvs ρ (undefs n) (List.replicate n undef) := by
  induction n with
  | zero => exact .nil
  | succ n ih => rw [List.replicate_succ]; exact .cons (.v _) ih

/-- A function's body, gone through: what it hands back, and the heap behind. -/
def afun (P : Program) (E : Env) (sym : List Tmp) (tab : BTab) (lf : Nat) (f : FuncId) (args : List AV) (h : AH) (n : Nat) : Tree (AV × AH) :=
  match P.funcs.toList[f]? with
  | none => .fail
  | some fn => match fn.body with
    | none => .fail
    | some c => (exec P E sym tab lf c ⟨⟨args ++ undefs (fn.ntmps - args.length), h, true⟩, n⟩).bind fun (e, y) => match e with
      | .exit _ => .fail
      | _ => match resAll P y.s.tm y.s.h fn.results.toList with
        | none => .fail
        | some l => .leaf (one1 l, y.s.h)

theorem resA_run {P : Program} {F : Fr} {ds : List Deferred} {ρ : Ren} {s : St} {a : Act} {w : World} (hs : Sim F ds ρ s a w) {r : ResultVar} {x : AV} (h : resA P s.tm s.h r = some x) :
    ∃ v, (match r with | .tmp t => pure (a.tmps.getD t undef) | .cell c t => do loadVar t (← asAddr (a.tmps.getD c undef)) : Sem Value).run P w = .ok v w ∧ Rv ρ x v := by
  cases r with
  | tmp t =>
    simp only [resA] at h
    obtain ⟨v, hv, hr⟩ := hs.tm.getD h
    have hv' : a.tmps[t]? = some v := by simpa using hv
    exact ⟨v, by simp [hv'], hr⟩
  | cell c t =>
    simp only [resA] at h
    split at h
    · rename_i id off hc
      split at h
      · rename_i B hB
        obtain ⟨b, o, h1, h2, ⟨xs, fr, rfl, h3, h4, h5⟩, h6⟩ := hs.h.blkC hB
        have := look_ok hs.tm (.tmp c)
        simp only [look, Act.eval] at this
        rw [hc] at this
        generalize hv : a.tmps.getD c undef = v at this
        cases this with
        | ptr hb =>
          rw [h1] at hb; simp at hb; subst hb
          obtain ⟨u, h7, h8⟩ := loadA_run h h2 h4 h5
          refine ⟨u, ?_, h8⟩
          simp only [hv, asAddr, Sem.run_bind, Sem.run_pure, Result.andThen_ok, h7]
      · cases h
    · cases h

theorem results_run {P : Program} {F : Fr} {ds : List Deferred} {ρ : Ren} {s : St} {a : Act} {w : World} (hs : Sim F ds ρ s a w) : ∀ {rs : List ResultVar} {l : List AV}, resAll P s.tm s.h rs = some l →
    ∃ vs : List Value, (rs.mapM (fun (r : ResultVar) => (match r with | .tmp t => pure (a.tmps.getD t undef) | .cell c t => do loadVar t (← asAddr (a.tmps.getD c undef)) : Sem Value))).run P w = .ok vs w ∧ Rvs ρ l vs
  | [], l, h => by simp [resAll] at h; subst h; exact ⟨[], by simp, .nil⟩
  | r :: t, l, h => by
    simp only [resAll] at h
    split at h
    · cases h
    · rename_i x hx
      split at h
      · cases h
      · rename_i m hm
        simp at h; subst h
        obtain ⟨v, h1, h2⟩ := resA_run hs hx
        obtain ⟨vs, h3, h4⟩ := results_run hs hm
        refine ⟨v :: vs, ?_, .cons h2 h4⟩
        rw [List.mapM_cons]
        simp only [Sem.run_bind, h1, h3, Result.andThen_ok, Sem.run_pure]

theorem one1_ok {ρ : Ren} {l : List AV} {vs : List Value} (h : Rvs ρ l vs) : Rv ρ (one1 l) (if h : vs.toArray.size = 1 then vs.toArray[0] else .tuple vs.toArray) := by
  cases l with
  | nil => rw [h.unnil]; exact .tup_mk .nil
  | cons a t =>
    obtain ⟨x, ys, rfl, hx, ht⟩ := h.uncons
    cases t with
    | nil => rw [ht.unnil]; exact hx
    | cons b u =>
      obtain ⟨y, zs, rfl, hy, hu⟩ := ht.uncons
      rw [dif_neg (by simp)]
      exact .tup_mk (.cons hx (.cons hy hu))

/-- What a function comes to, from whatever fits. -/
theorem afun_calls {P : Program} {E : Env} (hE : EnvOk P E) (hm : P.follows .mixedOrders = true) {sym : List Tmp} {tab : BTab} {lf f : Nat} {fn : Func} {c : Code} (hf : P.funcs.toList[f]? = some fn) (hb : fn.body = some c)
    (hok : codeOk E c = true) {args : List AV} {h : AH} {n : Nat} (htab : TabOk P n tab c) {K : AV → AH → Prop} (ht : (afun P E sym tab lf f args h n).holds (fun r => K r.1 r.2))
    {F : Fr} {ρ : Ren} {xs : List Value} {w : World} (hx : Rvs ρ args xs) (hw : RW F ρ h w) (hn : ∀ id, n ≤ id → ρ id = none) :
    Calls P f xs.toArray w (fun e w' => ∃ v r h' ρ', e = .returned v ∧ K r h' ∧ Rv ρ' r v ∧ RW F ρ' h' w' ∧ (∀ id, id < n → Ren.eqAt ρ' ρ id)) := by
  have hf' : P.funcs[f]? = some fn := by simpa using hf
  unfold afun at ht
  rw [hf] at ht
  simp only [hb] at ht
  refine calls_of_wp hf' hb ?_
  have hlen := hx.1
  have hs : Sim F [] ρ ⟨args ++ undefs (fn.ntmps - args.length), h, true⟩ { tmps := xs.toArray ++ Array.replicate (fn.ntmps - xs.toArray.size) undef, defers := [] } w := by
    refine ⟨?_, hw, rfl⟩
    have := hx.append (undefs_eq (ρ := ρ) (fn.ntmps - args.length))
    simpa [hlen] using this
  have main := exec_sound hE hm (F := F) (ds := []) (m := n) c ⟨⟨args ++ undefs (fn.ntmps - args.length), h, true⟩, n⟩
    (fun e y => Tree.holds (fun r : AV × AH => K r.1 r.2) (match e with
        | AExit.exit _ => Tree.fail
        | _ => match resAll P y.s.tm y.s.h fn.results.toList with
          | none => Tree.fail
          | some l => Tree.leaf (one1 l, y.s.h))) hok htab (Tree.holds_mono (fun _ k => k) (Tree.holds_bind ht)) ρ _ w hs (Nat.le_refl _) hn
  refine wp_mono main ?_
  rintro e a' w' ⟨e', y, ρ', hk, he, hs', hmy, hfr', hp⟩
  have fin : e = .normal ∨ e = .ret → Tree.holds (fun r : AV × AH => K r.1 r.2) (match resAll P y.s.tm y.s.h fn.results.toList with
        | none => Tree.fail
        | some l => Tree.leaf (one1 l, y.s.h)) → bodyPost P fn (fun e w' => ∃ v r h' ρ', e = .returned v ∧ K r h' ∧ Rv ρ' r v ∧ RW F ρ' h' w' ∧ (∀ id, id < n → Ren.eqAt ρ' ρ id)) e a' w' := by
    intro hcase hh
    split at hh
    · exact hh.elim
    · rename_i l hl
      obtain ⟨vs, h1, h2⟩ := results_run hs' hl
      have hres : (results fn a'.tmps).run P w' = .ok (if h : vs.toArray.size = 1 then vs.toArray[0] else .tuple vs.toArray) w' := by
        unfold results
        simp only [Sem.run_bind]
        rw [Array.mapM_eq_mapM_toList]
        simp only [Sem.run_map]
        have e1 : (fn.results.toList.mapM (fun (x : ResultVar) => (match x with
            | .tmp t => pure (a'.tmps.getD t undef)
            | .cell a t => do loadVar t (← asAddr (a'.tmps.getD a undef)) : Sem Value))).run P w' = .ok vs w' := h1
        erw [e1]
        simp only [Result.andThen_ok, Sem.run_pure]
      have post : a'.defers = [] ∧ ∃ v, (results fn a'.tmps).run P w' = .ok v w' ∧ (∃ v' r h' ρ', Ending.returned v = .returned v' ∧ K r h' ∧ Rv ρ' r v' ∧ RW F ρ' h' w' ∧ (∀ id, id < n → Ren.eqAt ρ' ρ id)) :=
        ⟨hs'.ds, _, hres, _, _, _, ρ', rfl, hh, one1_ok h2, hs'.h, hp⟩
      rcases hcase with rfl | rfl
      · exact post
      · exact post
  cases e' with
  | normal =>
    cases e <;> simp only [AExit.is] at he
    exact fin (.inl rfl) hk
  | exit i => exact hk.elim
  | ret =>
    cases e <;> simp only [AExit.is] at he
    exact fin (.inr rfl) hk

def flatL : List AV → Option (List Value)
  | [] => some []
  | a :: t => match flat a with
    | none => none
    | some x => match flatL t with
      | none => none
      | some l => some (x :: l)

theorem Rvs.flatL_eq {ρ : Ren} : ∀ {as : List AV} {xs l : List Value}, Rvs ρ as xs → flatL as = some l → xs = l
  | [], xs, l, h, e => by simp [flatL] at e; subst e; exact h.unnil
  | a :: t, xs, l, h, e => by
    obtain ⟨x, ys, rfl, hx, ht⟩ := h.uncons
    simp only [flatL] at e
    split at e
    · cases e
    · rename_i y hy
      split at e
      · cases e
      · rename_i m hm
        simp at e; subst e
        rw [hx.flat_eq hy, Rvs.flatL_eq ht hm]

theorem Rvs.of_flatL {ρ : Ren} : ∀ {as : List AV} {l : List Value}, flatL as = some l → Rvs ρ as l
  | [], l, e => by simp [flatL] at e; subst e; exact .nil
  | a :: t, l, e => by
    simp only [flatL] at e
    split at e
    · cases e
    · rename_i y hy
      split at e
      · cases e
      · rename_i m hm
        simp at e; subst e
        exact .cons (.of_flat hy) (Rvs.of_flatL hm)

def frameOf (w : World) : Fr := ⟨fun b => w.heap[b]?, w.os, w.tape, w.output⟩

theorem RW.init (w : World) (ρ : Ren) (hg : GW w) : RW (frameOf w) ρ [] w :=
  ⟨fun id B h => by simp [AH.get] at h, fun id id' B B' b h => by simp [AH.get] at h, fun _ _ h => h, rfl, rfl, rfl, hg⟩

theorem RW.to_below {w w' : World} {ρ : Ren} {h : AH} (r : RW (frameOf w) ρ h w') : RowKit.Below w.heap.size w w' := by
  refine ⟨r.os, r.tape, r.out, ?_, fun k hk => ?_⟩
  · cases hs : w.heap.size with
    | zero => omega
    | succ n =>
      have hlt : n < w.heap.size := by omega
      have := r.fr n w.heap[n] (by simp [frameOf, hlt])
      have := (Array.getElem?_eq_some_iff.1 this).1
      omega
  · have hg : w.heap[k]? = some w.heap[k] := Array.getElem?_eq_getElem hk
    rw [hg]
    exact r.fr k w.heap[k] hg

/-! Tables of functions. -/

abbrev PureTab := List (FuncId × (List AV → Option (Bool × AV)))

def lookP : PureTab → FuncId → Option (List AV → Option (Bool × AV))
  | [], _ => none
  | (f, g) :: t, k => bif Nat.beq f k then some g else lookP t k

def lookE : List (TypeId × List Nat) → TypeId → Option (List Nat)
  | [], _ => none
  | (f, g) :: t, k => bif Nat.beq f k then some g else lookE t k

def envOf (eqs : List (TypeId × List Nat)) (ps : PureTab) : Env := ⟨lookP ps, fun _ => none, lookE eqs, false, false, [], [], fun _ => none, none, fun _ => none, false, [], 1⟩

theorem lookP_mem : ∀ {ps : PureTab} {f : FuncId} {g}, lookP ps f = some g → (f, g) ∈ ps
  | [], f, g, h => by simp [lookP] at h
  | (k, q) :: t, f, g, h => by
    simp only [lookP] at h
    cases hb : Nat.beq k f with
    | true => rw [hb] at h; simp at h; subst h; rw [Nat.eq_of_beq_eq_true hb]; simp
    | false => rw [hb] at h; exact List.mem_cons_of_mem _ (lookP_mem h)

theorem lookE_mem : ∀ {ps : List (TypeId × List Nat)} {f : TypeId} {g}, lookE ps f = some g → (f, g) ∈ ps
  | [], f, g, h => by simp [lookE] at h
  | (k, q) :: t, f, g, h => by
    simp only [lookE] at h
    cases hb : Nat.beq k f with
    | true => rw [hb] at h; simp at h; subst h; rw [Nat.eq_of_beq_eq_true hb]; simp
    | false => rw [hb] at h; exact List.mem_cons_of_mem _ (lookE_mem h)

def EqsOk (P : Program) (eqs : List (TypeId × List Nat)) : Prop := ∀ p ∈ eqs, plan P 100 p.1 = some p.2 ∧ (match P.underlying p.1 with | some u => isRow u | none => false) = true ∧ P.eqGuardType P.depth p.1 = false

def TabPOk (P : Program) (ps : PureTab) : Prop := ∀ p ∈ ps, CallOk P p.1 p.2

theorem TabPOk.nil {P : Program} : TabPOk P [] := fun p h => by simp at h
theorem TabPOk.cons {P : Program} {f : FuncId} {g : List AV → Option (Bool × AV)} {t : PureTab} (h : CallOk P f g) (r : TabPOk P t) : TabPOk P ((f, g) :: t) := by
  intro p hp
  rcases List.mem_cons.1 hp with rfl | hp
  · exact h
  · exact r p hp

theorem envOf_ok {P : Program} {eqs : List (TypeId × List Nat)} {ps : PureTab} (he : EqsOk P eqs) (hp : TabPOk P ps) : EnvOk P (envOf eqs ps) :=
  ⟨fun _ _ h => he _ (lookE_mem h), fun _ _ h => hp _ (lookP_mem h), fun _ _ h => by simp [envOf] at h, fun _ _ h => by simp [envOf] at h, fun _ _ h => by simp [envOf] at h, Nat.le_refl 1⟩

theorem EqsOk.nil {P : Program} : EqsOk P [] := fun p h => by simp at h
theorem EqsOk.cons {P : Program} {t : TypeId} {k : List Nat} {l : List (TypeId × List Nat)} (h1 : plan P 100 t = some k) (h2 : (match P.underlying t with | some u => isRow u | none => false) = true) (h3 : P.eqGuardType P.depth t = false)
    (r : EqsOk P l) : EqsOk P ((t, k) :: l) := by
  intro p hp
  rcases List.mem_cons.1 hp with rfl | hp
  · exact ⟨h1, h2, h3⟩
  · exact r p hp

theorem enters_of {P : Program} {f : FuncId} {fn : Func} (h : P.funcs.toList[f]? = some fn) (h2 : (fn.name == "runtime.NumGoroutine") = false) (h3 : fn.body.isNone = false) : Enters P f :=
  ⟨fn, by simpa using h, h2, h3⟩

end Go.Rq

/- Data as abstract values; contracts by them. -/
namespace Go.Rq
open Go

/-- Cells that tell a datum. -/
structure CC (α : Type) where
  n : Nat
  enc : α → List AV
  dec : List AV → Option α
  val : α → List Value
  len : ∀ x, (enc x).length = n
  h1 : ∀ x, flats (enc x) = some (val x)
  h2 : ∀ (ρ : Ren) (as : List AV) (vs : List Value) (x : α), dec as = some x → Rvs ρ as vs → vs = val x

/-- A value that tells a datum. -/
structure Cod (α : Type) where
  enc : α → AV
  dec : AV → Option α
  val : α → Value
  h1 : ∀ x, flat (enc x) = some (val x)
  h2 : ∀ (ρ : Ren) (a : AV) (v : Value) (x : α), dec a = some x → Rv ρ a v → v = val x

theorem flats_append : ∀ {as bs : List AV} {xs ys : List Value}, flats as = some xs → flats bs = some ys → flats (as ++ bs) = some (xs ++ ys)
  | [], bs, xs, ys, h, k => by simp [flats] at h; subst h; exact k
  | a :: as, bs, xs, ys, h, k => by
    simp only [flats] at h
    split at h
    · cases h
    · rename_i x hx
      split at h
      · rename_i l hl; simp at h; subst h
        simp only [List.cons_append, flats, hx, flats_append hl k]
      · cases h

/-- One after the other. -/
def CC.prod {α β : Type} (A : CC α) (B : CC β) : CC (α × β) where
  n := A.n + B.n
  enc x := A.enc x.1 ++ B.enc x.2
  dec l := match A.dec (l.take A.n), B.dec (l.drop A.n) with
    | some x, some y => some (x, y)
    | _, _ => none
  val x := A.val x.1 ++ B.val x.2
  len x := by simp [A.len, B.len]
  h1 x := flats_append (A.h1 _) (B.h1 _)
  h2 ρ as vs x h r := by
    split at h
    · rename_i p q hp hq
      simp at h; subst h
      rw [← A.h2 ρ _ _ _ hp (r.take A.n), ← B.h2 ρ _ _ _ hq (r.drop A.n), List.take_append_drop]
    · cases h

/-- A cell of a bool. -/
def cBool : CC Bool where
  n := 1
  enc b := [.v (.bool b)]
  dec l := match l with
    | [a] => boolOf a
    | _ => none
  val b := [.bool b]
  len _ := rfl
  h1 _ := rfl
  h2 ρ as vs x h r := by
    split at h
    · obtain ⟨v, ys, rfl, hv, ht⟩ := r.uncons
      rw [ht.unnil, boolOf_ok hv h]
    · cases h

/-- A cell of a word. -/
def cU : CC (BitVec 64) where
  n := 1
  enc b := [.u b]
  dec l := match l with
    | [a] => toU a
    | _ => none
  val b := [uval b]
  len _ := rfl
  h1 _ := rfl
  h2 ρ as vs x h r := by
    split at h
    · obtain ⟨v, ys, rfl, hv, ht⟩ := r.uncons
      rw [ht.unnil, hv.toU h]
    · cases h

def intOf (k : IntKind) : AV → Option Int
  | .v (.int k' n) => match decide (k' = k) with
    | true => some n
    | false => none
  | _ => none

/-- A cell of an integer of a kind. -/
def cInt (k : IntKind) : CC Int where
  n := 1
  enc b := [.v (.int k b)]
  dec l := match l with
    | [a] => intOf k a
    | _ => none
  val b := [.int k b]
  len _ := rfl
  h1 _ := rfl
  h2 ρ as vs x h r := by
    split at h
    · obtain ⟨v, ys, rfl, hv, ht⟩ := r.uncons
      rename_i a
      unfold intOf at h
      split at h
      · split at h
        · rename_i hk
          have hk := of_decide_eq_true hk
          subst hk
          simp at h; subst h
          cases hv
          rw [ht.unnil]
        · cases h
      · cases h
    · cases h

structure W6 where
  w0 : BitVec 64
  w1 : BitVec 64
  w2 : BitVec 64
  w3 : BitVec 64
  w4 : BitVec 64
  w5 : BitVec 64
  deriving DecidableEq

/-- Six cells of words. -/
def c6 : CC W6 where
  n := 6
  enc x := [.u x.w0, .u x.w1, .u x.w2, .u x.w3, .u x.w4, .u x.w5]
  dec l := match l with
    | [a0, a1, a2, a3, a4, a5] => match toU a0, toU a1, toU a2, toU a3, toU a4, toU a5 with
      | some x0, some x1, some x2, some x3, some x4, some x5 => some ⟨x0, x1, x2, x3, x4, x5⟩
      | _, _, _, _, _, _ => none
    | _ => none
  val x := [uval x.w0, uval x.w1, uval x.w2, uval x.w3, uval x.w4, uval x.w5]
  len _ := rfl
  h1 _ := rfl
  h2 ρ as vs x h r := by
    split at h
    · obtain ⟨v0, y0, rfl, h0, r⟩ := r.uncons
      obtain ⟨v1, y1, rfl, h1, r⟩ := r.uncons
      obtain ⟨v2, y2, rfl, h2, r⟩ := r.uncons
      obtain ⟨v3, y3, rfl, h3, r⟩ := r.uncons
      obtain ⟨v4, y4, rfl, h4, r⟩ := r.uncons
      obtain ⟨v5, y5, rfl, h5, r⟩ := r.uncons
      split at h
      · rename_i e0 e1 e2 e3 e4 e5
        simp at h; subst h
        rw [r.unnil, h0.toU e0, h1.toU e1, h2.toU e2, h3.toU e3, h4.toU e4, h5.toU e5]
      · cases h
    · cases h

/-- A struct or an array of such cells. -/
def CC.agg {α : Type} (A : CC α) : Cod α where
  enc x := .agg (A.enc x)
  dec a := match aggOf a with
    | some l => A.dec l
    | none => none
  val x := .agg (A.val x).toArray
  h1 x := by simp only [flat, A.h1]
  h2 ρ a v x h r := by
    split at h
    · rename_i l hl
      obtain ⟨xs, rfl, hx⟩ := r.aggOf hl
      rw [← A.h2 ρ _ _ _ h hx]
    · cases h

def kBool : Cod Bool where
  enc b := .v (.bool b)
  dec a := boolOf a
  val b := .bool b
  h1 _ := rfl
  h2 _ _ _ _ h r := boolOf_ok r h

def kU : Cod (BitVec 64) where
  enc b := .u b
  dec a := toU a
  val b := uval b
  h1 _ := rfl
  h2 _ _ _ _ h r := r.toU h

/-- A word that is 0 or 1. -/
def kBit : Cod Bool where
  enc b := .bit b
  dec a := match a with
    | .bit b => some b
    | _ => none
  val b := uval (bitW b)
  h1 _ := rfl
  h2 ρ a v x h r := by
    split at h
    · simp at h; subst h; cases r; rfl
    · cases h

def kInt (k : IntKind) : Cod Int where
  enc b := .v (.int k b)
  dec a := intOf k a
  val b := .int k b
  h1 _ := rfl
  h2 ρ a v x h r := by
    have := (cInt k).h2 ρ [a] [v] x h (.cons r .nil)
    simpa [cInt] using this

def tupOf : AV → Option (List AV)
  | .tup l => some l
  | _ => none

/-! A function's specification, by its arguments' codes. -/

def fn1 {α β : Type} (A : Cod α) (B : Cod β) (F : α → β) : List AV → Option (Bool × AV)
  | [a] => match A.dec a with
    | some x => some (true, B.enc (F x))
    | none => none
  | _ => none

def fn2 {α γ β : Type} (A : Cod α) (C : Cod γ) (B : Cod β) (F : α → γ → β) : List AV → Option (Bool × AV)
  | [a, c] => match A.dec a, C.dec c with
    | some x, some y => some (true, B.enc (F x y))
    | _, _ => none
  | _ => none

def fn3 {α γ δ β : Type} (A : Cod α) (C : Cod γ) (D : Cod δ) (B : Cod β) (F : α → γ → δ → β) : List AV → Option (Bool × AV)
  | [a, c, d] => match A.dec a, C.dec c, D.dec d with
    | some x, some y, some z => some (true, B.enc (F x y z))
    | _, _, _ => none
  | _ => none

/-- The answer alone. -/
def afunR (P : Program) (E : Env) (sym : List Tmp) (tab : BTab) (lf : Nat) (f : FuncId) (args : List AV) : Tree AV :=
  (afun P E sym tab lf f args [] 0).bind fun q => .leaf q.1

/-- What all contracts of one program need. -/
structure Ctx (P : Program) (E : Env) (sym : List Tmp) (tab : BTab) (lf f : Nat) : Prop where
  env : EnvOk P E
  mixed : P.follows .mixedOrders = true
  body : ∃ fn c, P.funcs.toList[f]? = some fn ∧ fn.body = some c ∧ codeOk E c = true ∧ TabOk P 0 tab c

theorem pure_core {P : Program} {E : Env} {sym : List Tmp} {tab : BTab} {lf f : Nat} (X : Ctx P E sym tab lf f) {g : List AV → Option (Bool × AV)}
    (h : ∀ as r, g as = some (true, r) → ∃ as' l, (∀ (ρ : Ren) (xs : List Value), Rvs ρ as xs → xs = l) ∧ flatL as' = some l ∧ ∃ y, flat r = some y ∧ (afunR P E sym tab lf f as').holds (fun q => flat q = some y)) : PureOk P f g := by
  obtain ⟨fn, c, hf, hb, hok, htab⟩ := X.body
  intro ρ as xs r hg hx w hgw
  obtain ⟨as', l, h1, h2, y, h3, h4⟩ := h as r hg
  have hxl := h1 ρ xs hx
  subst hxl
  have := afun_calls X.env X.mixed hf hb hok htab (K := fun q _ => flat q = some y) (Tree.holds_bind h4) (F := frameOf w) (ρ := Ren.empty) (xs := xs) (w := w) (Rvs.of_flatL h2) (RW.init w _ hgw) (fun _ _ => rfl)
  refine Calls.mono this ?_
  rintro e w' ⟨v, q, h', ρ', rfl, hk, hrv, hrw, _⟩
  have := hrv.flat_eq hk
  subst this
  exact ⟨v, rfl, .of_flat h3, hrw.to_below⟩

/-- The walk comes to one exact answer. (A structure: nothing looks behind it by itself.) -/
structure Gives (t : Tree AV) (v : Value) : Prop where
  out : t.holds (fun q => flat q = some v)

theorem leafVal {β : Type} {B : Cod β} {y : β} {t : Tree AV} (h : t.strict = .leaf (B.enc y)) : Gives t (B.val y) :=
  ⟨Tree.holds_strict (by rw [h]; exact B.h1 y)⟩

section
variable {P : Program} {E : Env} {sym : List Tmp} {tab : BTab} {lf f : Nat} {α β γ δ : Type} {A : Cod α} {B : Cod β} {C : Cod γ} {D : Cod δ}

theorem pure1 (X : Ctx P E sym tab lf f) {F : α → β} (h : ∀ x, Gives (afunR P E sym tab lf f [A.enc x]) (B.val (F x))) : PureOk P f (fn1 A B F) := by
  refine pure_core X fun as r hg => ?_
  unfold fn1 at hg
  split at hg
  · rename_i a
    split at hg
    · rename_i x hx
      simp at hg; subst hg
      refine ⟨[A.enc x], [A.val x], fun ρ xs hxs => ?_, by simp [flatL, A.h1], _, B.h1 _, (h x).out⟩
      obtain ⟨v, ys, rfl, h1, h2⟩ := hxs.uncons
      rw [h2.unnil, A.h2 ρ _ _ _ hx h1]
    · cases hg
  · cases hg

theorem pure2 (X : Ctx P E sym tab lf f) {F : α → γ → β} (h : ∀ x y, Gives (afunR P E sym tab lf f [A.enc x, C.enc y]) (B.val (F x y))) : PureOk P f (fn2 A C B F) := by
  refine pure_core X fun as r hg => ?_
  unfold fn2 at hg
  split at hg
  · rename_i a c
    split at hg
    · rename_i x y hx hy
      simp at hg; subst hg
      refine ⟨[A.enc x, C.enc y], [A.val x, C.val y], fun ρ xs hxs => ?_, by simp [flatL, A.h1, C.h1], _, B.h1 _, (h x y).out⟩
      obtain ⟨v, ys, rfl, h1, h2⟩ := hxs.uncons
      obtain ⟨u, zs, rfl, h3, h4⟩ := h2.uncons
      rw [h4.unnil, A.h2 ρ _ _ _ hx h1, C.h2 ρ _ _ _ hy h3]
    · cases hg
  · cases hg

theorem pure3 (X : Ctx P E sym tab lf f) {F : α → γ → δ → β} (h : ∀ x y z, Gives (afunR P E sym tab lf f [A.enc x, C.enc y, D.enc z]) (B.val (F x y z))) : PureOk P f (fn3 A C D B F) := by
  refine pure_core X fun as r hg => ?_
  unfold fn3 at hg
  split at hg
  · rename_i a c d
    split at hg
    · rename_i x y z hx hy hz
      simp at hg; subst hg
      refine ⟨[A.enc x, C.enc y, D.enc z], [A.val x, C.val y, D.val z], fun ρ xs hxs => ?_, by simp [flatL, A.h1, C.h1, D.h1], _, B.h1 _, (h x y z).out⟩
      obtain ⟨v, ys, rfl, h1, h2⟩ := hxs.uncons
      obtain ⟨u, zs, rfl, h3, h4⟩ := h2.uncons
      obtain ⟨t, us, rfl, h5, h6⟩ := h4.uncons
      rw [h6.unnil, A.h2 ρ _ _ _ hx h1, C.h2 ρ _ _ _ hy h3, D.h2 ρ _ _ _ hz h5]
    · cases hg
  · cases hg

end

/-- Two results. -/
def kTup {α β : Type} (A : Cod α) (B : Cod β) (hA : ∀ x, flatA (A.enc x) = some (A.val x)) (hB : ∀ x, flatA (B.enc x) = some (B.val x)) : Cod (α × β) where
  enc x := .tup [A.enc x.1, B.enc x.2]
  dec a := match a with
    | .tup [a, b] => match A.dec a, B.dec b with
      | some x, some y => some (x, y)
      | _, _ => none
    | _ => none
  val x := .tuple #[A.val x.1, B.val x.2]
  h1 x := by simp [flat, flatsA, hA, hB]
  h2 ρ a v x h r := by
    split at h
    · split at h
      · rename_i p q hp hq
        simp at h; subst h
        obtain ⟨xs, rfl, hx⟩ := r.tup_iff
        obtain ⟨v0, y0, e0, h0, r0⟩ := hx.uncons
        obtain ⟨v1, y1, e1, h1, r1⟩ := r0.uncons
        have e2 := r1.unnil
        subst e2; subst e1
        rw [A.h2 ρ _ _ _ hp h0, B.h2 ρ _ _ _ hq h1] at e0
        have : xs = #[A.val p, B.val q] := by apply Array.ext'; simpa using e0
        rw [this]
      · cases h
    · cases h

/-! The library's own. -/

/-- math/bits.Add64: the sum, and what is carried. -/
def add64 (x y : BitVec 64) (c : Bool) : BitVec 64 × Bool :=
  (x + y + bitW c, decide (2 ^ 64 ≤ x.toNat + y.toNat + (bif c then 1 else 0)))

def sub64 (x y : BitVec 64) (c : Bool) : BitVec 64 × Bool :=
  (x - y - bitW c, decide (x.toNat < y.toNat + (bif c then 1 else 0)))

def kUB : Cod (BitVec 64 × Bool) := kTup kU kBit (fun _ => rfl) (fun _ => rfl)

theorem bitW_toNat (c : Bool) : (bitW c).toNat = bif c then 1 else 0 := by cases c <;> rfl

theorem three_run {P : Program} (nm : String) (x y : BitVec 64) (z : Bool) (w : World) :
    (Extern.MathBitsCarry.three nm #[uval x, uval y, uval (bitW z)]).run P w = .ok (x.toNat, y.toNat, (bitW z).toNat) w := by
  cases z <;> rfl

theorem add64_pair (x y : BitVec 64) (z : Bool) :
    Extern.MathBitsCarry.pair ((x.toNat + y.toNat + (bitW z).toNat) % Extern.MathBitsCarry.m64) ((x.toNat + y.toNat + (bitW z).toNat) / Extern.MathBitsCarry.m64) = kUB.val (add64 x y z) := by
  have hx64 := x.isLt
  have hy64 := y.isLt
  have hzb : (bitW z).toNat ≤ 1 := by cases z <;> decide
  have e1 : (x.toNat + y.toNat + (bitW z).toNat) % Extern.MathBitsCarry.m64 = (x + y + bitW z).toNat := by
    simp [Extern.MathBitsCarry.m64, BitVec.toNat_add]
  have e2 : (x.toNat + y.toNat + (bitW z).toNat) / Extern.MathBitsCarry.m64 = (bitW (decide (2 ^ 64 ≤ x.toNat + y.toNat + (bif z then 1 else 0)))).toNat := by
    rw [bitW_toNat, bitW_toNat]
    rw [bitW_toNat] at hzb
    simp only [Extern.MathBitsCarry.m64]
    by_cases hh : 2 ^ 64 ≤ x.toNat + y.toNat + (bif z then 1 else 0)
    · simp only [hh, decide_true, cond_true]; omega
    · simp only [hh, decide_false, cond_false]; omega
  rw [e1, e2]
  rfl

theorem sub64_pair (x y : BitVec 64) (z : Bool) :
    Extern.MathBitsCarry.pair ((x.toNat + Extern.MathBitsCarry.m64 - y.toNat - (bitW z).toNat) % Extern.MathBitsCarry.m64) (if x.toNat < y.toNat + (bitW z).toNat then 1 else 0) = kUB.val (sub64 x y z) := by
  have hx64 := x.isLt
  have hy64 := y.isLt
  have hzb : (bitW z).toNat ≤ 1 := by cases z <;> decide
  have e1 : (x.toNat + Extern.MathBitsCarry.m64 - y.toNat - (bitW z).toNat) % Extern.MathBitsCarry.m64 = (x - y - bitW z).toNat := by
    simp only [Extern.MathBitsCarry.m64, BitVec.toNat_sub]; omega
  have e2 : (if x.toNat < y.toNat + (bitW z).toNat then 1 else 0) = (bitW (decide (x.toNat < y.toNat + (bif z then 1 else 0)))).toNat := by
    rw [bitW_toNat, bitW_toNat]
    by_cases hh : x.toNat < y.toNat + (bif z then 1 else 0)
    · simp only [hh, decide_true, cond_true, if_true]
    · simp only [hh, decide_false, cond_false, if_false]
  rw [e1, e2]
  rfl

theorem ext3 {P : Program} {f : FuncId} {fn : Func} (hf : P.funcs.toList[f]? = some fn) (h1 : (fn.name == "runtime.NumGoroutine") = false) (h2 : fn.body.isNone = true) (h3 : (Extern.findNext fn).isNone = true)
    {r : Array Value → Sem Value} (h4 : Extern.find fn = some r) {α β γ δ : Type} {A : Cod α} {B : Cod β} {C : Cod γ} {D : Cod δ} {F : α → γ → δ → β}
    (h : ∀ x y z w, (r #[A.val x, C.val y, D.val z]).run P w = .ok (B.val (F x y z)) w) : ExtOk P f (fn3 A C D B F) := by
  intro ρ as xs q hg hx w
  unfold fn3 at hg
  split at hg
  · rename_i a c d
    split at hg
    · rename_i x y z hx' hy hz
      simp at hg; subst hg
      obtain ⟨v, ys, rfl, h1', h2'⟩ := hx.uncons
      obtain ⟨u, zs, rfl, h3', h4'⟩ := h2'.uncons
      obtain ⟨t, us, rfl, h5', h6'⟩ := h4'.uncons
      rw [h6'.unnil, A.h2 ρ _ _ _ hx' h1', C.h2 ρ _ _ _ hy h3', D.h2 ρ _ _ _ hz h5']
      refine ⟨B.val (F x y z), ?_, .of_flat (B.h1 _)⟩
      have hf' : P.funcs[f]? = some fn := by simpa using hf
      have hnext : Extern.findNext fn = none := by simpa using h3
      have hr := h x y z w
      simp only [callFunc, Sem.run_bind, run_program, Result.andThen_ok, hf', h1, h2, hnext, h4, Sem.run_ite]
      simp only [hr, Bool.false_eq_true, if_false, if_true, run_mark, Result.andThen_ok, Sem.run_pure]
    · cases hg
  · cases hg

def add64Row : Array Value → Sem Value := fun args => do
    let (x, y, c) ← Extern.MathBitsCarry.three "Add64" args
    pure (Extern.MathBitsCarry.pair ((x + y + c) % Extern.MathBitsCarry.m64) ((x + y + c) / Extern.MathBitsCarry.m64))

def sub64Row : Array Value → Sem Value := fun args => do
    let (x, y, b) ← Extern.MathBitsCarry.three "Sub64" args
    pure (Extern.MathBitsCarry.pair ((x + Extern.MathBitsCarry.m64 - y - b) % Extern.MathBitsCarry.m64) (if x < y + b then 1 else 0))

theorem add64_run {P : Program} (x y : BitVec 64) (z : Bool) (w : World) : (add64Row #[kU.val x, kU.val y, kBit.val z]).run P w = .ok (kUB.val (add64 x y z)) w := by
  have := three_run (P := P) "Add64" x y z w
  rw [← add64_pair]
  simp only [add64Row, kU, kBit, Sem.run_bind, this, Result.andThen_ok]
  rfl

theorem sub64_run {P : Program} (x y : BitVec 64) (z : Bool) (w : World) : (sub64Row #[kU.val x, kU.val y, kBit.val z]).run P w = .ok (kUB.val (sub64 x y z)) w := by
  have := three_run (P := P) "Sub64" x y z w
  rw [← sub64_pair]
  simp only [sub64Row, kU, kBit, Sem.run_bind, this, Result.andThen_ok]
  rfl

end Go.Rq

/- What the functions on words reckon, as plain functions. -/
namespace Go.Rq
open Go

def mul64 (x y : BitVec 64) : BitVec 64 × BitVec 64 := (BitVec.ofNat 64 (x.toNat * y.toNat / 2 ^ 64), x * y)

/-- The product as the library reckons it, by halves. -/
def mulGo (x y : BitVec 64) : BitVec 64 × BitVec 64 :=
  let x0 := x &&& 4294967295#64
  let x1 := x >>> 32
  let y0 := y &&& 4294967295#64
  let y1 := y >>> 32
  let w0 := x0 * y0
  let t := x1 * y0 + w0 >>> 32
  let w1 := (t &&& 4294967295#64) + x0 * y1
  let w2 := t >>> 32
  (x1 * y1 + w2 + w1 >>> 32, x * y)

theorem mask32 (x : BitVec 64) : (x &&& 4294967295#64).toNat = x.toNat % 4294967296 := by
  rw [BitVec.toNat_and]
  exact Nat.and_two_pow_sub_one_eq_mod x.toNat 32

theorem high32 (x : BitVec 64) : (x >>> 32).toNat = x.toNat / 4294967296 := by
  rw [BitVec.toNat_ushiftRight, Nat.shiftRight_eq_div_pow]

theorem halves_hi (x0 x1 y0 y1 : Nat) (hx0 : x0 < 4294967296) (hx1 : x1 < 4294967296) (hy0 : y0 < 4294967296) (hy1 : y1 < 4294967296) :
    (x1 * y1 + (x1 * y0 + x0 * y0 / 4294967296) / 4294967296 + ((x1 * y0 + x0 * y0 / 4294967296) % 4294967296 + x0 * y1) / 4294967296) = (x1 * 4294967296 + x0) * (y1 * 4294967296 + y0) / 18446744073709551616 ∧
    x1 * y0 + x0 * y0 / 4294967296 < 18446744073709551616 ∧ (x1 * y0 + x0 * y0 / 4294967296) % 4294967296 + x0 * y1 < 18446744073709551616 ∧ x0 * y0 < 18446744073709551616 ∧ x1 * y1 < 18446744073709551616 ∧ x1 * y0 < 18446744073709551616 ∧ x0 * y1 < 18446744073709551616 ∧
    (x1 * 4294967296 + x0) * (y1 * 4294967296 + y0) / 18446744073709551616 < 18446744073709551616 := by
  have b : ∀ a b : Nat, a < 4294967296 → b < 4294967296 → a * b ≤ 4294967295 * 4294967295 := fun a b h1 h2 => Nat.mul_le_mul (by omega) (by omega)
  have e : (x1 * 4294967296 + x0) * (y1 * 4294967296 + y0) = (x1 * y1) * 18446744073709551616 + (x1 * y0 + x0 * y1) * 4294967296 + x0 * y0 := by
    simp only [Nat.add_mul, Nat.mul_add]
    rw [show x1 * 4294967296 * (y1 * 4294967296) = x1 * y1 * 18446744073709551616 by
      rw [show (18446744073709551616 : Nat) = 4294967296 * 4294967296 from rfl, Nat.mul_mul_mul_comm]]
    rw [Nat.mul_right_comm x1 4294967296 y0, show x0 * (y1 * 4294967296) = x0 * y1 * 4294967296 from (Nat.mul_assoc _ _ _).symm]
    omega
  rw [e]
  have b00 := b x0 y0 hx0 hy0
  have b10 := b x1 y0 hx1 hy0
  have b01 := b x0 y1 hx0 hy1
  have b11 := b x1 y1 hx1 hy1
  generalize x0 * y0 = p00 at *
  generalize x1 * y0 = p10 at *
  generalize x0 * y1 = p01 at *
  generalize x1 * y1 = p11 at *
  refine ⟨?_, ?_, ?_, ?_, ?_, ?_, ?_, ?_⟩ <;> omega

theorem mulGo_eq (x y : BitVec 64) : mulGo x y = mul64 x y := by
  have hx : x.toNat < 18446744073709551616 := x.isLt
  have hy : y.toNat < 18446744073709551616 := y.isLt
  have m0 : ∀ n : Nat, n % 4294967296 < 4294967296 := fun n => Nat.mod_lt n (Nat.zero_lt_succ _)
  have d0 : ∀ n : Nat, n < 18446744073709551616 → n / 4294967296 < 4294967296 := fun n h => Nat.div_lt_of_lt_mul h
  obtain ⟨h1, h2, h3, h4, h5, h6, h7, h8⟩ := halves_hi (x.toNat % 4294967296) (x.toNat / 4294967296) (y.toNat % 4294967296) (y.toNat / 4294967296) (m0 _) (d0 _ hx) (m0 _) (d0 _ hy)
  have ex : x.toNat / 4294967296 * 4294967296 + x.toNat % 4294967296 = x.toNat := Nat.div_add_mod' _ _
  have ey : y.toNat / 4294967296 * 4294967296 + y.toNat % 4294967296 = y.toNat := Nat.div_add_mod' _ _
  rw [ex, ey] at h1 h8
  unfold mulGo mul64
  refine Prod.ext ?_ rfl
  apply BitVec.eq_of_toNat_eq
  have e64 : (2 : Nat) ^ 64 = 18446744073709551616 := rfl
  simp only [BitVec.toNat_add, BitVec.toNat_mul, mask32, high32, BitVec.toNat_ofNat, e64]
  rw [← h1]
  rw [← h1] at h8
  revert h2 h3 h4 h5 h6 h7 h8
  generalize x.toNat / 4294967296 * (y.toNat / 4294967296) = p11
  generalize x.toNat / 4294967296 * (y.toNat % 4294967296) = p10
  generalize x.toNat % 4294967296 * (y.toNat / 4294967296) = p01
  generalize x.toNat % 4294967296 * (y.toNat % 4294967296) = p00
  intro h2 h3 h4 h5 h6 h7 h8
  rw [Nat.mod_eq_of_lt h5, Nat.mod_eq_of_lt h4, Nat.mod_eq_of_lt h6, Nat.mod_eq_of_lt h7, Nat.mod_eq_of_lt h2, Nat.mod_eq_of_lt h3]
  omega

/-- What a field's operations come to, left open. -/
structure FO (K : Type) where
  add : K → K → K
  sub : K → K → K
  mul : K → K → K
  neg : K → K
  inv : K → K
  to : K → K
  back : K → K
  one : K
  zero : K

section
variable (o : FO W6)
end

end Go.Rq

/- Loops whose rounds are told by data; functions behind a pointer; functions gone through where they are called. -/
namespace Go.Rq
open Go

instance : Inhabited XS := ⟨⟨⟨[], [], true⟩, 0⟩⟩

def XS.setT (x : XS) (i : Nat) (a : AV) : XS := ⟨⟨x.s.tm.set i a, x.s.h, x.s.ok⟩, x.n⟩

def setH : AH → Nat → List AV → AH
  | [], _, _ => []
  | (i, b) :: t, id, cs => bif Nat.beq i id then (match b with
    | some B => (i, some ⟨B.wr, B.ty, cs⟩) :: t
    | none => (i, b) :: t) else (i, b) :: setH t id cs

def XS.setB (x : XS) (id : Nat) (cs : List AV) : XS := ⟨⟨x.s.tm, setH x.s.h id cs, x.s.ok⟩, x.n⟩

/-- What is kept at a round's head: slots, blocks, the next block's name; and behind a return. -/
structure Keep where
  tm : List Tmp
  ids : List Nat
  n : Nat

def trimK (k : Keep) (e : AExit) (y : XS) : Tree (AExit × XS) :=
  match trim k.tm k.ids k.n y with
  | some z => .need (allBlt k.n k.ids) (.leaf (e, z))
  | none => .fail

/-- One round: what is not kept is forgotten. -/
def roundT (P : Program) (E : Env) (sym : List Tmp) (tab : BTab) (lf : Nat) (k kx kr : Keep) (c : Code) (x : XS) : Tree (AExit × XS) :=
  (exec P E sym tab lf c x).bind fun (e, y) => match e with
    | .normal => trimK k e y
    | .exit _ => trimK kx e y
    | .ret => trimK kr e y

theorem trimK_sim {F : Fr} {ds : List Deferred} {ρ : Ren} {k : Keep} {e : AExit} {x : XS} {a : Act} {w : World} {m : Nat} {K : AExit × XS → Prop} (hs : Sim F ds ρ x.s a w) (hm : m ≤ k.n) (h : (trimK k e x).holds K) :
    ∃ z ρ', K (e, z) ∧ Sim F ds ρ' z.s a w ∧ m ≤ z.n ∧ (∀ id, z.n ≤ id → ρ' id = none) ∧ (∀ id, id < m → Ren.eqAt ρ' ρ id) := by
  unfold trimK at h
  split at h
  · rename_i z hz
    obtain ⟨ρ', h1, h2, h3, h4⟩ := trim_sim (m := m) hs hz (allBlt_spec h.1) hm
    exact ⟨z, ρ', h.2, h1, h2, h3, h4⟩
  · exact h.elim

theorem round_sound {P : Program} {E : Env} (hE : EnvOk P E) (hm : P.follows .mixedOrders = true) {F : Fr} {ds : List Deferred} {m : Nat} {sym : List Tmp} {tab : BTab} {lf : Nat} {k kx kr : Keep} (h1 : m ≤ k.n) (h2 : m ≤ kx.n) (h3 : m ≤ kr.n)
    {c : Code} {x : XS} {K : AExit → XS → Prop} (hok : codeOk E c = true) (htab : TabOk P m tab c) (h : (roundT P E sym tab lf k kx kr c x).holds (fun r => K r.1 r.2)) : Tri P F ds m c x K := by
  intro ρ a w hs hmx hf
  have main := exec_sound hE hm (F := F) (ds := ds) (m := m) c x
    (fun e y => Tree.holds (fun r : AExit × XS => K r.1 r.2) (match e with
      | .normal => trimK k e y
      | .exit _ => trimK kx e y
      | .ret => trimK kr e y)) hok htab (Tree.holds_mono (fun _ q => q) (Tree.holds_bind h)) ρ a w hs hmx hf
  refine wp_mono main ?_
  rintro e a' w' ⟨e', y, ρ', hk, he, hs', hm', hf', hp'⟩
  have fin : ∀ kk : Keep, m ≤ kk.n → (trimK kk e' y).holds (fun r => K r.1 r.2) → ∃ e2 z ρ2, K e2 z ∧ e2.is e ∧ Sim F ds ρ2 z.s a' w' ∧ m ≤ z.n ∧ (∀ id, z.n ≤ id → ρ2 id = none) ∧ (∀ id, id < m → Ren.eqAt ρ2 ρ id) := by
    intro kk hkk hh
    obtain ⟨z, ρ2, g1, g2, g3, g4, g5⟩ := trimK_sim (m := m) hs' hkk hh
    exact ⟨e', z, ρ2, g1, he, g2, g3, g4, fun id hlt => (g5 id hlt).trans (hp' id hlt)⟩
  cases e' with
  | normal => exact fin k h1 hk
  | exit i => exact fin kx h2 hk
  | ret => exact fin kr h3 hk

/-- A loop in a block: what holds ahead of each round is told by data. -/
theorem blockLoop {P : Program} {E : Env} (hE : EnvOk P E) (hm : P.follows .mixedOrders = true) {F : Fr} {ds : List Deferred} {m id : Nat} {sym : List Tmp} {tab : BTab} {lf : Nat} {k kx kr : Keep} (h1 : m ≤ k.n) (h2 : m ≤ kx.n) (h3 : m ≤ kr.n)
    {c : Code} {K : AExit → XS → Prop} (hok : codeOk E c = true) (htab : TabOk P m tab c) {α : Type} (I : α → XS) (R : α → Prop) (μ : α → Nat) (i0 : α) (hR : R i0)
    (h : ∀ i, R i → (roundT P E sym tab lf k kx kr c (I i)).holds (fun r => match r.1 with
      | .normal => ∃ j, R j ∧ μ j < μ i ∧ r.2 = I j
      | .exit q => if q = id then K .normal r.2 else K (.exit q) r.2
      | .ret => K .ret r.2)) : Tri P F ds m (.block id (.loop c)) (I i0) K := by
  refine Tri.block (Tri.loop (F := F) I R μ i0 rfl hR fun i hi => ?_)
  refine (round_sound hE hm h1 h2 h3 hok htab (K := fun e y => match e with
      | .normal => ∃ j, R j ∧ μ j < μ i ∧ y = I j
      | .exit q => if q = id then K .normal y else K (.exit q) y
      | .ret => K .ret y) (h i hi)).mono ?_
  intro e y hy
  cases e <;> exact hy

/-- The state at a block's head. -/
def reach (P : Program) (E : Env) (sym : List Tmp) (tab : BTab) (lf : Nat) (target : Nat) : Code → XS → Tree (Bool × AExit × XS)
  | .seq a b, x => (reach P E sym tab lf target a x).bind fun r => match r with
    | (true, e, y) => .leaf (true, e, y)
    | (false, .normal, y) => reach P E sym tab lf target b y
    | (false, e, y) => .leaf (false, e, y)
  | .cond c a b, x => match boolOf (look x.s.tm c) with
    | some true => reach P E sym tab lf target a x
    | some false => reach P E sym tab lf target b x
    | none => .fail
  | .block id c, x => bif Nat.beq id target then .leaf (true, .normal, x) else match tab id with
    | some b => b.post.bind fun (e, y) => .leaf (false, e, y)
    | none => (reach P E sym tab lf target c x).bind fun r => match r with
      | (false, .exit i, y) => bif Nat.beq i id then .leaf (false, .normal, y) else .leaf (false, .exit i, y)
      | r => .leaf r
  | .loop c, x => reach P E sym tab lf target c x
  | c, x => (exec P E sym tab lf c x).bind fun (e, y) => .leaf (false, e, y)

def firstT : Tree (Bool × AExit × XS) → Option XS
  | .leaf (true, _, x) => some x
  | .leaf (false, _, _) => none
  | .br _ t f => match firstT t with
    | some x => some x
    | none => firstT f
  | .need _ t => firstT t
  | .same _ _ t => firstT t
  | .fail => none

def bodyOf (P : Program) (f : Nat) : Code := match P.funcs.toList[f]? with
  | some fn => match fn.body with
    | some c => c
    | none => .skip
  | none => .skip

def ntmpsOf (P : Program) (f : Nat) : Nat := match P.funcs.toList[f]? with
  | some fn => fn.ntmps
  | none => 0

/-- The state at the head of a block of a function's body, as far as it is kept. -/
def entryOf (P : Program) (E : Env) (sym : List Tmp) (tab : BTab) (lf : Nat) (f : Nat) (args : List AV) (h : AH) (n : Nat) (target : Nat) (k : Keep) : XS :=
  match firstT (reach P E sym tab lf target (bodyOf P f) ⟨⟨args ++ undefs (ntmpsOf P f - args.length), h, true⟩, n⟩) with
  | some x => match trim k.tm k.ids k.n x with
    | some y => y
    | none => default
  | none => default

/-- The piece of code that a block holds. -/
def blockIn (id : Nat) : Code → Option Code
  | .seq a b => match blockIn id a with
    | some c => some c
    | none => blockIn id b
  | .cond _ a b => match blockIn id a with
    | some c => some c
    | none => blockIn id b
  | .block i c => bif Nat.beq i id then some c else blockIn id c
  | .loop c => blockIn id c
  | _ => none

/-- The round of the loop in a block of a function's body. -/
def roundOf (P : Program) (f id : Nat) : Code := match blockIn id (bodyOf P f) with
  | some (.loop c) => c
  | _ => .skip

def tabOf : List (Nat × BEnt) → BTab
  | [], _ => none
  | (i, b) :: t, id => bif Nat.beq i id then some b else tabOf t id

theorem ctx_of {P : Program} {E : Env} {sym : List Tmp} {tab : BTab} {lf f : Nat} (hE : EnvOk P E) (hm : P.follows .mixedOrders = true) {fn : Func} (hf : P.funcs.toList[f]? = some fn) (hb : fn.body = some (bodyOf P f)) (hok : codeOk E (bodyOf P f) = true)
    (htab : TabOk P 0 tab (bodyOf P f)) : Ctx P E sym tab lf f := ⟨hE, hm, fn, _, hf, hb, hok, htab⟩

theorem tabOk_none {P : Program} {m : Nat} : ∀ c : Code, TabOk P m (fun _ => none) c := by
  intro c
  induction c with
  | seq a b ha hb => exact ⟨ha, hb⟩
  | cond c a b ha hb => exact ⟨ha, hb⟩
  | block id c ih => exact ih
  | loop c ih => exact ih
  | _ => trivial

/-! Called functions, gone through where they are called: at exact values. -/

def strip : Tree AV → Option AV
  | .leaf a => some a
  | .need true t => strip t
  | _ => none

def allFlat (as : List AV) : Bool := match flatL as with
  | some _ => true
  | none => false

def isFlat (a : AV) : Bool := match flat a with
  | some _ => true
  | none => false

/-- A function gone through where it is called: it must come to one exact answer. -/
def inlineG (P : Program) (E : Env) (sym : List Tmp) (lf f : Nat) (as : List AV) : Option (Bool × AV) :=
  match allFlat as with
  | true => match strip (afunR P E sym (fun _ => none) lf f as).strict with
    | some r => match isFlat r with
      | true => some (true, r)
      | false => none
    | none => none
  | false => none

theorem strip_holds : ∀ {t : Tree AV} {r : AV}, strip t = some r → t.holds (fun q => q = r)
  | .leaf a, r, h => by simp [strip] at h; exact h
  | .need true t, r, h => by simp only [strip] at h; exact ⟨rfl, strip_holds h⟩
  | .need false t, r, h => by simp [strip] at h
  | .br _ _ _, r, h => by simp [strip] at h
  | .same _ _ _, r, h => by simp [strip] at h
  | .fail, r, h => by simp [strip] at h

theorem inline_ok {P : Program} {E : Env} {sym : List Tmp} {lf f : Nat} (X : Ctx P E sym (fun _ => none) lf f) : PureOk P f (inlineG P E sym lf f) := by
  refine pure_core X fun as r hg => ?_
  unfold inlineG at hg
  split at hg
  · rename_i hfl
    split at hg
    · rename_i q hq
      split at hg
      · rename_i hfr
        simp at hg; subst hg
        unfold allFlat at hfl
        split at hfl
        · rename_i l hl
          unfold isFlat at hfr
          split at hfr
          · rename_i y hy
            exact ⟨as, l, fun ρ xs hx => hx.flatL_eq hl, hl, y, hy, Tree.holds_strict (Tree.holds_mono (fun a h => by rw [h]; exact hy) (strip_holds hq))⟩
          · cases hfr
        · cases hfl
      · cases hg
    · cases hg
  · cases hg

end Go.Rq

/- Loops whose heads depend on the arguments; tables of blocks. -/
namespace Go.Rq
open Go

/-- All pieces of code that blocks of one name hold. -/
def blkAll (id : Nat) : Code → List Code
  | .seq a b => blkAll id a ++ blkAll id b
  | .cond _ a b => blkAll id a ++ blkAll id b
  | .block i c => bif Nat.beq i id then c :: blkAll id c else blkAll id c
  | .loop c => blkAll id c
  | _ => []

theorem tabOk_of {P : Program} {m : Nat} {tab : BTab} : ∀ {c : Code}, (∀ id b, tab id = some b → m ≤ b.n ∧ ∀ q ∈ blkAll id c, ∀ F ds K, b.post.holds (fun r => K r.1 r.2) → Tri P F ds m (.block id q) b.pre K) → TabOk P m tab c := by
  intro c
  induction c with
  | seq a b ha hb =>
    intro h
    exact ⟨ha fun id e he => ⟨(h id e he).1, fun q hq => (h id e he).2 q (List.mem_append_left _ hq)⟩, hb fun id e he => ⟨(h id e he).1, fun q hq => (h id e he).2 q (List.mem_append_right _ hq)⟩⟩
  | cond c a b ha hb =>
    intro h
    exact ⟨ha fun id e he => ⟨(h id e he).1, fun q hq => (h id e he).2 q (List.mem_append_left _ hq)⟩, hb fun id e he => ⟨(h id e he).1, fun q hq => (h id e he).2 q (List.mem_append_right _ hq)⟩⟩
  | block i c ih =>
    intro h
    simp only [TabOk]
    split
    · rename_i b hb
      refine ⟨(h i b hb).1, fun F ds K hk => (h i b hb).2 c ?_ F ds K hk⟩
      simp [blkAll, Nat.beq_refl]
    · refine ih fun id e he => ⟨(h id e he).1, fun q hq => (h id e he).2 q ?_⟩
      simp only [blkAll]
      cases Nat.beq i id with
      | true => exact List.mem_cons_of_mem _ hq
      | false => exact hq
  | loop c ih => intro h; exact ih h
  | _ => intro _; trivial

/-- A table of one block. -/
theorem tabOk_one {P : Program} {m id : Nat} {b : BEnt} {c q : Code} (hn : m ≤ b.n) (hc : blkAll id c = [q]) (h : ∀ F ds K, b.post.holds (fun r => K r.1 r.2) → Tri P F ds m (.block id q) b.pre K) : TabOk P m (tabOf [(id, b)]) c := by
  refine tabOk_of fun i e he => ?_
  simp only [tabOf] at he
  cases hb : Nat.beq id i with
  | true =>
    rw [hb] at he
    simp at he; subst he
    obtain rfl := Nat.eq_of_beq_eq_true hb
    refine ⟨hn, fun q' hq => ?_⟩
    rw [hc] at hq
    simp at hq; subst hq
    exact h
  | false => rw [hb] at he; simp at he

/-- A context made for one list of arguments. -/
structure GivesX (P : Program) (f : Nat) (as : List AV) (v : Value) : Prop where
  out : ∃ E sym tab lf, Ctx P E sym tab lf f ∧ (afunR P E sym tab lf f as).holds (fun q => flat q = some v)

theorem GivesX.of {P : Program} {E : Env} {sym : List Tmp} {tab : BTab} {lf f : Nat} {as : List AV} {v : Value} (X : Ctx P E sym tab lf f) (h : Gives (afunR P E sym tab lf f as) v) : GivesX P f as v := ⟨E, sym, tab, lf, X, h.out⟩

theorem pure_coreX {P : Program} {f : Nat} {g : List AV → Option (Bool × AV)}
    (h : ∀ as r, g as = some (true, r) → ∃ as' l, (∀ (ρ : Ren) (xs : List Value), Rvs ρ as xs → xs = l) ∧ flatL as' = some l ∧ ∃ y, flat r = some y ∧ GivesX P f as' y) : PureOk P f g := by
  intro ρ as xs r hg hx w hgw
  obtain ⟨as', l, h1, h2, y, h3, E, sym, tab, lf, X, h4⟩ := h as r hg
  obtain ⟨fn, c, hf, hb, hok, htab⟩ := X.body
  have hxl := h1 ρ xs hx
  subst hxl
  have := afun_calls X.env X.mixed hf hb hok htab (K := fun q _ => flat q = some y) (Tree.holds_bind h4) (F := frameOf w) (ρ := Ren.empty) (xs := xs) (w := w) (Rvs.of_flatL h2) (RW.init w _ hgw) (fun _ _ => rfl)
  refine Calls.mono this ?_
  rintro e w' ⟨v, q, h', ρ', rfl, hk, hrv, hrw, _⟩
  have := hrv.flat_eq hk
  subst this
  exact ⟨v, rfl, .of_flat h3, hrw.to_below⟩

theorem sameVal {β : Type} {B : Cod β} {y : β} {x : XS} {t : Tree AV} (h : t.strict = .same x x (.leaf (B.enc y))) : Gives t (B.val y) :=
  ⟨Tree.holds_strict (by rw [h]; exact ⟨rfl, B.h1 y⟩)⟩

section
variable {P : Program} {f : Nat} {α β γ δ : Type} {A : Cod α} {B : Cod β} {C : Cod γ} {D : Cod δ}

end
end Go.Rq

/- Rows of the library with two arguments; strings and bytes. -/
namespace Go.Rq
open Go

/-- A tree of answers, all of them exact. -/
theorem treeVal {β : Type} {B : Cod β} {y : β} {t u : Tree AV} (h : t.strict = u) (hu : u.holds (fun q => q = B.enc y)) : Gives t (B.val y) :=
  ⟨Tree.holds_strict (by rw [h]; exact Tree.holds_mono (fun a ha => by rw [ha]; exact B.h1 y) hu)⟩

/-- A chain of questions, each with its answer. -/
def chain {β : Type} (B : Cod β) : List (Bool × β) → β → Tree AV
  | [], y => .leaf (B.enc y)
  | (c, x) :: t, y => .br c (.leaf (B.enc x)) (chain B t y)

def chainV {β : Type} : List (Bool × β) → β → β
  | [], y => y
  | (c, x) :: t, y => bif c then x else chainV t y

theorem chain_holds {β : Type} (B : Cod β) : ∀ (l : List (Bool × β)) (y : β), (chain B l y).holds (fun q => q = B.enc (chainV l y))
  | [], _ => rfl
  | (c, x) :: t, y => ⟨fun h => by simp only [chainV, h, cond_true]; rfl, fun h => by simp only [chainV, h, cond_false]; exact chain_holds B t y⟩

theorem chainVal {β : Type} {B : Cod β} {l : List (Bool × β)} {y : β} {t : Tree AV} (h : t.strict = chain B l y) : Gives t (B.val (chainV l y)) := treeVal h (chain_holds B l y)

end Go.Rq

/- Codecs for records: functions' values, points. -/
namespace Go.Rq
open Go

/-! What the curve's functions reckon, the field left open. -/
section
variable {K : Type} (o : FO K)

end

theorem givesOf {t u : Tree AV} {v : Value} (h : t.strict = u) (hu : u.holds (fun q => flat q = some v)) : Gives t v := ⟨Tree.holds_strict (by rw [h]; exact hu)⟩

theorem holds_leaf {a : AV} {v : Value} (h : flat a = some v) : (Tree.leaf a).holds (fun q => flat q = some v) := h

theorem holds_br {β : Type} {B : Cod β} {x y : β} {c : Bool} {t f : Tree AV} (h1 : t.holds (fun q => flat q = some (B.val x))) (h2 : f.holds (fun q => flat q = some (B.val y))) :
    (Tree.br c t f).holds (fun q => flat q = some (B.val (bif c then x else y))) :=
  ⟨fun h => by rw [h]; exact h1, fun h => by rw [h]; exact h2⟩

section
variable {K : Type} (o : FO K) (eq : K → K → Bool)

end

theorem pure3X {P : Program} {f : Nat} {α β γ δ : Type} {A : Cod α} {B : Cod β} {C : Cod γ} {D : Cod δ} {F : α → γ → δ → β} (h : ∀ x y z, GivesX P f [A.enc x, C.enc y, D.enc z] (B.val (F x y z))) : PureOk P f (fn3 A C D B F) := by
  refine pure_coreX fun as r hg => ?_
  unfold fn3 at hg
  split at hg
  · rename_i a c d
    split at hg
    · rename_i x y z hx hy hz
      simp at hg; subst hg
      refine ⟨[A.enc x, C.enc y, D.enc z], [A.val x, C.val y, D.val z], fun ρ xs hxs => ?_, by simp [flatL, A.h1, C.h1, D.h1], _, B.h1 _, h x y z⟩
      obtain ⟨v, ys, rfl, h1, h2⟩ := hxs.uncons
      obtain ⟨u, zs, rfl, h3, h4⟩ := h2.uncons
      obtain ⟨w, us, rfl, h5, h6⟩ := h4.uncons
      rw [h6.unnil, A.h2 ρ _ _ _ hx h1, C.h2 ρ _ _ _ hy h3, D.h2 ρ _ _ _ hz h5]
    · cases hg
  · cases hg

end Go.Rq

/- Functions that only read the blocks that they are handed, gone through where they are called. -/
namespace Go.Rq
open Go

theorem Rvs.ids_ne {ρ : Ren} {z : Nat} (hz : ρ z = none) : ∀ {as : List AV} {xs : List Value}, Rvs ρ as xs → ∀ i ∈ idsOf as, i ≠ z
  | [], xs, _, i, hi => by simp [idsOf] at hi
  | a :: t, xs, h, i, hi => by
    obtain ⟨x, ys, rfl, hx, ht⟩ := h.uncons
    simp only [idsOf] at hi
    split at hi
    · cases hx with
      | ptr hb =>
        rcases List.mem_cons.1 hi with rfl | hi
        · intro e; subst e; rw [hz] at hb; cases hb
        · exact ht.ids_ne hz i hi
    · cases hx with
      | slc hb =>
        rcases List.mem_cons.1 hi with rfl | hi
        · intro e; subst e; rw [hz] at hb; cases hb
        · exact ht.ids_ne hz i hi
    · cases hx with
      | own hb _ _ _ =>
        rcases List.mem_cons.1 hi with rfl | hi
        · intro e; subst e; rw [hz] at hb; cases hb
        · exact ht.ids_ne hz i hi
      | ownE hb _ =>
        rcases List.mem_cons.1 hi with rfl | hi
        · intro e; subst e; rw [hz] at hb; cases hb
        · exact ht.ids_ne hz i hi
    · exact ht.ids_ne hz i hi

abbrev HeapTab := List (FuncId × (List AV → AH → Option (Bool × AV × AH)))

def lookHT : HeapTab → FuncId → Option (List AV → AH → Option (Bool × AV × AH))
  | [], _ => none
  | (f, g) :: t, k => bif Nat.beq f k then some g else lookHT t k

theorem lookHT_mem : ∀ {ps : HeapTab} {f : FuncId} {g}, lookHT ps f = some g → (f, g) ∈ ps
  | [], f, g, h => by simp [lookHT] at h
  | (k, q) :: t, f, g, h => by
    simp only [lookHT] at h
    cases hb : Nat.beq k f with
    | true => rw [hb] at h; simp at h; subst h; rw [Nat.eq_of_beq_eq_true hb]; simp
    | false => rw [hb] at h; exact List.mem_cons_of_mem _ (lookHT_mem h)

def TabHOk (P : Program) (ps : HeapTab) : Prop := ∀ p ∈ ps, Enters P p.1 ∧ HeapOk P p.1 p.2

theorem TabHOk.nil {P : Program} : TabHOk P [] := fun p h => by simp at h
theorem TabHOk.cons {P : Program} {f : FuncId} {g : List AV → AH → Option (Bool × AV × AH)} {t : HeapTab} (h1 : Enters P f) (h : HeapOk P f g) (r : TabHOk P t) : TabHOk P ((f, g) :: t) := by
  intro p hp
  rcases List.mem_cons.1 hp with rfl | hp
  · exact ⟨h1, h⟩
  · exact r p hp

end Go.Rq

/- Contracts at listed values; contracts of functions that read slices. -/
namespace Go.Rq
open Go

def pairB {α γ : Type} (e : α → α → Bool) (e' : γ → γ → Bool) (p q : α × γ) : Bool := bif e p.1 q.1 then e' p.2 q.2 else false

theorem pairB_eq {α γ : Type} {e : α → α → Bool} (he : ∀ x y, e x y = true → x = y) {e' : γ → γ → Bool} (he' : ∀ x y, e' x y = true → x = y) (p q : α × γ) (h : pairB e e' p q = true) : p = q := by
  unfold pairB at h
  cases h1 : e p.1 q.1 with
  | false => rw [h1] at h; cases h
  | true => rw [h1] at h; exact Prod.ext (he _ _ h1) (he' _ _ h)

/-! Functions that read slices of known length. -/

theorem bcond {α : Type} {b : Bool} {x : Option α} {y : α} (h : (bif b then x else none) = some y) : b = true ∧ x = some y := by
  cases b with
  | true => exact ⟨rfl, h⟩
  | false => cases h

theorem rvs_prefix {ρ : Ren} : ∀ {cs : List AV} {xs : List Value}, cs.length ≤ xs.length → (∀ (i : Nat) (a : AV) (x : Value), cs[i]? = some a → xs[i]? = some x → Rv ρ a x) → Rvs ρ cs (xs.take cs.length) :=
  fun hl h => ⟨by simp [hl], fun i a x ha hx => by
    rw [List.getElem?_take] at hx
    split at hx
    · exact h i a x ha hx
    · cases hx⟩

/-- What a function that reads two slices comes to. -/
structure GivesH (t : Tree (AV × AH)) (v : Value) : Prop where
  out : t.holds (fun q => flat q.1 = some v)

/-- A walk from a heap, of which the answer alone is kept. -/
def afunH (P : Program) (E : Env) (sym : List Tmp) (lf f : Nat) (as : List AV) (h : AH) (n : Nat) : Tree AV := (afun P E sym (fun _ => none) lf f as h n).bind fun q => .leaf q.1

theorem givesH {P : Program} {E : Env} {sym : List Tmp} {lf f : Nat} {as : List AV} {h : AH} {n : Nat} {u : Tree AV} {v : Value} (e : (afunH P E sym lf f as h n).strict = u) (hu : u.holds (fun q => flat q = some v)) :
    GivesH (afun P E sym (fun _ => none) lf f as h n) v := ⟨Tree.holds_bind (Tree.holds_strict (by rw [show ((afun P E sym (fun _ => none) lf f as h n).bind fun q => Tree.leaf q.1).strict = u from e]; exact hu))⟩

/-! Functions that write one block that they are handed. -/

end Go.Rq

/- Functions that lay a slice; functions that read a slice whose length may be a variable. -/
namespace Go.Rq
open Go

abbrev LayTab := List (FuncId × (List AV → Nat → Option (Bool × AV × Blk)))

def lookLT : LayTab → FuncId → Option (List AV → Nat → Option (Bool × AV × Blk))
  | [], _ => none
  | (f, g) :: t, k => bif Nat.beq f k then some g else lookLT t k

theorem lookLT_mem : ∀ {ps : LayTab} {f : FuncId} {g}, lookLT ps f = some g → (f, g) ∈ ps
  | [], f, g, h => by simp [lookLT] at h
  | (k, q) :: t, f, g, h => by
    simp only [lookLT] at h
    cases hb : Nat.beq k f with
    | true => rw [hb] at h; simp at h; subst h; rw [Nat.eq_of_beq_eq_true hb]; simp
    | false => rw [hb] at h; exact List.mem_cons_of_mem _ (lookLT_mem h)

def TabLOk (P : Program) (ps : LayTab) : Prop := ∀ p ∈ ps, Enters P p.1 ∧ LayOk P p.1 p.2
theorem TabLOk.nil {P : Program} : TabLOk P [] := fun p h => by simp at h
/-! A function that reads one slice, whose length may be a variable. -/

end Go.Rq

/- Functions that read one block by a pointer; functions that lay one block and hand back a pointer to it. -/
namespace Go.Rq
open Go

/-! A function that lays one block and hands back a pointer to it, and a number. -/
/-! The state at a block's head, behind other loops. -/
def hasB (t : Nat) : Code → Bool
  | .seq a b => hasB t a || hasB t b
  | .cond _ a b => hasB t a || hasB t b
  | .block id c => Nat.beq id t || hasB t c
  | .loop c => hasB t c
  | _ => false

def reachB (P : Program) (E : Env) (sym : List Tmp) (tab : BTab) (lf : Nat) (target : Nat) : Code → XS → Tree (Bool × AExit × XS)
  | .seq a b, x => (reachB P E sym tab lf target a x).bind fun r => match r with
    | (true, e, y) => .leaf (true, e, y)
    | (false, .normal, y) => reachB P E sym tab lf target b y
    | (false, e, y) => .leaf (false, e, y)
  | .cond c a b, x => match boolOf (look x.s.tm c) with
    | some true => reachB P E sym tab lf target a x
    | some false => reachB P E sym tab lf target b x
    | none => .fail
  | .block id c, x => bif Nat.beq id target then .leaf (true, .normal, x) else bif hasB target c then
      (reachB P E sym tab lf target c x).bind fun r => match r with
        | (false, .exit i, y) => bif Nat.beq i id then .leaf (false, .normal, y) else .leaf (false, .exit i, y)
        | r => .leaf r
    else (exec P E sym tab lf (.block id c) x).bind fun (e, y) => .leaf (false, e, y)
  | .loop c, x => reachB P E sym tab lf target c x
  | c, x => (exec P E sym tab lf c x).bind fun (e, y) => .leaf (false, e, y)

def entryB (P : Program) (E : Env) (sym : List Tmp) (tab : BTab) (lf : Nat) (f : Nat) (args : List AV) (h : AH) (n : Nat) (target : Nat) (k : Keep) : XS :=
  match firstT (reachB P E sym tab lf target (bodyOf P f) ⟨⟨args ++ undefs (ntmpsOf P f - args.length), h, true⟩, n⟩) with
  | some x => match trim k.tm k.ids k.n x with
    | some y => y
    | none => default
  | none => default
end Go.Rq
