/- The reference's points of the second curve: contracts. Written by a program of ours. -/
import Derived.Test.YtdbcjiggimppdaaRq15
import Derived.Test.YtdbcjiggimppdaaRq16
import Derived.Test.YtdbcjiggimppdaaRq10
namespace Go.Rq
open Go Go.Proofs

/-- The reference's elements of two parts, left open. -/
structure DO where
  mu : D6 → D6 → D6
  ad : D6 → D6 → D6
  sb : D6 → D6 → D6
  iv : D6 → D6
  ne : D6 → D6
def doT (t : DO) : PureTab := [(99, fn2 c12.agg c12.agg c12.agg t.mu), (148, fn2 c12.agg c12.agg c12.agg t.ad), (109, fn2 c12.agg c12.agg c12.agg t.sb), (160, fn1 c12.agg c12.agg t.iv), (110, fn1 c12.agg c12.agg t.ne)]
def doO : DO := ⟨rmul2G roO, radd2G roO, rsub2G roO, rinv2G roO, rneg2G roO⟩
theorem doT_eq : [(99, fn2 c12.agg c12.agg c12.agg (rmul2G roO)), (148, fn2 c12.agg c12.agg c12.agg (radd2G roO)), (109, fn2 c12.agg c12.agg c12.agg (rsub2G roO)), (160, fn1 c12.agg c12.agg (rinv2G roO)), (110, fn1 c12.agg c12.agg (rneg2G roO))] = doT doO := by kernel_rfl
theorem doT_ok : TabPOk PR (doT doO) := Eq.subst (motive := TabPOk PR) doT_eq (TabPOk.cons rmul2_ok (TabPOk.cons radd2_ok (TabPOk.cons rsub2_ok (TabPOk.cons rinv2_ok (TabPOk.cons rneg2_ok TabPOk.nil)))))

/-! What is added in the equation. -/
def fourD : D6 := ⟨ofW 4#64, ofW 4#64⟩
theorem rfour_ctx : Ctx PR (envOf eqsT []) [] (fun _ => none) 10 149 :=
  ctx_of (envOf_ok eqsT_ok TabPOk.nil) mixed (fn := Try.f149) (by kernel_rfl) (by kernel_rfl) (by kernel_rfl) (tabOk_none _)
theorem rfour_run : (afunR PR (envOf eqsT []) [] (fun _ => none) 10 149 []).strict = .leaf (c12.agg.enc fourD) := by kernel_rfl
theorem rfour_ok : CallOk PR 149 (fn0 c12.agg fourD) :=
  .inl ⟨enters_of (fn := Try.f149) (by kernel_rfl) (by kernel_rfl) (by kernel_rfl), pure0 rfour_ctx (leafVal (B := c12.agg) (y := fourD) rfour_run)⟩

def rside2G (t : DO) (four : D6) (x : D6) : D6 := t.ad (t.mu (t.mu x x) x) four
def rsd2T (t : DO) (four : D6) : PureTab := (149, fn0 c12.agg four) :: doT t
theorem rside2_run (t : DO) (four : D6) (x : D6) : (afunR PR (envOf eqsT (rsd2T t four)) [] (fun _ => none) 40 100 [c12.agg.enc x]).strict = .leaf (c12.agg.enc (rside2G t four x)) := by kernel_rfl
theorem rside2_ctx : Ctx PR (envOf eqsT (rsd2T doO fourD)) [] (fun _ => none) 40 100 :=
  ctx_of (envOf_ok eqsT_ok (TabPOk.cons rfour_ok doT_ok)) mixed (fn := Try.f100) (by kernel_rfl) (by kernel_rfl) (by kernel_rfl) (tabOk_none _)
theorem rside2_ok : CallOk PR 100 (fn1 c12.agg c12.agg (rside2G doO fourD)) :=
  .inl ⟨enters_of (fn := Try.f100) (by kernel_rfl) (by kernel_rfl) (by kernel_rfl), pure1 rside2_ctx (fun a => leafVal (B := c12.agg) (y := rside2G doO fourD a) (rside2_run doO fourD a))⟩

/-! Is it a point? -/
set_option maxRecDepth 100000
def rck2T (t : DO) (bl : W6 → Bool) (sd : D6 → D6) : PureTab := (80, fn1 c6.agg kBool bl) :: (100, fn1 c12.agg c12.agg sd) :: doT t
theorem rck2_run (t : DO) (bl : W6 → Bool) (sd : D6 → D6) (p : Ap D6) : (afunR PR (envOf eqsT (rck2T t bl sd)) [4, 9, 19, 25, 31, 37] (fun _ => none) 40 42 [aD.agg.enc p]).strict =
    .br p.zero (.br (eqD p.x zeroD) (.leaf (kBool.enc (eqD p.y zeroD))) (.leaf (.lit false)))
      (.br (bl p.x.a) (.br (bl p.x.b) (.br (bl p.y.a) (.br (bl p.y.b) (.leaf (kBool.enc (eqD (t.mu p.y p.y) (sd p.x)))) (.leaf (.lit false))) (.leaf (.lit false))) (.leaf (.lit false))) (.leaf (.lit false))) := by kernel_rfl
def rcheck2G (t : DO) (bl : W6 → Bool) (sd : D6 → D6) (p : Ap D6) : Bool := bif p.zero then (bif eqD p.x zeroD then eqD p.y zeroD else false) else
  bif bl p.x.a then (bif bl p.x.b then (bif bl p.y.a then (bif bl p.y.b then eqD (t.mu p.y p.y) (sd p.x) else false) else false) else false) else false
theorem noHolds : (Tree.leaf (AV.lit false)).holds (fun q => flat q = some (kBool.val false)) := holds_leaf (a := .lit false) (v := kBool.val false) rfl
theorem rck2_gives (t : DO) (bl : W6 → Bool) (sd : D6 → D6) (p : Ap D6) : Gives (afunR PR (envOf eqsT (rck2T t bl sd)) [4, 9, 19, 25, 31, 37] (fun _ => none) 40 42 [aD.agg.enc p]) (kBool.val (rcheck2G t bl sd p)) :=
  givesOf (rck2_run t bl sd p)
    (holds_br (B := kBool) (holds_br (B := kBool) (holds_leaf (kBool.h1 _)) noHolds) (holds_br (B := kBool) (holds_br (B := kBool) (holds_br (B := kBool) (holds_br (B := kBool) (holds_leaf (kBool.h1 _)) noHolds) noHolds) noHolds) noHolds))
def rcheck2 : Ap D6 → Bool := rcheck2G doO belowI (rside2G doO fourD)
theorem rck2_ctx : Ctx PR (envOf eqsT (rck2T doO belowI (rside2G doO fourD))) [4, 9, 19, 25, 31, 37] (fun _ => none) 40 42 :=
  ctx_of (envOf_ok eqsT_ok (TabPOk.cons rbelow_ok (TabPOk.cons rside2_ok doT_ok))) mixed (fn := Try.f42) (by kernel_rfl) (by kernel_rfl) (by kernel_rfl) (tabOk_none _)
theorem rck2_ok : CallOk PR 42 (fn1 aD.agg kBool rcheck2) :=
  .inl ⟨enters_of (fn := Try.f42) (by kernel_rfl) (by kernel_rfl) (by kernel_rfl), pure1 rck2_ctx (fun p => rck2_gives doO belowI (rside2G doO fourD) p)⟩

/-! The negated one. -/
def rneg2P (t : DO) (p : Ap D6) : Ap D6 := ⟨p.x, t.ne p.y, p.zero⟩
theorem rneg2P_run (t : DO) (p : Ap D6) : (afunR PR (envOf eqsT (doT t)) [] (fun _ => none) 40 53 [aD.agg.enc p]).strict = .leaf (aD.agg.enc (rneg2P t p)) := by kernel_rfl
theorem rneg2P_ctx : Ctx PR (envOf eqsT (doT doO)) [] (fun _ => none) 40 53 :=
  ctx_of (envOf_ok eqsT_ok doT_ok) mixed (fn := Try.f53) (by kernel_rfl) (by kernel_rfl) (by kernel_rfl) (tabOk_none _)
theorem rneg2P_ok : CallOk PR 53 (fn1 aD.agg aD.agg (rneg2P doO)) :=
  .inl ⟨enters_of (fn := Try.f53) (by kernel_rfl) (by kernel_rfl) (by kernel_rfl), pure1 rneg2P_ctx (fun p => leafVal (B := aD.agg) (y := rneg2P doO p) (rneg2P_run doO p))⟩

/-! The sum by the slope. -/
def eqP25 (a b : Ap D6) : Bool := (a.x.a.w0 == b.x.a.w0) && ((a.x.a.w1 == b.x.a.w1) && ((a.x.a.w2 == b.x.a.w2) && ((a.x.a.w3 == b.x.a.w3) && ((a.x.a.w4 == b.x.a.w4) && ((a.x.a.w5 == b.x.a.w5) && ((a.x.b.w0 == b.x.b.w0) && ((a.x.b.w1 == b.x.b.w1) && ((a.x.b.w2 == b.x.b.w2) && ((a.x.b.w3 == b.x.b.w3) && ((a.x.b.w4 == b.x.b.w4) && ((a.x.b.w5 == b.x.b.w5) && ((a.y.a.w0 == b.y.a.w0) && ((a.y.a.w1 == b.y.a.w1) && ((a.y.a.w2 == b.y.a.w2) && ((a.y.a.w3 == b.y.a.w3) && ((a.y.a.w4 == b.y.a.w4) && ((a.y.a.w5 == b.y.a.w5) && ((a.y.b.w0 == b.y.b.w0) && ((a.y.b.w1 == b.y.b.w1) && ((a.y.b.w2 == b.y.b.w2) && ((a.y.b.w3 == b.y.b.w3) && ((a.y.b.w4 == b.y.b.w4) && ((a.y.b.w5 == b.y.b.w5) && ((a.zero == b.zero) && true))))))))))))))))))))))))
def rslopeA (t : DO) (a : Ap D6) : D6 := t.mu (t.ad (t.ad (t.mu a.x a.x) (t.mu a.x a.x)) (t.mu a.x a.x)) (t.iv (t.ad a.y a.y))
def rslopeB (t : DO) (a b : Ap D6) : D6 := t.mu (t.sb b.y a.y) (t.iv (t.sb b.x a.x))
theorem rslope_run (t : DO) (a b : Ap D6) : (afunR PR (envOf eqsT (doT t)) [8] (fun _ => none) 40 108 [aD.agg.enc a, aD.agg.enc b]).strict =
    .br (eqP25 a b) (.leaf (c12.agg.enc (rslopeA t a))) (.leaf (c12.agg.enc (rslopeB t a b))) := by kernel_rfl
def rslope (t : DO) (a b : Ap D6) : D6 := bif eqP25 a b then rslopeA t a else rslopeB t a b
theorem rslope_gives (t : DO) (a b : Ap D6) : Gives (afunR PR (envOf eqsT (doT t)) [8] (fun _ => none) 40 108 [aD.agg.enc a, aD.agg.enc b]) (c12.agg.val (rslope t a b)) :=
  givesOf (rslope_run t a b) (holds_br (B := c12.agg) (holds_leaf (c12.agg.h1 _)) (holds_leaf (c12.agg.h1 _)))
theorem rslope_ctx : Ctx PR (envOf eqsT (doT doO)) [8] (fun _ => none) 40 108 :=
  ctx_of (envOf_ok eqsT_ok doT_ok) mixed (fn := Try.f108) (by kernel_rfl) (by kernel_rfl) (by kernel_rfl) (tabOk_none _)
theorem rslope_ok : CallOk PR 108 (fn2 aD.agg aD.agg c12.agg (rslope doO)) :=
  .inl ⟨enters_of (fn := Try.f108) (by kernel_rfl) (by kernel_rfl) (by kernel_rfl), pure2 rslope_ctx (fun a b => rslope_gives doO a b)⟩
def rchord2 (t : DO) (a b : Ap D6) (m : D6) : Ap D6 :=
  let x := t.sb (t.sb (t.mu m m) a.x) b.x
  ⟨x, t.sb (t.mu m (t.sb a.x x)) a.y, false⟩
def apD (p : Ap D6) (z : Bool) : AV := .agg (c12.enc p.x ++ (c12.enc p.y ++ [.lit z]))
theorem apD_flat (p : Ap D6) (z : Bool) (h : p.zero = z) : flat (apD p z) = some (aD.agg.val p) := by
  obtain ⟨x, y, w⟩ := p
  simp at h; subst h
  exact apFlatD x y w
def rad2T (t : DO) (N : Ap D6 → Ap D6) (S : Ap D6 → Ap D6 → D6) : PureTab := (53, fn1 aD.agg aD.agg N) :: (108, fn2 aD.agg aD.agg c12.agg S) :: doT t
theorem rad2_run (t : DO) (N : Ap D6 → Ap D6) (S : Ap D6 → Ap D6 → D6) (a b : Ap D6) : (afunR PR (envOf eqsT (rad2T t N S)) [8, 11, 16] (fun _ => none) 40 52 [aD.agg.enc a, aD.agg.enc b]).strict =
    .br a.zero (.leaf (aD.agg.enc b)) (.br b.zero (.leaf (aD.agg.enc a)) (.br (eqP25 a (N b)) (.leaf (apD ⟨zeroD, zeroD, true⟩ true)) (.leaf (apD (rchord2 t a b (S a b)) false)))) := by kernel_rfl
def rad2G (t : DO) (N : Ap D6 → Ap D6) (S : Ap D6 → Ap D6 → D6) (a b : Ap D6) : Ap D6 := bif a.zero then b else bif b.zero then a else bif eqP25 a (N b) then ⟨zeroD, zeroD, true⟩ else rchord2 t a b (S a b)
theorem rad2_gives (t : DO) (N : Ap D6 → Ap D6) (S : Ap D6 → Ap D6 → D6) (a b : Ap D6) : Gives (afunR PR (envOf eqsT (rad2T t N S)) [8, 11, 16] (fun _ => none) 40 52 [aD.agg.enc a, aD.agg.enc b]) (aD.agg.val (rad2G t N S a b)) :=
  givesOf (rad2_run t N S a b) (holds_br (B := aD.agg) (holds_leaf (aD.agg.h1 _)) (holds_br (B := aD.agg) (holds_leaf (aD.agg.h1 _)) (holds_br (B := aD.agg) (holds_leaf (apD_flat _ _ rfl)) (holds_leaf (apD_flat _ _ rfl)))))
def rad2 : Ap D6 → Ap D6 → Ap D6 := rad2G doO (rneg2P doO) (rslope doO)
theorem rad2_ctx : Ctx PR (envOf eqsT (rad2T doO (rneg2P doO) (rslope doO))) [8, 11, 16] (fun _ => none) 40 52 :=
  ctx_of (envOf_ok eqsT_ok (TabPOk.cons rneg2P_ok (TabPOk.cons rslope_ok doT_ok))) mixed (fn := Try.f52) (by kernel_rfl) (by kernel_rfl) (by kernel_rfl) (tabOk_none _)
theorem rad2_ok : CallOk PR 52 (fn2 aD.agg aD.agg aD.agg rad2) :=
  .inl ⟨enters_of (fn := Try.f52) (by kernel_rfl) (by kernel_rfl) (by kernel_rfl), pure2 rad2_ctx (fun a b => rad2_gives doO (rneg2P doO) (rslope doO) a b)⟩

/-! The generator. -/
def rgen2P : Ap D6 := ⟨⟨⟨0xd48056c8c121bdb8#64, 0x0bac0326a805bbef#64, 0xb4510b647ae3d177#64, 0xc6e47ad4fa403b02#64, 0x260805272dc51051#64, 0x024aa2b2f08f0a91#64⟩, ⟨0xe5ac7d055d042b7e#64, 0x334cf11213945d57#64, 0xb5da61bbdc7f5049#64, 0x596bd0d09920b61a#64, 0x7dacd3a088274f65#64, 0x13e02b6052719f60#64⟩⟩,
  ⟨⟨0xe193548608b82801#64, 0x923ac9cc3baca289#64, 0x6d429a695160d12c#64, 0xadfd9baa8cbdd3a7#64, 0x8cc9cdc6da2e351a#64, 0x0ce5d527727d6e11#64⟩, ⟨0xaaa9075ff05f79be#64, 0x3f370d275cec1da1#64, 0x267492ab572e99ab#64, 0xcb3e287e85a763af#64, 0x32acd2b02bc28b99#64, 0x0606c4a02ea734cc#64⟩⟩, false⟩
theorem rgen2_ctx : Ctx PR (envOf eqsT []) [] (fun _ => none) 10 47 :=
  ctx_of (envOf_ok eqsT_ok TabPOk.nil) mixed (fn := Try.f47) (by kernel_rfl) (by kernel_rfl) (by kernel_rfl) (tabOk_none _)
theorem rgen2_run : (afunR PR (envOf eqsT []) [] (fun _ => none) 10 47 []).strict = .leaf (apD rgen2P false) := by kernel_rfl
theorem rgen2_ok : CallOk PR 47 (fn0 aD.agg rgen2P) :=
  .inl ⟨enters_of (fn := Try.f47) (by kernel_rfl) (by kernel_rfl) (by kernel_rfl), pure0 rgen2_ctx (givesOf rgen2_run (holds_leaf (apD_flat _ _ rfl)))⟩

/-! A point by words, and by a number. -/
def thOf2 (p : Ap D6) : Th := ⟨p.x, p.y, ⟨numOne, zeroW⟩, false⟩
theorem many2_run (tw : Th → D6 × D6 × Bool) (ok : Nat → Bool) (mu : Th → W6 → Nat → Th) (p : Ap D6) (w : W6) (len cap : Nat) : Tree.but [3] 0 (afunT PR (maE tw ok mu) [10, 29] (fun _ => none) 40 111 [aD.agg.enc p, .slc 0 0 len cap] (oneAH c6 47 w) 1) =
    .br p.zero (.leaf (aD.agg.enc p)) (.need (ok len && true) (.br (!(tw (mu (thOf2 p) w len)).2.2) (.leaf (apD ⟨zeroD, zeroD, true⟩ true)) (.leaf (apD ⟨(tw (mu (thOf2 p) w len)).1, (tw (mu (thOf2 p) w len)).2.1, false⟩ false)))) := by kernel_rfl
def many2G (tw : Th → D6 × D6 × Bool) (mu : Th → W6 → Nat → Th) (p : Ap D6) (w : W6) (len : Nat) : Ap D6 :=
  bif p.zero then p else bif !(tw (mu (thOf2 p) w len)).2.2 then ⟨zeroD, zeroD, true⟩ else ⟨(tw (mu (thOf2 p) w len)).1, (tw (mu (thOf2 p) w len)).2.1, false⟩
theorem many2_gives (tw : Th → D6 × D6 × Bool) (ok : Nat → Bool) (mu : Th → W6 → Nat → Th) (p : Ap D6) (w : W6) (len cap : Nat) (hk : ok len = true) :
    GivesH (afun PR (maE tw ok mu) [10, 29] (fun _ => none) 40 111 [aD.agg.enc p, .slc 0 0 len cap] (oneAH c6 47 w) 1) (aD.agg.val (many2G tw mu p w len)) :=
  givesU (many2_run tw ok mu p w len cap) (holds_br (B := aD.agg) (holds_leaf (aD.agg.h1 _)) ⟨by rw [hk]; rfl, holds_br (B := aD.agg) (holds_leaf (apD_flat _ _ rfl)) (holds_leaf (apD_flat _ _ rfl))⟩)
def many2W : Ap D6 → W6 → Nat → Ap D6 := many2G twW multW
theorem many2_okH : HeapOk PR 111 (slv 47 aD.agg c6 aD.agg le6 many2W) :=
  slv_ok (E := maE twW le6 multW) (sym := [10, 29]) (lf := 40) (tab := fun _ _ _ _ => fun _ => none) maE_ok mixed (fn := Try.f111) (c := bodyOf PR 111) (by kernel_rfl) (by kernel_rfl) (by kernel_rfl)
    (fun _ _ _ _ _ => tabOk_none _) (fun p w len cap hk => many2_gives twW le6 multW p w len cap hk)
theorem many2_ent : Enters PR 111 := enters_of (fn := Try.f111) (by kernel_rfl) (by kernel_rfl) (by kernel_rfl)
noncomputable def ml2E (ok : Nat → Bool) (ma : Ap D6 → W6 → Nat → Ap D6) (L : W6 → Nat) : Env :=
  envL eqsT [] [(111, slv 47 aD.agg c6 aD.agg ok ma)] [(98, layS c6.agg 47 c6 L 6 (fun n => n))] false
theorem rml2_run (ok : Nat → Bool) (ma : Ap D6 → W6 → Nat → Ap D6) (L : W6 → Nat) (p : Ap D6) (n : W6) : Tree.but [1] 0 (afunR PR (ml2E ok ma L) [] (fun _ => none) 40 54 [aD.agg.enc p, c6.agg.enc n]) =
    .need (ok (L n) && true) (.leaf (aD.agg.enc (ma p n (L n)))) := by kernel_rfl
theorem ml2E_ok : EnvOk PR (ml2E le6 many2W (wdL rlenI)) := envL_ok eqsT_ok TabPOk.nil (TabHOk.cons many2_ent many2_okH TabHOk.nil) (TabLOk.cons words_ent words_okL TabLOk.nil)
theorem rml2_ctx : Ctx PR (ml2E le6 many2W (wdL rlenI)) [] (fun _ => none) 40 54 :=
  ctx_of (ml2E_ok) mixed (fn := Try.f54) (by kernel_rfl) (by kernel_rfl) (by kernel_rfl) (tabOk_none _)
theorem rml2_gives (ok : Nat → Bool) (ma : Ap D6 → W6 → Nat → Ap D6) (L : W6 → Nat) (p : Ap D6) (n : W6) (h : ok (L n) = true) : Gives (afunR PR (ml2E ok ma L) [] (fun _ => none) 40 54 [aD.agg.enc p, c6.agg.enc n]) (aD.agg.val (ma p n (L n))) :=
  givesB (rml2_run ok ma L p n) ⟨by rw [h]; rfl, aD.agg.h1 _⟩
def rml2 (p : Ap D6) (n : W6) : Ap D6 := many2W p n (wdL rlenI n)
theorem rml2_ok : CallOk PR 54 (fn2 aD.agg c6.agg aD.agg rml2) :=
  .inl ⟨enters_of (fn := Try.f54) (by kernel_rfl) (by kernel_rfl) (by kernel_rfl), pure2 rml2_ctx (fun p n => rml2_gives le6 many2W (wdL rlenI) p n (Nat.ble_eq_true_of_le (wdL_le n).1))⟩

/-! Is it of the group? -/
def rinT2 (ck : Ap D6 → Bool) (od : W6) (ml : Ap D6 → W6 → Ap D6) : PureTab := [(42, fn1 aD.agg kBool ck), (89, fn0 c6.agg od), (54, fn2 aD.agg c6.agg aD.agg ml)]
theorem rin2_run (ck : Ap D6 → Bool) (od : W6) (ml : Ap D6 → W6 → Ap D6) (p : Ap D6) : (afunR PR (envOf eqsT (rinT2 ck od ml)) [5] (fun _ => none) 40 45 [aD.agg.enc p]).strict =
    .br (ck p) (.leaf (kBool.enc (ml p od).zero)) (.leaf (.lit false)) := by kernel_rfl
def rin2G (ck : Ap D6 → Bool) (od : W6) (ml : Ap D6 → W6 → Ap D6) (p : Ap D6) : Bool := bif ck p then (ml p od).zero else false
theorem rin2_gives (ck : Ap D6 → Bool) (od : W6) (ml : Ap D6 → W6 → Ap D6) (p : Ap D6) : Gives (afunR PR (envOf eqsT (rinT2 ck od ml)) [5] (fun _ => none) 40 45 [aD.agg.enc p]) (kBool.val (rin2G ck od ml p)) :=
  givesOf (rin2_run ck od ml p) (holds_br (B := kBool) (holds_leaf (kBool.h1 _)) noHolds)
def rin2 : Ap D6 → Bool := rin2G rcheck2 orderW rml2
theorem rin2_ctx : Ctx PR (envOf eqsT (rinT2 rcheck2 orderW rml2)) [5] (fun _ => none) 40 45 :=
  ctx_of (envOf_ok eqsT_ok (TabPOk.cons rck2_ok (TabPOk.cons rorder_ok (TabPOk.cons rml2_ok TabPOk.nil)))) mixed (fn := Try.f45) (by kernel_rfl) (by kernel_rfl) (by kernel_rfl) (tabOk_none _)
theorem rin2_ok : CallOk PR 45 (fn1 aD.agg kBool rin2) :=
  .inl ⟨enters_of (fn := Try.f45) (by kernel_rfl) (by kernel_rfl) (by kernel_rfl), pure1 rin2_ctx (fun p => rin2_gives rcheck2 orderW rml2 p)⟩

/-! Is what is told the wanted one? -/
def nonePD : Ap D6 := ⟨zeroD, zeroD, false⟩
theorem onl2_run (p : Ap D6) (e : Int) (f : Bool) (w : Ap D6) : (afunR PR (envOf eqsT []) [10, 14, 21] (fun _ => none) 40 51 [aD.agg.enc p, (kInt .i64).enc e, kBool.enc f, aD.agg.enc w]).strict =
    .br (!f) (.br (eqP25 p nonePD) (.leaf (kBool.enc (e == 5))) (.leaf (.lit false))) (.br (eqP25 p w) (.leaf (kBool.enc (e == 0))) (.leaf (.lit false))) := by kernel_rfl
def twoLG (p : Ap D6) (e : Int) (f : Bool) (w : Ap D6) : Bool := bif !f then (bif eqP25 p nonePD then e == 5 else false) else (bif eqP25 p w then e == 0 else false)
theorem onl2_ctx : Ctx PR (envOf eqsT []) [10, 14, 21] (fun _ => none) 40 51 :=
  ctx_of (envOf_ok eqsT_ok TabPOk.nil) mixed (fn := Try.f51) (by kernel_rfl) (by kernel_rfl) (by kernel_rfl) (tabOk_none _)
theorem onl2_ok : CallOk PR 51 (fn4 aD.agg (kInt .i64) kBool aD.agg kBool twoLG) :=
  .inl ⟨enters_of (fn := Try.f51) (by kernel_rfl) (by kernel_rfl) (by kernel_rfl), pure4 onl2_ctx (fun p e f w => givesOf (onl2_run p e f w)
    (holds_br (B := kBool) (holds_br (B := kBool) (holds_leaf (kBool.h1 _)) noHolds) (holds_br (B := kBool) (holds_leaf (kBool.h1 _)) noHolds)))⟩
end Go.Rq

/- The law CurveSecond, gone through: what is called left open. -/
namespace Go.Rq
open Go Go.Proofs

def loT2 (t : LO D6) : PureTab := [(42, fn1 aD.agg kBool t.ck), (43, fn1 aD.agg kBool t.ckP), (45, fn1 aD.agg kBool t.ig), (44, fn1 aD.agg kBool t.igP),
  (47, fn0 aD.agg t.ge), (46, fn0 aD.agg t.geP), (53, fn1 aD.agg aD.agg t.ne), (48, fn1 aD.agg kPD t.neP),
  (52, fn2 aD.agg aD.agg aD.agg t.ad), (49, fn2 aD.agg aD.agg kPD t.adP), (54, fn2 aD.agg c6.agg aD.agg t.mu), (50, fn2 aD.agg c6.agg kPD t.muP),
  (51, fn4 aD.agg (kInt .i64) kBool aD.agg kBool t.on)]
noncomputable def loE2 (t : LO D6) : Env := envH eqsT (loT2 t) []

set_option maxRecDepth 1000000 in
theorem second_law (t : LO D6) (a b : Ap D6) (n : W6) : (afunR PR (loE2 t) [24, 28, 34, 38, 57, 62, 68, 78, 90, 93] (fun _ => none) 10 5 [aD.agg.enc a, aD.agg.enc b, c6.agg.enc n]).strict = loTree eqP25 t a b n := by kernel_rfl

end Go.Rq

/- The law CurveSecond holds of what the functions come to. -/
namespace Go.Rq
open Go Go.Proofs

/-! The reference's operations on elements of two parts go like a field's. -/
section
variable {K : Type} [Rg K] {iv : K → K} {e : K → K → Bool} {R : K → D6 → Prop} {t : RO}

structure DRel (R : K → D6 → Prop) (iv : K → K) (e : K → K → Bool) (t : RO) : Prop where
  mu : ∀ {x y : K} {a b : D6}, R x a → R y b → R (x * y) (rmul2G t a b)
  ad : ∀ {x y : K} {a b : D6}, R x a → R y b → R (x + y) (radd2G t a b)
  sb : ∀ {x y : K} {a b : D6}, R x a → R y b → R (x - y) (rsub2G t a b)
  ne : ∀ {x : K} {a : D6}, R x a → R (-x) (rneg2G t a)
  iv : ∀ {x : K} {a : D6}, R x a → R (iv x) (rinv2G t a)
  zero : R 0 zeroD
  one : R 1 ⟨numOne, zeroW⟩
  eq : ∀ {x y : K} {a b : D6}, R x a → R y b → e x y = eqD a b
  inj : ∀ {x : K} {a b : D6}, R x a → R x b → a = b

theorem d2_tm (h : DRel R iv e t) {x : K} {a : D6} (p : R x a) : ∀ k : Nat, R (tmK x k) (timesA (radd2G t) a k)
  | 0 => h.zero
  | k + 1 => h.ad (d2_tm h p k) p

theorem trel2 (h : DRel R iv e t) : TRel R false e (thG t) where
  mu := fun {p x y a b} ho ha hb => by
    show R (x * y) (bif p.one then ⟨t.mu t.fp a.a b.a, zeroW⟩ else rmul2G t a b)
    rw [ho]
    exact h.mu ha hb
  tm s ha := d2_tm h ha s.n
  sb ha hb := h.sb ha hb
  zero := h.zero
  eq := fun ha hb => h.eq ha hb

def many2Of (t : RO) : Ap D6 → W6 → Nat → Ap D6 := many2G (twG t (rinv2G t) (thmG t (rmul2G t))) (multOf t)

theorem many2_rel (h : DRel R iv e t) {P : Ap K} {p : Ap D6} (hp : RA R P p) (n : W6) (len : Nat) : RA R (bif P.zero then P else lowK iv e (multK e n.bit ⟨P.x, P.y, 1⟩ (64 * len) noneJ)) (many2Of t p n len) := by
  have hT := trel2 h
  unfold many2Of many2G
  rw [hp.z]
  cases hz : p.zero with
  | true => exact hp
  | false =>
    rw [cond_false, cond_false]
    have hb : TJ R false ⟨P.x, P.y, 1⟩ (thOf2 p) := ⟨hp.x, hp.y, h.one, rfl⟩
    have hm := mult_rel hT hb n (64 * len) (noneT_rel hT (b := false) rfl)
    have hi : ∀ {x : K} {a : D6}, R x a → R (iv x) (bif false then ⟨t.iv t.fp a.a, zeroW⟩ else rinv2G t a) := fun hx => h.iv hx
    obtain ⟨h1, h2, h3⟩ := two_rel hT (r := t) hi hm
    have h1' : (twG t (rinv2G t) (thmG t (rmul2G t)) (multOf t (thOf2 p) n len)).2.2 = !(lowK iv e (multK e n.bit ⟨P.x, P.y, 1⟩ (64 * len) noneJ)).zero := h1
    rw [h1', Bool.not_not]
    cases hl : (lowK iv e (multK e n.bit ⟨P.x, P.y, 1⟩ (64 * len) noneJ)).zero with
    | true =>
      rw [lowK_zero hl]
      exact ⟨h.zero, h.zero, rfl⟩
    | false => exact ⟨h2, h3, hl⟩

def doG (t : RO) : DO := ⟨rmul2G t, radd2G t, rsub2G t, rinv2G t, rneg2G t⟩
theorem doO_eq : doO = doG roO := rfl
theorem rcheck2_rel (h : DRel R iv e t) {f : Fl K} {four : D6} (hf : R f.b four) {P : Ap K} {p : Ap D6} (hp : RA R P p) {bl : W6 → Bool} (h1 : bl p.x.a = true) (h2 : bl p.x.b = true) (h3 : bl p.y.a = true) (h4 : bl p.y.b = true) :
    rcheck2G (doG t) bl (rside2G (doG t) four) p = onE (foK iv) e f P := by
  have hs : eqD ((doG t).mu p.y p.y) (rside2G (doG t) four p.x) = e (P.y * P.y) (P.x * P.x * P.x + f.b) := (h.eq (h.mu hp.y hp.y) (h.ad (h.mu (h.mu hp.x hp.x) hp.x) hf)).symm
  unfold rcheck2G onE
  rw [hp.z, h1, h2, h3, h4, foK_zero, ← h.eq hp.x h.zero, ← h.eq hp.y h.zero, hs]
  rfl

theorem eqP25_iff (a b : Ap D6) : eqP25 a b = true ↔ a = b := by
  obtain ⟨⟨⟨a0, a1, a2, a3, a4, a5⟩, ⟨c0, c1, c2, c3, c4, c5⟩⟩, ⟨⟨a6, a7, a8, a9, a10, a11⟩, ⟨c6, c7, c8, c9, c10, c11⟩⟩, az⟩ := a
  obtain ⟨⟨⟨b0, b1, b2, b3, b4, b5⟩, ⟨d0, d1, d2, d3, d4, d5⟩⟩, ⟨⟨b6, b7, b8, b9, b10, b11⟩, ⟨d6, d7, d8, d9, d10, d11⟩⟩, bz⟩ := b
  simp [eqP25, and_assoc]

theorem ra2_eq (h : DRel R iv e t) {A B : Ap K} {a b : Ap D6} (ha : RA R A a) (hb : RA R B b) : eqP25 a b = eqA e A B := by
  rw [Bool.eq_iff_iff, eqP25_iff]
  unfold eqA
  rw [h.eq ha.x hb.x, h.eq ha.y hb.y, ha.z, hb.z]
  simp only [Bool.and_eq_true, eqD_iff, beq_iff_eq]
  obtain ⟨ax, ay, az⟩ := a
  obtain ⟨bx, bY, bz⟩ := b
  simp

theorem rneg2_rel (h : DRel R iv e t) {A : Ap K} {a : Ap D6} (ha : RA R A a) : RA R (negK A) (rneg2P (doG t) a) := ⟨ha.x, h.ne ha.y, ha.z⟩

theorem rchord2_rel (h : DRel R iv e t) {A B : Ap K} {a b : Ap D6} (ha : RA R A a) (hb : RA R B b) {m : K} {w : D6} (hm : R m w) : RA R (chordK A B m) (rchord2 (doG t) a b w) := by
  have x := h.sb (h.sb (h.mu hm hm) ha.x) hb.x
  exact ⟨x, h.sb (h.mu hm (h.sb ha.x x)) ha.y, rfl⟩

theorem rad2_rel (h : DRel R iv e t) {A B : Ap K} {a b : Ap D6} (ha : RA R A a) (hb : RA R B b) : RA R (sumA iv e A B) (rad2G (doG t) (rneg2P (doG t)) (rslope (doG t)) a b) := by
  unfold sumA rad2G rslope
  rw [ha.z, hb.z, ra2_eq h ha (rneg2_rel h hb), ra2_eq h ha hb]
  cases a.zero
  · cases b.zero
    · cases eqA e A (negK B)
      · cases eqA e A B
        · exact rchord2_rel h ha hb (h.mu (h.sb hb.y ha.y) (h.iv (h.sb hb.x ha.x)))
        · have s := h.mu ha.x ha.x
          exact rchord2_rel h ha hb (h.mu (h.ad (h.ad s s) s) (h.iv (h.ad ha.y ha.y)))
      · exact ⟨h.zero, h.zero, rfl⟩
    · exact ha
  · exact hb

theorem ra2_inj (h : DRel R iv e t) {A : Ap K} {a b : Ap D6} (ha : RA R A a) (hb : RA R A b) : a = b := by
  obtain ⟨ax, ay, az⟩ := a
  obtain ⟨bx, bY, bz⟩ := b
  have h1 := h.inj ha.x hb.x
  have h2 := h.inj ha.y hb.y
  have h3 := ha.z.symm.trans hb.z
  simp at h1 h2 h3
  rw [h1, h2, h3]
end

/-- A field, its elements as the program keeps them (M) and as they are told (P). -/
structure LkD {K : Type} [Rg K] (iv : K → K) (e : K → K → Bool) (M P : K → D6 → Prop) (f : Fl K) : Prop where
  F : Fd K iv e
  rel : FRel M (foK iv) fD e eqD
  m1 : M 1 one2
  m0 : M 0 zero2
  to : ∀ {x : K} {w : D6}, P x w → M x (to2 fW w)
  fr : ∀ {x : K} {w : D6}, M x w → P x (back2 fW w)
  of : ∀ {w : D6}, w.a.val < pN → w.b.val < pN → ∃ x, P x w
  ref : DRel P iv e roO
  f1 : f.one = 1
  fb : P f.b fourD
  mb : M f.b ⟨toW (ofW 4#64), toW (ofW 4#64)⟩

section
variable {K : Type} [Rg K] {iv : K → K} {e : K → K → Bool} {M P : K → D6 → Prop} {f : Fl K}

theorem ra2_of {J : Type} {Q M : J → D6 → Prop} {t : D6 → D6} (ht : ∀ {x : J} {w : D6}, Q x w → M x (t w)) {A : Ap J} {p : Ap D6} (h : RA Q A p) : RA M A ⟨t p.x, t p.y, p.zero⟩ := ⟨ht h.x, ht h.y, h.z⟩
theorem LkD.fl (L : LkD iv e M P f) : RFl M f fld2 := by
  unfold fld2
  exact ⟨by rw [L.f1]; exact L.m1, L.mb⟩
theorem LkD.inn (L : LkD iv e M P f) {A : Ap K} {p : Ap D6} (h : RA P A p) : RA M A (inP2 p) := by
  unfold inP2
  exact ra2_of (Q := P) (M := M) (t := to2 fW) L.to h
theorem LkD.out (L : LkD iv e M P f) {A : Ap K} {p : Ap D6} (h : RA M A p) : RA P A (outP2 p) := by
  unfold outP2
  exact ra2_of (Q := M) (M := P) (t := back2 fW) L.fr h

theorem LkD.times (L : LkD iv e M P f) {f : Fl K} {g : Fl D6} {p : Jp K} {q : Jp D6} (hf : RFl M f g) (hp : RJ M p q) (n : W6) : RJ M (timesF iv e f p n) (timesD g q n) := by
  unfold timesF timesD
  exact times_rel L.rel hf hp n _ ⟨hf.one, hf.one, L.m0⟩
theorem LkD.ga (L : LkD iv e M P f) : GRel M (gaF iv e) gaOD := g_rel L.rel L.times

theorem below2_parts {p : Ap D6} (h : belowP2 p = true) : belowI p.x.a = true ∧ belowI p.x.b = true ∧ belowI p.y.a = true ∧ belowI p.y.b = true := by
  unfold belowP2 at h
  cases h1 : belowI p.x.a <;> cases h2 : belowI p.x.b <;> cases h3 : belowI p.y.a <;> rw [h1, h2, h3] at h <;> simp_all
theorem LkD.below (L : LkD iv e M P f) {p : Ap D6} (h : belowP2 p = true) : ∃ A : Ap K, RA P A p := by
  obtain ⟨h1, h2, h3, h4⟩ := below2_parts h
  rw [belowI_nat] at h1 h2 h3 h4
  obtain ⟨x, hx⟩ := L.of (of_decide_eq_true h1) (of_decide_eq_true h2)
  obtain ⟨y, hy⟩ := L.of (of_decide_eq_true h3) (of_decide_eq_true h4)
  exact ⟨⟨x, y, p.zero⟩, hx, hy, rfl⟩

theorem zero_a : zero2.a = zeroW := rfl
theorem zero_b : zero2.b = zeroW := rfl
theorem LkD.check (L : LkD iv e M P f) (p : Ap D6) : checkP2 p = rcheck2 p := by
  unfold checkP2
  cases hb : belowP2 p with
  | true =>
    obtain ⟨A, hP⟩ := L.below hb
    obtain ⟨h1, h2, h3, h4⟩ := below2_parts hb
    rw [cond_true, ← on_rel L.rel L.fl (L.inn hP)]
    exact (rcheck2_rel L.ref L.fb hP h1 h2 h3 h4).symm
  | false =>
    rw [cond_false]
    unfold rcheck2 rcheck2G
    unfold belowP2 at hb
    cases hz : p.zero with
    | true =>
      rw [cond_true]
      cases hx : eqD p.x zeroD with
      | false => rfl
      | true =>
        cases hy : eqD p.y zeroD with
        | false => rfl
        | true =>
          rw [(eqD_iff _ _).1 hx, (eqD_iff _ _).1 hy] at hb
          unfold zeroD at hb
          rw [zero_below] at hb
          cases hb
    | false =>
      rw [cond_false]
      cases h1 : belowI p.x.a with
      | false => rfl
      | true =>
        cases h2 : belowI p.x.b with
        | false => rfl
        | true =>
          cases h3 : belowI p.y.a with
          | false => rfl
          | true =>
            rw [h1, h2, h3, cond_true, cond_true, cond_true] at hb
            rw [hb]; rfl

/-- What is a point. -/
theorem LkD.point (L : LkD iv e M P f) {p : Ap D6} (h : rcheck2 p = true) : belowP2 p = true ∧ ∃ A : Ap K, RA P A p ∧ onE (foK iv) e f A = true := by
  rw [← L.check] at h
  unfold checkP2 at h
  cases hb : belowP2 p with
  | false => rw [hb] at h; cases h
  | true =>
    obtain ⟨A, hP⟩ := L.below hb
    rw [hb, cond_true, ← on_rel L.rel L.fl (L.inn hP)] at h
    exact ⟨rfl, A, hP, h⟩
theorem LkD.on (L : LkD iv e M P f) {p : Ap D6} (h : rcheck2 p = true) : onE fD eqD fld2 (inP2 p) = true := by
  obtain ⟨-, A, hP, hon⟩ := L.point h
  rw [← on_rel L.rel L.fl (L.inn hP)]
  exact hon
theorem LkD.off (L : LkD iv e M P f) {p : Ap D6} (h : rcheck2 p = false) (hb : belowP2 p = true) : onE fD eqD fld2 (inP2 p) = false := by
  rw [← L.check] at h
  unfold checkP2 at h
  rw [hb, cond_true] at h
  exact h

theorem LkD.rmul (L : LkD iv e M P f) {A : Ap K} {p : Ap D6} (hp : RA P A p) (n : W6) : RA P (bif A.zero then A else lowK iv e (multK e n.bit ⟨A.x, A.y, 1⟩ (64 * wdL rlenI n) noneJ)) (rml2 p n) := many2_rel L.ref hp n (wdL rlenI n)

theorem LkD.n0 (L : LkD iv e M P f) : back2 fW zero2 = zero2 := L.ref.inj (L.fr L.m0) (L.ref.zero : P 0 zero2)
theorem LkD.nn (L : LkD iv e M P f) : ((outP2 ⟨zero2, zero2, false⟩, 5) : Ap D6 × Int) = (nonePD, 5) := by
  unfold outP2
  rw [L.n0]
  rfl

theorem sum2_def (p : Ap D6) (n : W6) : sumP1D p n = bif belowP2 p then (outP2 (ga1 gaOD zero2 fld2 (inP2 p) n).1, (ga1 gaOD zero2 fld2 (inP2 p) n).2) else (nonePD, 5) := by unfold sumP1D sm1 suOD gath1D; rfl
theorem ga1D_def (p : Ap D6) (n : W6) (h : onE fD eqD fld2 p = false) : ga1 gaOD zero2 fld2 p n = (⟨zero2, zero2, false⟩, 5) := by
  have hg : ga1 gaOD zero2 fld2 p n = bif onE fD eqD fld2 p then (gaOD.lo fld2 (gaOD.su fld2 ⟨fld2.one, fld2.one, zero2⟩ (gaOD.ti fld2 (gaOD.ra fld2 p) n)), 0) else (⟨zero2, zero2, false⟩, 5) := rfl
  rw [hg, h]; rfl
theorem add2_def (p q : Ap D6) : addP2 p q = bif belowP2 p then (bif belowP2 q then (outP2 (ga2 gaOD zero2 fld2 (inP2 p, inP2 q) unitN).1, (ga2 gaOD zero2 fld2 (inP2 p, inP2 q) unitN).2) else (nonePD, 5)) else (nonePD, 5) := by
  unfold addP2 sumP2D sm2 suOD gath2D; rfl
theorem ga2D_defA (p q : Ap D6) (n : W6 × W6) (h : onE fD eqD fld2 p = false) : ga2 gaOD zero2 fld2 (p, q) n = (⟨zero2, zero2, false⟩, 5) := by
  have hg : ga2 gaOD zero2 fld2 (p, q) n = bif onE fD eqD fld2 p then (bif onE fD eqD fld2 q then
      (gaOD.lo fld2 (gaOD.su fld2 (gaOD.su fld2 ⟨fld2.one, fld2.one, zero2⟩ (gaOD.ti fld2 (gaOD.ra fld2 p) n.1)) (gaOD.ti fld2 (gaOD.ra fld2 q) n.2)), 0) else (⟨zero2, zero2, false⟩, 5)) else (⟨zero2, zero2, false⟩, 5) := rfl
  rw [hg, h]; rfl
theorem ga2D_defB (p q : Ap D6) (n : W6 × W6) (h : onE fD eqD fld2 q = false) : ga2 gaOD zero2 fld2 (p, q) n = (⟨zero2, zero2, false⟩, 5) := by
  have hg : ga2 gaOD zero2 fld2 (p, q) n = bif onE fD eqD fld2 p then (bif onE fD eqD fld2 q then
      (gaOD.lo fld2 (gaOD.su fld2 (gaOD.su fld2 ⟨fld2.one, fld2.one, zero2⟩ (gaOD.ti fld2 (gaOD.ra fld2 p) n.1)) (gaOD.ti fld2 (gaOD.ra fld2 q) n.2)), 0) else (⟨zero2, zero2, false⟩, 5)) else (⟨zero2, zero2, false⟩, 5) := rfl
  rw [hg, h]
  cases onE fD eqD fld2 p <;> rfl

theorem LkD.mul (L : LkD iv e M P f) (p : Ap D6) (n : W6) : sumP1D p n = bif rcheck2 p then (rml2 p n, 0) else (nonePD, 5) := by
  rw [sum2_def]
  cases hc : rcheck2 p with
  | true =>
    obtain ⟨hb, A, hP, hon⟩ := L.point hc
    obtain ⟨h1, h2⟩ := ga1_rel L.ga L.m0 L.fl (L.inn hP) n
    have h3 := ga1_low L.F L.f1 (on_none L.F hon) hon n (wdL_le n).2
    rw [h3] at h1 h2
    rw [hb, cond_true, cond_true, ← h2, ra2_inj L.ref (L.out h1) (L.rmul hP n)]
  | false =>
    rw [cond_false]
    cases hb : belowP2 p with
    | false => rfl
    | true =>
      rw [cond_true, ga1D_def _ n (L.off hc hb)]
      exact L.nn

theorem LkD.add (L : LkD iv e M P f) (p q : Ap D6) : addP2 p q = bif rcheck2 p then (bif rcheck2 q then (rad2 p q, 0) else (Go.Rq.nonePD, 5)) else (Go.Rq.nonePD, 5) := by
  rw [add2_def]
  cases hc : rcheck2 p with
  | false =>
    rw [cond_false]
    cases hb : belowP2 p with
    | false => rfl
    | true =>
      cases hb2 : belowP2 q with
      | false => rfl
      | true =>
        rw [cond_true, cond_true, ga2D_defA _ _ _ (L.off hc hb)]
        exact L.nn
  | true =>
    rw [cond_true, (L.point hc).1, cond_true]
    cases hd : rcheck2 q with
    | false =>
      rw [cond_false]
      cases hb2 : belowP2 q with
      | false => rfl
      | true =>
        rw [cond_true, ga2D_defB _ _ _ (L.off hd hb2)]
        exact L.nn
    | true =>
      rw [cond_true, (L.point hd).1, cond_true]
      obtain ⟨-, A, hP, hon⟩ := L.point hc
      obtain ⟨-, B, hQ, hoq⟩ := L.point hd
      obtain ⟨h1, h2⟩ := ga2_rel L.ga L.m0 L.fl (x := (A, B)) (y := (inP2 p, inP2 q)) (L.inn hP) (L.inn hQ) unitN
      have h3 : ga2 (gaF iv e) 0 f (A, B) unitN = (sumA iv e A B, 0) := ga2_low L.F L.f1 (on_none L.F hon) (on_none L.F hoq) hon hoq
      rw [h3] at h1 h2
      have h4 : RA P (sumA iv e A B) (rad2 p q) := rad2_rel L.ref hP hQ
      rw [← h2, ra2_inj L.ref (L.out h1) h4]

theorem LkD.neg (L : LkD iv e M P f) (p : Ap D6) : negP2 p = bif rcheck2 p then (rneg2P doO p, 0) else (Go.Rq.nonePD, 5) := by
  unfold negP2
  rw [L.check]
  cases hc : rcheck2 p with
  | false => rw [Bool.not_false, cond_true, cond_false]; rfl
  | true =>
    obtain ⟨-, A, hP, -⟩ := L.point hc
    have h1 := L.out (neg_rel L.rel (L.inn hP))
    have h2 : negE (foK iv) A = negK A := by
      unfold negE negK
      rw [foK_zero, foK_sub]
      congr 1
      rw [Rg.sub_eq]
      exact rg_zero_add _
    rw [h2] at h1
    rw [ra2_inj L.ref h1 (rneg2_rel L.ref hP), Bool.not_true, cond_false, cond_true, doO_eq]

theorem rin2_def (p : Ap D6) : rin2 p = bif rcheck2 p then (rml2 p orderW).zero else false := by unfold rin2 rin2G; rfl
theorem inGroup2_def (p : Ap D6) : inGroup2 p = bif belowP2 p then (bif onE fD eqD fld2 (inP2 p) then (lowerE fD eqD (timesD fld2 (raiseJ fD fld2 (inP2 p)) orderW)).zero else false) else false := by
  unfold inGroup2 inED inGD lowFD; rfl
theorem LkD.ing (L : LkD iv e M P f) (p : Ap D6) : inGroup2 p = bif rcheck2 p then rin2 p else false := by
  rw [inGroup2_def, rin2_def]
  cases hc : rcheck2 p with
  | true =>
    obtain ⟨hb, A, hP, hon⟩ := L.point hc
    have h1 := lower_rel L.rel (L.times L.fl (raise_rel L.rel L.fl (L.inn hP)) orderW)
    rw [times_low L.F L.f1 (on_none L.F hon) orderW (wdL_le orderW).2] at h1
    rw [hb, cond_true, L.on hc, cond_true, cond_true, cond_true, ← h1.z, (L.rmul hP orderW).z]
  | false =>
    rw [cond_false]
    cases hb : belowP2 p with
    | false => rfl
    | true =>
      rw [L.off hc hb]; rfl

theorem gen2_eq : gen2P = rgen2P := by
  unfold gen2P rgen2P
  exact ap_eq (by decide +kernel) (by decide +kernel)

def loO2 : LO D6 := ⟨rcheck2, checkP2, rin2, inGroup2, rgen2P, gen2P, rneg2P doO, negP2, rad2, addP2, rml2, sumP1D, twoLG⟩
theorem LkD.law (L : LkD iv e M P f) : LOk eqP25 Go.Rq.nonePD loO2 where
  on _ _ _ _ := rfl
  refl p := (eqP25_iff p p).2 rfl
  ck p := L.check p
  ig p := L.ing p
  ge := gen2_eq
  ne p := L.neg p
  ad p q := L.add p q
  mu p n := L.mul p n
end

/-! The second field. -/
section
variable {K : Type} [Rg K] {iv : K → K} {e : K → K → Bool} {R : K → W6 → Prop} {t : RO}

theorem drel_of (h : RRel R iv e t) : DRel (RD R) (ivD iv) (beqA e) t where
  mu := fun p q => ⟨h.sb (h.mu p.a q.a) (h.mu p.b q.b), h.ad (h.mu p.a q.b) (h.mu p.b q.a)⟩
  ad := fun p q => ⟨h.ad p.a q.a, h.ad p.b q.b⟩
  sb := fun {x y a b} p q => by
    have e1 := h.ad p.a (h.ne q.a)
    have e2 := h.ad p.b (h.ne q.b)
    rw [← Rg.sub_eq x.a y.a] at e1
    rw [← Rg.sub_eq x.b y.b] at e2
    exact ⟨e1, e2⟩
  ne := fun p => ⟨h.ne p.a, h.ne p.b⟩
  iv := fun p => by
    have n := h.iv (h.ad (h.mu p.a p.a) (h.mu p.b p.b))
    exact ⟨h.mu p.a n, h.ne (h.mu p.b n)⟩
  zero := by rw [dn_zero]; exact ⟨h.zero, h.zero⟩
  one := by rw [dn_one]; exact ⟨h.one, h.zero⟩
  eq := fun {x y a b} p q => by
    rw [eqW_D, ← h.eq p.a q.a, ← h.eq p.b q.b]; rfl
  inj := fun {x a b} p q => by
    obtain ⟨aa, ab⟩ := a
    obtain ⟨ba, bb⟩ := b
    have e1 := h.inj p.a q.a
    have e2 := h.inj p.b q.b
    simp at e1 e2
    rw [e1, e2]

end

theorem pair_to {J : Type} {Q M : J → W6 → Prop} {o : W6 → W6} (h : ∀ {x : J} {w : W6}, Q x w → M x (o w)) {x : DN J} {w : D6} (p : RD Q x w) : RD M x ⟨o w.a, o w.b⟩ := ⟨h p.a, h p.b⟩
theorem to2_eq (w : D6) : to2 fW w = ⟨toW w.a, toW w.b⟩ := by
  unfold to2
  rw [fW_to]
theorem back2_fW (w : D6) : back2 fW w = ⟨fromW w.a, fromW w.b⟩ := by
  unfold back2
  rw [fW_back]

theorem link2 : ∃ b : DN F1, LkD (ivD iv1) (beqA eq1) (RD RM) (RD RP) ⟨1, b⟩ := by
  obtain ⟨b, hb⟩ := rp_of four_lt
  have hm := rm_to hb
  refine ⟨⟨b, b⟩, fd2, relPairs relM, ?_, ?_, fun {x w} h => ?_, fun {x w} h => ?_, fun {w} h1 h2 => ?_, drel_of rrel1, rfl, ⟨hb, hb⟩, ⟨hm, hm⟩⟩
  · rw [dn_one]; exact ⟨rm_one, rm_zero⟩
  · rw [dn_zero]; exact ⟨rm_zero, rm_zero⟩
  · rw [to2_eq]; exact pair_to (Q := RP) (M := RM) (o := toW) rm_to h
  · rw [back2_fW]; exact pair_to (Q := RM) (M := RP) (o := fromW) rp_from h
  · obtain ⟨x, hx⟩ := rp_of h1
    obtain ⟨y, hy⟩ := rp_of h2
    exact ⟨⟨x, y⟩, hx, hy⟩
theorem loO2_ok : LOk eqP25 nonePD loO2 := by
  obtain ⟨b, L⟩ := link2
  exact L.law
end Go.Rq

/- What the functions on points answer at the chapter's examples. -/
namespace Go.Rq
open Go Go.Proofs

def zeroP : Ap W6 := ⟨zeroW, zeroW, true⟩
def errP : Ap W6 := ⟨zeroW, zeroW, false⟩
def oddP : Ap W6 := ⟨zeroW, ofW 2#64, false⟩
def badP : Ap W6 := ⟨ofW 1#64, zeroW, true⟩
def offP : Ap W6 := ⟨ofW 1#64, ofW 1#64, false⟩
def ngP : Ap W6 := ⟨⟨0xfb3af00adb22c6bb#64, 0x6c55e83ff97a1aef#64, 0xa14e3a3f171bac58#64, 0xc3688c4f9774b905#64, 0x2695638c4fa9ac0f#64, 0x17f1d3a73197d794#64⟩, ⟨0xad54dcd6b939c2ca#64, 0x4e6f38ba0ecb751b#64, 0x6655b9d5caac4236#64, 0x67816aef1db507c9#64, 0xaa7d76c8cf2e21f2#64, 0x114d1d6855d545a8#64⟩, false⟩
def dbP : Ap W6 := ⟨⟨0xc39a8c5529bf0f4e#64, 0xe28f75bb8f1c7c42#64, 0x43902d0ac358a62a#64, 0x9721db3091280125#64, 0x8808c8eb50a9450c#64, 0x572cbea904d6746#64⟩, ⟨0xba86881979749d28#64, 0x4c56d9d4cd16bd1b#64, 0xf73bb9021d5fd76a#64, 0x22ba3ecb8670e461#64, 0x22fda673779d8e38#64, 0x166a9d8cabc673a3#64⟩, false⟩
def moreW : W6 := ⟨0xffffffff00000002#64, 0x53bda402fffe5bfe#64, 0x3339d80809a1d805#64, 0x73eda753299d7d48#64, 0x0#64, 0x0#64⟩
set_option maxRecDepth 1000000 in
theorem below_gen : belowP1 gen1P = true := by kernel_rfl
set_option maxRecDepth 1000000 in
theorem check_gen : checkP1 gen1P = true := by
  rw [check1_of]; kernel_rfl
set_option maxRecDepth 1000000 in
theorem below_zero : belowP1 zeroP = true := by kernel_rfl
set_option maxRecDepth 1000000 in
theorem check_zero : checkP1 zeroP = true := by
  rw [check1_of]; kernel_rfl
set_option maxRecDepth 1000000 in
theorem below_odd : belowP1 oddP = true := by kernel_rfl
set_option maxRecDepth 1000000 in
theorem check_odd : checkP1 oddP = true := by
  rw [check1_of]; kernel_rfl
set_option maxRecDepth 1000000 in
theorem below_bad : belowP1 badP = true := by kernel_rfl
set_option maxRecDepth 1000000 in
theorem check_bad : checkP1 badP = false := by
  rw [check1_of]; kernel_rfl
set_option maxRecDepth 1000000 in
theorem below_off : belowP1 offP = true := by kernel_rfl
set_option maxRecDepth 1000000 in
theorem check_off : checkP1 offP = false := by
  rw [check1_of]; kernel_rfl
set_option maxRecDepth 1000000 in
theorem in_gen : inGroup1 gen1P = true := by
  rw [in1_of]; kernel_rfl
set_option maxRecDepth 1000000 in
theorem in_odd : inGroup1 oddP = false := by
  rw [in1_of]; kernel_rfl
set_option maxRecDepth 1000000 in
theorem below_ng : belowP1 ngP = true := by kernel_rfl
set_option maxRecDepth 1000000 in
theorem neg_gen : negP1 gen1P = (ngP, 0) := neg1_of check_gen (by kernel_rfl) (by kernel_rfl) rfl
set_option maxRecDepth 1000000 in
theorem add_ng : addP1 gen1P ngP = (zeroP, 0) := add1_of below_gen below_ng (by kernel_rfl)
set_option maxRecDepth 1000000 in
theorem add_off : addP1 gen1P offP = (errP, 5) := add1_of below_gen below_off (by kernel_rfl)
set_option maxRecDepth 1000000 in
theorem add_gen : addP1 gen1P gen1P = (dbP, 0) := add1_of below_gen below_gen (by kernel_rfl)
set_option maxRecDepth 1000000 in
theorem mul_zero : sumP1W gen1P zeroW = (zeroP, 0) := mul1_of below_gen (by kernel_rfl)
set_option maxRecDepth 1000000 in
theorem mul_order : sumP1W gen1P orderW = (zeroP, 0) := mul1_of below_gen (by kernel_rfl)
set_option maxRecDepth 1000000 in
theorem mul_two : sumP1W gen1P (ofW 2#64) = (dbP, 0) := mul1_of below_gen (by kernel_rfl)
set_option maxRecDepth 1000000 in
theorem below_gen2 : belowP2 gen2P = true := by kernel_rfl
set_option maxRecDepth 1000000 in
theorem check_gen2 : checkP2 gen2P = true := by
  rw [check2_of]; kernel_rfl
set_option maxRecDepth 1000000 in
theorem mul_more : sumP1D gen2P moreW = (gen2P, 0) := mul2_of below_gen2 (by kernel_rfl)
end Go.Rq

/- The functions at the chapter's examples. -/
namespace Go.Rq
open Go Go.Proofs

def eqAp (a b : Ap W6) : Bool := bif eqW a.x b.x then (bif eqW a.y b.y then a.zero == b.zero else false) else false
theorem eqAp_ok (a b : Ap W6) (h : eqAp a b = true) : a = b := by
  obtain ⟨ax, ay, az⟩ := a
  obtain ⟨bx, bw, bz⟩ := b
  unfold eqAp at h
  dsimp only at h
  cases h1 : eqW ax bx with
  | false => rw [h1] at h; cases h
  | true =>
    cases h2 : eqW ay bw with
    | false => rw [h1, h2] at h; cases h
    | true =>
      rw [h1, h2] at h
      have h3 : az = bz := by simpa using h
      rw [(eqW_iff _ _).1 h1, (eqW_iff _ _).1 h2, h3]
def eqAd (a b : Ap D6) : Bool := bif eqD a.x b.x then (bif eqD a.y b.y then a.zero == b.zero else false) else false
theorem eqAd_ok (a b : Ap D6) (h : eqAd a b = true) : a = b := by
  obtain ⟨ax, ay, az⟩ := a
  obtain ⟨bx, bw, bz⟩ := b
  unfold eqAd at h
  dsimp only at h
  cases h1 : eqD ax bx with
  | false => rw [h1] at h; cases h
  | true =>
    cases h2 : eqD ay bw with
    | false => rw [h1, h2] at h; cases h
    | true =>
      rw [h1, h2] at h
      have h3 : az = bz := by simpa using h
      rw [(eqD_iff _ _).1 h1, (eqD_iff _ _).1 h2, h3]
theorem eqW_ok (a b : W6) (h : eqW a b = true) : a = b := (eqW_iff a b).1 h

def tCheck1 : List (Ap W6 × Bool) := [(zeroP, true), (oddP, true), (badP, false), (offP, false), (gen1P, true)]
theorem tCheck1_ok : ∀ p ∈ tCheck1, checkP1 p.1 = p.2 := fun p hp => by
  simp only [tCheck1, List.mem_cons, List.not_mem_nil, or_false] at hp
  rcases hp with rfl | rfl | rfl | rfl | rfl
  · exact check_zero
  · exact check_odd
  · exact check_bad
  · exact check_off
  · exact check_gen
def tIn1 : List (Ap W6 × Bool) := [(gen1P, true), (oddP, false)]
theorem tIn1_ok : ∀ p ∈ tIn1, inGroup1 p.1 = p.2 := fun p hp => by
  simp only [tIn1, List.mem_cons, List.not_mem_nil, or_false] at hp
  rcases hp with rfl | rfl
  · exact in_gen
  · exact in_odd
def tNeg1 : List (Ap W6 × (Ap W6 × Int)) := [(gen1P, (ngP, 0))]
theorem tNeg1_ok : ∀ p ∈ tNeg1, negP1 p.1 = p.2 := fun p hp => by
  simp only [tNeg1, List.mem_cons, List.not_mem_nil, or_false] at hp
  rw [hp]
  exact neg_gen
def tAdd1 : List ((Ap W6 × Ap W6) × (Ap W6 × Int)) := [((gen1P, ngP), (zeroP, 0)), ((gen1P, offP), (errP, 5)), ((gen1P, gen1P), (dbP, 0))]
theorem tAdd1_ok : ∀ p ∈ tAdd1, addP1 p.1.1 p.1.2 = p.2 := fun p hp => by
  simp only [tAdd1, List.mem_cons, List.not_mem_nil, or_false] at hp
  rcases hp with rfl | rfl | rfl
  · exact add_ng
  · exact add_off
  · exact add_gen
def tMul1 : List ((Ap W6 × W6) × (Ap W6 × Int)) := [((gen1P, zeroW), (zeroP, 0)), ((gen1P, orderW), (zeroP, 0)), ((gen1P, ofW 2#64), (dbP, 0))]
theorem tMul1_ok : ∀ p ∈ tMul1, sumP1W p.1.1 p.1.2 = p.2 := fun p hp => by
  simp only [tMul1, List.mem_cons, List.not_mem_nil, or_false] at hp
  rcases hp with rfl | rfl | rfl
  · exact mul_zero
  · exact mul_order
  · exact mul_two
def tMul2 : List ((Ap D6 × W6) × (Ap D6 × Int)) := [((gen2P, moreW), (gen2P, 0))]
theorem tMul2_ok : ∀ p ∈ tMul2, sumP1D p.1.1 p.1.2 = p.2 := fun p hp => by
  simp only [tMul2, List.mem_cons, List.not_mem_nil, or_false] at hp
  rw [hp]
  exact mul_more
def tCheck2 : List (Ap D6 × Bool) := [(gen2P, true)]
theorem tCheck2_ok : ∀ p ∈ tCheck2, checkP2 p.1 = p.2 := fun p hp => by
  simp only [tCheck2, List.mem_cons, List.not_mem_nil, or_false] at hp
  rw [hp]
  exact check_gen2

/-! The sum of two numbers. -/
def wAddW (a b : W6) : W6 × Bool := ((adds a b).1, (adds a b).2 == true)
def wAddT : PureTab := [(114, fn3 kU kU kBit kUB add64)]
theorem wAddT_ok : TabPOk PR wAddT := TabPOk.cons add64_ok TabPOk.nil
theorem wadd_ctx : Ctx PR (envOf eqsT wAddT) [] (fun _ => none) 40 61 :=
  ctx_of (envOf_ok eqsT_ok wAddT_ok) mixed (fn := Try.f61) (by kernel_rfl) (by kernel_rfl) (by kernel_rfl) (tabOk_none _)
set_option maxRecDepth 100000 in
theorem wadd_run (a b : W6) : (afunR PR (envOf eqsT wAddT) [] (fun _ => none) 40 61 [c6.agg.enc a, c6.agg.enc b]).strict = .leaf (kWB.enc (wAddW a b)) := by kernel_rfl
theorem wadd_ok : CallOk PR 61 (fn2 c6.agg c6.agg kWB wAddW) :=
  .inl ⟨enters_of (fn := Try.f61) (by kernel_rfl) (by kernel_rfl) (by kernel_rfl), pure2 wadd_ctx (fun a b => leafVal (B := kWB) (y := wAddW a b) (wadd_run a b))⟩

/-! The digits of the generator. -/
def textT : PureTab := [(116, fn1 c6.agg (kInt .i64) lenI)]
theorem textT_ok : TabPOk PR textT := TabPOk.cons len_ok TabPOk.nil
noncomputable def textE : Env := envS eqsT textT [] [9]
theorem textE_ok : EnvOk PR textE := envS_ok eqsT_ok textT_ok TabHOk.nil
theorem text_ctx : Ctx PR textE [] (fun _ => none) 110 65 :=
  ctx_of textE_ok mixed (fn := Try.f65) (by kernel_rfl) (by kernel_rfl) (by kernel_rfl) (tabOk_none _)
set_option maxRecDepth 1000000 in
theorem text_run : (afunR PR textE [] (fun _ => none) 110 65 [c6.agg.enc genN0]).strict = .leaf (kStr.enc genS0) := by kernel_rfl
def tText : List (W6 × ByteArray) := [(genN0, genS0)]
theorem text_ok : CallOk PR 65 (fnT1 c6.agg kStr eqW tText) :=
  .inl ⟨enters_of (fn := Try.f65) (by kernel_rfl) (by kernel_rfl) (by kernel_rfl), tabT1 (B := kStr) text_ctx eqW_ok (fun p hp => by
    simp only [tText, List.mem_cons, List.not_mem_nil, or_false] at hp
    rw [hp]
    exact leafVal (B := kStr) text_run)⟩

/-! Sums of unlike lists. -/
noncomputable def gaV : Env := envH eqsT [] []
theorem gaV_ok : EnvOk PR gaV := envH_ok eqsT_ok TabPOk.nil TabHOk.nil
theorem gaV_ctx : Ctx PR gaV [] (fun _ => none) 10 112 :=
  ctx_of gaV_ok mixed (fn := Try.f112) (by kernel_rfl) (by kernel_rfl) (by kernel_rfl) (tabOk_none _)
noncomputable def suV : Env := envH eqsT (suTW suOW) [(112, viewG PR gaV [] 10 112)]
theorem suV_ok : EnvOk PR suV := envH_ok eqsT_ok suT_okW (TabHOk.cons ga_entW (view_ok gaV_ctx) TabHOk.nil)
theorem suV_ctx : Ctx PR suV [] (fun _ => none) 10 56 :=
  ctx_of suV_ok mixed (fn := Try.f56) (by kernel_rfl) (by kernel_rfl) (by kernel_rfl) (tabOk_none _)

/-! The functions, at the examples. -/
def knT0 : PureTab := [(33, fn0 aW.agg gen1P), (46, fn0 aD.agg gen2P), (63, fn1 kU c6.agg ofW), (64, fn0 c6.agg orderW),
  (30, fnT1 aW.agg kBool eqAp tCheck1), (43, fnT1 aD.agg kBool eqAd tCheck2), (31, fnT1 aW.agg kBool eqAp tIn1), (35, fnT1 aW.agg kPW eqAp tNeg1),
  (36, fnT2 aW.agg aW.agg kPW eqAp eqAp tAdd1), (37, fnT2 aW.agg c6.agg kPW eqAp eqW tMul1), (50, fnT2 aD.agg c6.agg kPD eqAd eqW tMul2),
  (61, fn2 c6.agg c6.agg kWB wAddW), (65, fnT1 c6.agg kStr eqW tText)]
theorem knT0_ok : TabPOk PR knT0 :=
  TabPOk.cons gen1_ok (TabPOk.cons gen2_ok (TabPOk.cons of_ok (TabPOk.cons order_ok (TabPOk.cons (callT1 eqAp_ok tCheck1_ok checkp1_ok) (TabPOk.cons (callT1 eqAd_ok tCheck2_ok checkp2_ok) (TabPOk.cons (callT1 eqAp_ok tIn1_ok isinp1_ok)
  (TabPOk.cons (callT1 eqAp_ok tNeg1_ok negp1_ok) (TabPOk.cons (callT2 eqAp_ok eqAp_ok tAdd1_ok addp1_ok) (TabPOk.cons (callT2 eqAp_ok eqW_ok tMul1_ok mulp1_ok) (TabPOk.cons (callT2 eqAd_ok eqW_ok tMul2_ok mulp2_ok) (TabPOk.cons wadd_ok (TabPOk.cons text_ok TabPOk.nil))))))))))))
noncomputable def awE : Env := envH eqsT knT0 []
theorem awE_ok : EnvOk PR awE := envH_ok eqsT_ok knT0_ok TabHOk.nil
theorem aw_ctx : Ctx PR awE [] (fun _ => none) 10 55 :=
  ctx_of awE_ok mixed (fn := Try.f55) (by kernel_rfl) (by kernel_rfl) (by kernel_rfl) (tabOk_none _)
end Go.Rq

/- The law on the chapter's examples: what its function comes to. -/
namespace Go.Rq
open Go Go.Proofs

set_option maxRecDepth 1000000 in
theorem aw_run : (afunR PR awE [] (fun _ => none) 10 55 []).strict = .leaf (.v (.bool true)) := by kernel_rfl
theorem aw_ok : CallOk PR 55 (fn0 kBool true) :=
  .inl ⟨enters_of (fn := Try.f55) (by kernel_rfl) (by kernel_rfl) (by kernel_rfl), pure0 aw_ctx (givesOf aw_run (holds_leaf (v := kBool.val true) rfl))⟩

def knT : PureTab := (55, fn0 kBool true) :: knT0
theorem knT_ok : TabPOk PR knT := TabPOk.cons aw_ok knT0_ok
noncomputable def knE : Env := envH eqsT knT [(56, viewG PR suV [] 10 56)]
theorem knE_ok : EnvOk PR knE := envH_ok eqsT_ok knT_ok (TabHOk.cons su_entW (view_ok suV_ctx) TabHOk.nil)
theorem kn_ctx : Ctx PR knE [] (fun _ => none) 10 10 :=
  ctx_of knE_ok mixed (fn := Try.f10) (by kernel_rfl) (by kernel_rfl) (by kernel_rfl) (tabOk_none _)
set_option maxRecDepth 1000000 in
theorem kn_run : (afunR PR knE [] (fun _ => none) 10 10 []).strict = .leaf (.v (.bool true)) := by kernel_rfl
end Go.Rq

/- The laws CurveGroup1 and CurveGroup2, gone through: what is called left open. -/
namespace Go.Rq
open Go Go.Proofs

structure GP (K : Type) where
  ck : Ap K → Bool
  ad : Ap K → Ap K → Ap K × Int
  ne : Ap K → Ap K × Int

def grT : Tree AV := .leaf (kBool.enc true)
def grF : Tree AV := .leaf (.lit false)
def grpEnd {K : Type} (eqP : Ap K → Ap K → Bool) (zp : Ap K) (t : GP K) (a b c : Ap K) : Tree AV :=
  .br (eqP (t.ad a b).1 (t.ad b a).1) (.br (eqP (t.ad (t.ad a b).1 c).1 (t.ad a (t.ad b c).1).1) (.br (eqP (t.ad a (t.ne a).1).1 zp) (.br (eqP (t.ad a zp).1 a) (.leaf (kBool.enc (t.ck (t.ad (t.ad a b).1 c).1))) grF) grF) grF) grF
def grpTree {K : Type} (eqP : Ap K → Ap K → Bool) (zp : Ap K) (t : GP K) (a b c : Ap K) : Tree AV :=
  .br (!t.ck a) grT (.br (!t.ck b) grT (.br (!t.ck c) grT
    (.br ((t.ad a b).2 == 0) (.br ((t.ad b a).2 == 0) (.br ((t.ad b c).2 == 0) (.br ((t.ad (t.ad a b).1 c).2 == 0) (.br ((t.ad a (t.ad b c).1).2 == 0) (.br ((t.ne a).2 == 0) (.br ((t.ad a (t.ne a).1).2 == 0) (.br ((t.ad a zp).2 == 0)
      (grpEnd eqP zp t a b c) grF)
      (.br false (grpEnd eqP zp t a b c) grF)) (.br false (grpEnd eqP zp t a b c) grF)) (.br false (grpEnd eqP zp t a b c) grF)) (.br false (grpEnd eqP zp t a b c) grF)) (.br false (grpEnd eqP zp t a b c) grF)) (.br false (grpEnd eqP zp t a b c) grF)) (.br false (grpEnd eqP zp t a b c) grF))))

def gpT1 (t : GP W6) : PureTab := [(55, fn0 kBool true), (30, fn1 aW.agg kBool t.ck), (36, fn2 aW.agg aW.agg kPW t.ad), (35, fn1 aW.agg kPW t.ne)]
noncomputable def gpE1 (t : GP W6) : Env := envH eqsT (gpT1 t) []
def zeroP1 : Ap W6 := ⟨zeroW, zeroW, true⟩
set_option maxRecDepth 1000000 in
theorem group1_law (t : GP W6) (a b c : Ap W6) : (afunR PR (gpE1 t) [29, 34, 38, 89, 93, 97, 101, 105, 109, 113, 121, 126, 131, 136, 141] (fun _ => none) 10 6 [aW.agg.enc a, aW.agg.enc b, aW.agg.enc c]).strict = grpTree eqP13 zeroP1 t a b c := by kernel_rfl

def gpT2 (t : GP D6) : PureTab := [(55, fn0 kBool true), (43, fn1 aD.agg kBool t.ck), (49, fn2 aD.agg aD.agg kPD t.ad), (48, fn1 aD.agg kPD t.ne)]
noncomputable def gpE2 (t : GP D6) : Env := envH eqsT (gpT2 t) []
def zeroP2 : Ap D6 := ⟨zeroD, zeroD, true⟩
set_option maxRecDepth 1000000 in
theorem group2_law (t : GP D6) (a b c : Ap D6) : (afunR PR (gpE2 t) [29, 34, 38, 89, 93, 97, 101, 105, 109, 113, 121, 126, 131, 136, 141] (fun _ => none) 10 8 [aD.agg.enc a, aD.agg.enc b, aD.agg.enc c]).strict = grpTree eqP25 zeroP2 t a b c := by kernel_rfl

/-- What makes the laws true. -/
structure GPOk {K : Type} (eqP : Ap K → Ap K → Bool) (zp : Ap K) (t : GP K) : Prop where
  refl : ∀ p, eqP p p = true
  ad : ∀ p q, t.ck p = true → t.ck q = true → (t.ad p q).2 = 0 ∧ t.ck (t.ad p q).1 = true
  ne : ∀ p, t.ck p = true → (t.ne p).2 = 0 ∧ t.ck (t.ne p).1 = true
  zc : t.ck zp = true
  comm : ∀ p q, t.ck p = true → t.ck q = true → (t.ad p q).1 = (t.ad q p).1
  assoc : ∀ p q r, t.ck p = true → t.ck q = true → t.ck r = true → (t.ad (t.ad p q).1 r).1 = (t.ad p (t.ad q r).1).1
  neg : ∀ p, t.ck p = true → (t.ad p (t.ne p).1).1 = zp
  zero : ∀ p, t.ck p = true → (t.ad p zp).1 = p

theorem grT_ok : grT.holds (fun q => flat q = some (.bool true)) := rfl
theorem go_on {c : Bool} {x y : Tree AV} (hc : c = true) (h : x.holds (fun q => flat q = some (.bool true))) : (Tree.br c x y).holds (fun q => flat q = some (.bool true)) := ⟨fun _ => h, fun hf => by rw [hc] at hf; cases hf⟩
theorem eq_zero {z : Int} (h : z = 0) : (z == 0) = true := by rw [h]; rfl
theorem grpTree_true {K : Type} {eqP : Ap K → Ap K → Bool} {zp : Ap K} {t : GP K} (h : GPOk eqP zp t) (a b c : Ap K) : (grpTree eqP zp t a b c).holds (fun q => flat q = some (.bool true)) := by
  unfold grpTree grpEnd
  refine ⟨fun _ => grT_ok, fun ha => ⟨fun _ => grT_ok, fun hb => ⟨fun _ => grT_ok, fun hc => ?_⟩⟩⟩
  have ha : t.ck a = true := by simpa using ha
  have hb : t.ck b = true := by simpa using hb
  have hc : t.ck c = true := by simpa using hc
  obtain ⟨e1, k1⟩ := h.ad a b ha hb
  obtain ⟨e2, k2⟩ := h.ad b a hb ha
  obtain ⟨e3, k3⟩ := h.ad b c hb hc
  obtain ⟨e4, k4⟩ := h.ad _ c k1 hc
  obtain ⟨e5, k5⟩ := h.ad a _ ha k3
  obtain ⟨e6, k6⟩ := h.ne a ha
  obtain ⟨e7, k7⟩ := h.ad a _ ha k6
  obtain ⟨e8, k8⟩ := h.ad a zp ha h.zc
  refine go_on (eq_zero e1) (go_on (eq_zero e2) (go_on (eq_zero e3) (go_on (eq_zero e4) (go_on (eq_zero e5) (go_on (eq_zero e6) (go_on (eq_zero e7) (go_on (eq_zero e8) (go_on ?_ (go_on ?_ (go_on ?_ (go_on ?_ ?_)))))))))))
  · rw [h.comm a b ha hb]; exact h.refl _
  · rw [h.assoc a b c ha hb hc]; exact h.refl _
  · rw [h.neg a ha]; exact h.refl _
  · rw [h.zero a ha]; exact h.refl _
  · rw [k4]; rfl
end Go.Rq
