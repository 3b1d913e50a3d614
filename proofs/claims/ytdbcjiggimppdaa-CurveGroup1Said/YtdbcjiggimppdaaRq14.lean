/- The reference's points of the second curve: contracts. Written by a program of ours. -/
import Derived.Test.YtdbcjiggimppdaaRq13
import Derived.Test.YtdbcjiggimppdaaRq07
import Derived.Test.YtdbcjiggimppdaaRq08
namespace Go.Rq
open Go Go.Proofs

/-- The reference's elements of two parts, left open. -/
structure DO where
  mu : D6 → D6 → D6
  ad : D6 → D6 → D6
  sb : D6 → D6 → D6
  iv : D6 → D6
  ne : D6 → D6
def doT (t : DO) : PureTab := [(99, fn2 c12.agg c12.agg c12.agg t.mu), (148, fn2 c12.agg c12.agg c12.agg t.ad), (109, fn2 c12.agg c12.agg c12.agg t.sb), (160, fn1 c12.agg c12.agg t.iv), (110, fn1 c12.agg c12.agg t.ne)]
def doO : DO := ⟨rmul2G roO, radd2G roO, rsub2G roO, rinv2G roO, rneg2G roO⟩
theorem doT_eq : [(99, fn2 c12.agg c12.agg c12.agg (rmul2G roO)), (148, fn2 c12.agg c12.agg c12.agg (radd2G roO)), (109, fn2 c12.agg c12.agg c12.agg (rsub2G roO)), (160, fn1 c12.agg c12.agg (rinv2G roO)), (110, fn1 c12.agg c12.agg (rneg2G roO))] = doT doO := by kernel_rfl
theorem doT_ok : TabPOk PR (doT doO) := Eq.subst (motive := TabPOk PR) doT_eq (TabPOk.cons rmul2_ok (TabPOk.cons radd2_ok (TabPOk.cons rsub2_ok (TabPOk.cons rinv2_ok (TabPOk.cons rneg2_ok TabPOk.nil)))))

/-! What is added in the equation. -/
def fourD : D6 := ⟨ofW 4#64, ofW 4#64⟩
theorem rfour_ctx : Ctx PR (envOf eqsT []) [] (fun _ => none) 10 149 :=
  ctx_of (envOf_ok eqsT_ok TabPOk.nil) mixed (fn := Try.f149) (by kernel_rfl) (by kernel_rfl) (by kernel_rfl) (tabOk_none _)
theorem rfour_run : (afunR PR (envOf eqsT []) [] (fun _ => none) 10 149 []).strict = .leaf (c12.agg.enc fourD) := by kernel_rfl
theorem rfour_ok : CallOk PR 149 (fn0 c12.agg fourD) :=
  .inl ⟨enters_of (fn := Try.f149) (by kernel_rfl) (by kernel_rfl) (by kernel_rfl), pure0 rfour_ctx (leafVal (B := c12.agg) (y := fourD) rfour_run)⟩

def rside2G (t : DO) (four : D6) (x : D6) : D6 := t.ad (t.mu (t.mu x x) x) four
def rsd2T (t : DO) (four : D6) : PureTab := (149, fn0 c12.agg four) :: doT t
theorem rside2_run (t : DO) (four : D6) (x : D6) : (afunR PR (envOf eqsT (rsd2T t four)) [] (fun _ => none) 40 100 [c12.agg.enc x]).strict = .leaf (c12.agg.enc (rside2G t four x)) := by kernel_rfl
theorem rside2_ctx : Ctx PR (envOf eqsT (rsd2T doO fourD)) [] (fun _ => none) 40 100 :=
  ctx_of (envOf_ok eqsT_ok (TabPOk.cons rfour_ok doT_ok)) mixed (fn := Try.f100) (by kernel_rfl) (by kernel_rfl) (by kernel_rfl) (tabOk_none _)
theorem rside2_ok : CallOk PR 100 (fn1 c12.agg c12.agg (rside2G doO fourD)) :=
  .inl ⟨enters_of (fn := Try.f100) (by kernel_rfl) (by kernel_rfl) (by kernel_rfl), pure1 rside2_ctx (fun a => leafVal (B := c12.agg) (y := rside2G doO fourD a) (rside2_run doO fourD a))⟩

/-! Is it a point? -/
set_option maxRecDepth 100000
def rck2T (t : DO) (bl : W6 → Bool) (sd : D6 → D6) : PureTab := (80, fn1 c6.agg kBool bl) :: (100, fn1 c12.agg c12.agg sd) :: doT t
theorem rck2_run (t : DO) (bl : W6 → Bool) (sd : D6 → D6) (p : Ap D6) : (afunR PR (envOf eqsT (rck2T t bl sd)) [4, 9, 19, 25, 31, 37] (fun _ => none) 40 42 [aD.agg.enc p]).strict =
    .br p.zero (.br (eqD p.x zeroD) (.leaf (kBool.enc (eqD p.y zeroD))) (.leaf (.lit false)))
      (.br (bl p.x.a) (.br (bl p.x.b) (.br (bl p.y.a) (.br (bl p.y.b) (.leaf (kBool.enc (eqD (t.mu p.y p.y) (sd p.x)))) (.leaf (.lit false))) (.leaf (.lit false))) (.leaf (.lit false))) (.leaf (.lit false))) := by kernel_rfl
def rcheck2G (t : DO) (bl : W6 → Bool) (sd : D6 → D6) (p : Ap D6) : Bool := bif p.zero then (bif eqD p.x zeroD then eqD p.y zeroD else false) else
  bif bl p.x.a then (bif bl p.x.b then (bif bl p.y.a then (bif bl p.y.b then eqD (t.mu p.y p.y) (sd p.x) else false) else false) else false) else false
theorem noHolds : (Tree.leaf (AV.lit false)).holds (fun q => flat q = some (kBool.val false)) := holds_leaf (a := .lit false) (v := kBool.val false) rfl
theorem rck2_gives (t : DO) (bl : W6 → Bool) (sd : D6 → D6) (p : Ap D6) : Gives (afunR PR (envOf eqsT (rck2T t bl sd)) [4, 9, 19, 25, 31, 37] (fun _ => none) 40 42 [aD.agg.enc p]) (kBool.val (rcheck2G t bl sd p)) :=
  givesOf (rck2_run t bl sd p)
    (holds_br (B := kBool) (holds_br (B := kBool) (holds_leaf (kBool.h1 _)) noHolds) (holds_br (B := kBool) (holds_br (B := kBool) (holds_br (B := kBool) (holds_br (B := kBool) (holds_leaf (kBool.h1 _)) noHolds) noHolds) noHolds) noHolds))
def rcheck2 : Ap D6 → Bool := rcheck2G doO belowI (rside2G doO fourD)
theorem rck2_ctx : Ctx PR (envOf eqsT (rck2T doO belowI (rside2G doO fourD))) [4, 9, 19, 25, 31, 37] (fun _ => none) 40 42 :=
  ctx_of (envOf_ok eqsT_ok (TabPOk.cons rbelow_ok (TabPOk.cons rside2_ok doT_ok))) mixed (fn := Try.f42) (by kernel_rfl) (by kernel_rfl) (by kernel_rfl) (tabOk_none _)
theorem rck2_ok : CallOk PR 42 (fn1 aD.agg kBool rcheck2) :=
  .inl ⟨enters_of (fn := Try.f42) (by kernel_rfl) (by kernel_rfl) (by kernel_rfl), pure1 rck2_ctx (fun p => rck2_gives doO belowI (rside2G doO fourD) p)⟩

/-! The negated one. -/
def rneg2P (t : DO) (p : Ap D6) : Ap D6 := ⟨p.x, t.ne p.y, p.zero⟩
theorem rneg2P_run (t : DO) (p : Ap D6) : (afunR PR (envOf eqsT (doT t)) [] (fun _ => none) 40 53 [aD.agg.enc p]).strict = .leaf (aD.agg.enc (rneg2P t p)) := by kernel_rfl
theorem rneg2P_ctx : Ctx PR (envOf eqsT (doT doO)) [] (fun _ => none) 40 53 :=
  ctx_of (envOf_ok eqsT_ok doT_ok) mixed (fn := Try.f53) (by kernel_rfl) (by kernel_rfl) (by kernel_rfl) (tabOk_none _)
theorem rneg2P_ok : CallOk PR 53 (fn1 aD.agg aD.agg (rneg2P doO)) :=
  .inl ⟨enters_of (fn := Try.f53) (by kernel_rfl) (by kernel_rfl) (by kernel_rfl), pure1 rneg2P_ctx (fun p => leafVal (B := aD.agg) (y := rneg2P doO p) (rneg2P_run doO p))⟩

/-! The sum by the slope. -/
def eqP25 (a b : Ap D6) : Bool := (a.x.a.w0 == b.x.a.w0) && ((a.x.a.w1 == b.x.a.w1) && ((a.x.a.w2 == b.x.a.w2) && ((a.x.a.w3 == b.x.a.w3) && ((a.x.a.w4 == b.x.a.w4) && ((a.x.a.w5 == b.x.a.w5) && ((a.x.b.w0 == b.x.b.w0) && ((a.x.b.w1 == b.x.b.w1) && ((a.x.b.w2 == b.x.b.w2) && ((a.x.b.w3 == b.x.b.w3) && ((a.x.b.w4 == b.x.b.w4) && ((a.x.b.w5 == b.x.b.w5) && ((a.y.a.w0 == b.y.a.w0) && ((a.y.a.w1 == b.y.a.w1) && ((a.y.a.w2 == b.y.a.w2) && ((a.y.a.w3 == b.y.a.w3) && ((a.y.a.w4 == b.y.a.w4) && ((a.y.a.w5 == b.y.a.w5) && ((a.y.b.w0 == b.y.b.w0) && ((a.y.b.w1 == b.y.b.w1) && ((a.y.b.w2 == b.y.b.w2) && ((a.y.b.w3 == b.y.b.w3) && ((a.y.b.w4 == b.y.b.w4) && ((a.y.b.w5 == b.y.b.w5) && ((a.zero == b.zero) && true))))))))))))))))))))))))
def rslopeA (t : DO) (a : Ap D6) : D6 := t.mu (t.ad (t.ad (t.mu a.x a.x) (t.mu a.x a.x)) (t.mu a.x a.x)) (t.iv (t.ad a.y a.y))
def rslopeB (t : DO) (a b : Ap D6) : D6 := t.mu (t.sb b.y a.y) (t.iv (t.sb b.x a.x))
theorem rslope_run (t : DO) (a b : Ap D6) : (afunR PR (envOf eqsT (doT t)) [8] (fun _ => none) 40 108 [aD.agg.enc a, aD.agg.enc b]).strict =
    .br (eqP25 a b) (.leaf (c12.agg.enc (rslopeA t a))) (.leaf (c12.agg.enc (rslopeB t a b))) := by kernel_rfl
def rslope (t : DO) (a b : Ap D6) : D6 := bif eqP25 a b then rslopeA t a else rslopeB t a b
theorem rslope_gives (t : DO) (a b : Ap D6) : Gives (afunR PR (envOf eqsT (doT t)) [8] (fun _ => none) 40 108 [aD.agg.enc a, aD.agg.enc b]) (c12.agg.val (rslope t a b)) :=
  givesOf (rslope_run t a b) (holds_br (B := c12.agg) (holds_leaf (c12.agg.h1 _)) (holds_leaf (c12.agg.h1 _)))
theorem rslope_ctx : Ctx PR (envOf eqsT (doT doO)) [8] (fun _ => none) 40 108 :=
  ctx_of (envOf_ok eqsT_ok doT_ok) mixed (fn := Try.f108) (by kernel_rfl) (by kernel_rfl) (by kernel_rfl) (tabOk_none _)
theorem rslope_ok : CallOk PR 108 (fn2 aD.agg aD.agg c12.agg (rslope doO)) :=
  .inl ⟨enters_of (fn := Try.f108) (by kernel_rfl) (by kernel_rfl) (by kernel_rfl), pure2 rslope_ctx (fun a b => rslope_gives doO a b)⟩
def rchord2 (t : DO) (a b : Ap D6) (m : D6) : Ap D6 :=
  let x := t.sb (t.sb (t.mu m m) a.x) b.x
  ⟨x, t.sb (t.mu m (t.sb a.x x)) a.y, false⟩
def apD (p : Ap D6) (z : Bool) : AV := .agg (c12.enc p.x ++ (c12.enc p.y ++ [.lit z]))
theorem apD_flat (p : Ap D6) (z : Bool) (h : p.zero = z) : flat (apD p z) = some (aD.agg.val p) := by
  obtain ⟨x, y, w⟩ := p
  simp at h; subst h
  exact apFlatD x y w
def rad2T (t : DO) (N : Ap D6 → Ap D6) (S : Ap D6 → Ap D6 → D6) : PureTab := (53, fn1 aD.agg aD.agg N) :: (108, fn2 aD.agg aD.agg c12.agg S) :: doT t
theorem rad2_run (t : DO) (N : Ap D6 → Ap D6) (S : Ap D6 → Ap D6 → D6) (a b : Ap D6) : (afunR PR (envOf eqsT (rad2T t N S)) [8, 11, 16] (fun _ => none) 40 52 [aD.agg.enc a, aD.agg.enc b]).strict =
    .br a.zero (.leaf (aD.agg.enc b)) (.br b.zero (.leaf (aD.agg.enc a)) (.br (eqP25 a (N b)) (.leaf (apD ⟨zeroD, zeroD, true⟩ true)) (.leaf (apD (rchord2 t a b (S a b)) false)))) := by kernel_rfl
def rad2G (t : DO) (N : Ap D6 → Ap D6) (S : Ap D6 → Ap D6 → D6) (a b : Ap D6) : Ap D6 := bif a.zero then b else bif b.zero then a else bif eqP25 a (N b) then ⟨zeroD, zeroD, true⟩ else rchord2 t a b (S a b)
theorem rad2_gives (t : DO) (N : Ap D6 → Ap D6) (S : Ap D6 → Ap D6 → D6) (a b : Ap D6) : Gives (afunR PR (envOf eqsT (rad2T t N S)) [8, 11, 16] (fun _ => none) 40 52 [aD.agg.enc a, aD.agg.enc b]) (aD.agg.val (rad2G t N S a b)) :=
  givesOf (rad2_run t N S a b) (holds_br (B := aD.agg) (holds_leaf (aD.agg.h1 _)) (holds_br (B := aD.agg) (holds_leaf (aD.agg.h1 _)) (holds_br (B := aD.agg) (holds_leaf (apD_flat _ _ rfl)) (holds_leaf (apD_flat _ _ rfl)))))
def rad2 : Ap D6 → Ap D6 → Ap D6 := rad2G doO (rneg2P doO) (rslope doO)
theorem rad2_ctx : Ctx PR (envOf eqsT (rad2T doO (rneg2P doO) (rslope doO))) [8, 11, 16] (fun _ => none) 40 52 :=
  ctx_of (envOf_ok eqsT_ok (TabPOk.cons rneg2P_ok (TabPOk.cons rslope_ok doT_ok))) mixed (fn := Try.f52) (by kernel_rfl) (by kernel_rfl) (by kernel_rfl) (tabOk_none _)
theorem rad2_ok : CallOk PR 52 (fn2 aD.agg aD.agg aD.agg rad2) :=
  .inl ⟨enters_of (fn := Try.f52) (by kernel_rfl) (by kernel_rfl) (by kernel_rfl), pure2 rad2_ctx (fun a b => rad2_gives doO (rneg2P doO) (rslope doO) a b)⟩

/-! The generator. -/
def rgen2P : Ap D6 := ⟨⟨⟨0xd48056c8c121bdb8#64, 0x0bac0326a805bbef#64, 0xb4510b647ae3d177#64, 0xc6e47ad4fa403b02#64, 0x260805272dc51051#64, 0x024aa2b2f08f0a91#64⟩, ⟨0xe5ac7d055d042b7e#64, 0x334cf11213945d57#64, 0xb5da61bbdc7f5049#64, 0x596bd0d09920b61a#64, 0x7dacd3a088274f65#64, 0x13e02b6052719f60#64⟩⟩,
  ⟨⟨0xe193548608b82801#64, 0x923ac9cc3baca289#64, 0x6d429a695160d12c#64, 0xadfd9baa8cbdd3a7#64, 0x8cc9cdc6da2e351a#64, 0x0ce5d527727d6e11#64⟩, ⟨0xaaa9075ff05f79be#64, 0x3f370d275cec1da1#64, 0x267492ab572e99ab#64, 0xcb3e287e85a763af#64, 0x32acd2b02bc28b99#64, 0x0606c4a02ea734cc#64⟩⟩, false⟩
theorem rgen2_ctx : Ctx PR (envOf eqsT []) [] (fun _ => none) 10 47 :=
  ctx_of (envOf_ok eqsT_ok TabPOk.nil) mixed (fn := Try.f47) (by kernel_rfl) (by kernel_rfl) (by kernel_rfl) (tabOk_none _)
theorem rgen2_run : (afunR PR (envOf eqsT []) [] (fun _ => none) 10 47 []).strict = .leaf (apD rgen2P false) := by kernel_rfl
theorem rgen2_ok : CallOk PR 47 (fn0 aD.agg rgen2P) :=
  .inl ⟨enters_of (fn := Try.f47) (by kernel_rfl) (by kernel_rfl) (by kernel_rfl), pure0 rgen2_ctx (givesOf rgen2_run (holds_leaf (apD_flat _ _ rfl)))⟩

/-! A point by words, and by a number. -/
def thOf2 (p : Ap D6) : Th := ⟨p.x, p.y, ⟨numOne, zeroW⟩, false⟩
theorem many2_run (tw : Th → D6 × D6 × Bool) (ok : Nat → Bool) (mu : Th → W6 → Nat → Th) (p : Ap D6) (w : W6) (len cap : Nat) : Tree.but [3] 0 (afunT PR (maE tw ok mu) [10, 29] (fun _ => none) 40 111 [aD.agg.enc p, .slc 0 0 len cap] (oneAH c6 47 w) 1) =
    .br p.zero (.leaf (aD.agg.enc p)) (.need (ok len && true) (.br (!(tw (mu (thOf2 p) w len)).2.2) (.leaf (apD ⟨zeroD, zeroD, true⟩ true)) (.leaf (apD ⟨(tw (mu (thOf2 p) w len)).1, (tw (mu (thOf2 p) w len)).2.1, false⟩ false)))) := by kernel_rfl
def many2G (tw : Th → D6 × D6 × Bool) (mu : Th → W6 → Nat → Th) (p : Ap D6) (w : W6) (len : Nat) : Ap D6 :=
  bif p.zero then p else bif !(tw (mu (thOf2 p) w len)).2.2 then ⟨zeroD, zeroD, true⟩ else ⟨(tw (mu (thOf2 p) w len)).1, (tw (mu (thOf2 p) w len)).2.1, false⟩
theorem many2_gives (tw : Th → D6 × D6 × Bool) (ok : Nat → Bool) (mu : Th → W6 → Nat → Th) (p : Ap D6) (w : W6) (len cap : Nat) (hk : ok len = true) :
    GivesH (afun PR (maE tw ok mu) [10, 29] (fun _ => none) 40 111 [aD.agg.enc p, .slc 0 0 len cap] (oneAH c6 47 w) 1) (aD.agg.val (many2G tw mu p w len)) :=
  givesU (many2_run tw ok mu p w len cap) (holds_br (B := aD.agg) (holds_leaf (aD.agg.h1 _)) ⟨by rw [hk]; rfl, holds_br (B := aD.agg) (holds_leaf (apD_flat _ _ rfl)) (holds_leaf (apD_flat _ _ rfl))⟩)
def many2W : Ap D6 → W6 → Nat → Ap D6 := many2G twW multW
theorem many2_okH : HeapOk PR 111 (slv 47 aD.agg c6 aD.agg le6 many2W) :=
  slv_ok (E := maE twW le6 multW) (sym := [10, 29]) (lf := 40) (tab := fun _ _ _ _ => fun _ => none) maE_ok mixed (fn := Try.f111) (c := bodyOf PR 111) (by kernel_rfl) (by kernel_rfl) (by kernel_rfl)
    (fun _ _ _ _ _ => tabOk_none _) (fun p w len cap hk => many2_gives twW le6 multW p w len cap hk)
theorem many2_ent : Enters PR 111 := enters_of (fn := Try.f111) (by kernel_rfl) (by kernel_rfl) (by kernel_rfl)
noncomputable def ml2E (ok : Nat → Bool) (ma : Ap D6 → W6 → Nat → Ap D6) (L : W6 → Nat) : Env :=
  envL eqsT [] [(111, slv 47 aD.agg c6 aD.agg ok ma)] [(98, layS c6.agg 47 c6 L 6 (fun n => n))] false
theorem rml2_run (ok : Nat → Bool) (ma : Ap D6 → W6 → Nat → Ap D6) (L : W6 → Nat) (p : Ap D6) (n : W6) : Tree.but [1] 0 (afunR PR (ml2E ok ma L) [] (fun _ => none) 40 54 [aD.agg.enc p, c6.agg.enc n]) =
    .need (ok (L n) && true) (.leaf (aD.agg.enc (ma p n (L n)))) := by kernel_rfl
theorem ml2E_ok : EnvOk PR (ml2E le6 many2W (wdL rlenI)) := envL_ok eqsT_ok TabPOk.nil (TabHOk.cons many2_ent many2_okH TabHOk.nil) (TabLOk.cons words_ent words_okL TabLOk.nil)
theorem rml2_ctx : Ctx PR (ml2E le6 many2W (wdL rlenI)) [] (fun _ => none) 40 54 :=
  ctx_of (ml2E_ok) mixed (fn := Try.f54) (by kernel_rfl) (by kernel_rfl) (by kernel_rfl) (tabOk_none _)
theorem rml2_gives (ok : Nat → Bool) (ma : Ap D6 → W6 → Nat → Ap D6) (L : W6 → Nat) (p : Ap D6) (n : W6) (h : ok (L n) = true) : Gives (afunR PR (ml2E ok ma L) [] (fun _ => none) 40 54 [aD.agg.enc p, c6.agg.enc n]) (aD.agg.val (ma p n (L n))) :=
  givesB (rml2_run ok ma L p n) ⟨by rw [h]; rfl, aD.agg.h1 _⟩
def rml2 (p : Ap D6) (n : W6) : Ap D6 := many2W p n (wdL rlenI n)
theorem rml2_ok : CallOk PR 54 (fn2 aD.agg c6.agg aD.agg rml2) :=
  .inl ⟨enters_of (fn := Try.f54) (by kernel_rfl) (by kernel_rfl) (by kernel_rfl), pure2 rml2_ctx (fun p n => rml2_gives le6 many2W (wdL rlenI) p n (Nat.ble_eq_true_of_le (wdL_le n).1))⟩

/-! Is it of the group? -/
def rinT2 (ck : Ap D6 → Bool) (od : W6) (ml : Ap D6 → W6 → Ap D6) : PureTab := [(42, fn1 aD.agg kBool ck), (89, fn0 c6.agg od), (54, fn2 aD.agg c6.agg aD.agg ml)]
theorem rin2_run (ck : Ap D6 → Bool) (od : W6) (ml : Ap D6 → W6 → Ap D6) (p : Ap D6) : (afunR PR (envOf eqsT (rinT2 ck od ml)) [5] (fun _ => none) 40 45 [aD.agg.enc p]).strict =
    .br (ck p) (.leaf (kBool.enc (ml p od).zero)) (.leaf (.lit false)) := by kernel_rfl
def rin2G (ck : Ap D6 → Bool) (od : W6) (ml : Ap D6 → W6 → Ap D6) (p : Ap D6) : Bool := bif ck p then (ml p od).zero else false
theorem rin2_gives (ck : Ap D6 → Bool) (od : W6) (ml : Ap D6 → W6 → Ap D6) (p : Ap D6) : Gives (afunR PR (envOf eqsT (rinT2 ck od ml)) [5] (fun _ => none) 40 45 [aD.agg.enc p]) (kBool.val (rin2G ck od ml p)) :=
  givesOf (rin2_run ck od ml p) (holds_br (B := kBool) (holds_leaf (kBool.h1 _)) noHolds)
def rin2 : Ap D6 → Bool := rin2G rcheck2 orderW rml2
theorem rin2_ctx : Ctx PR (envOf eqsT (rinT2 rcheck2 orderW rml2)) [5] (fun _ => none) 40 45 :=
  ctx_of (envOf_ok eqsT_ok (TabPOk.cons rck2_ok (TabPOk.cons rorder_ok (TabPOk.cons rml2_ok TabPOk.nil)))) mixed (fn := Try.f45) (by kernel_rfl) (by kernel_rfl) (by kernel_rfl) (tabOk_none _)
theorem rin2_ok : CallOk PR 45 (fn1 aD.agg kBool rin2) :=
  .inl ⟨enters_of (fn := Try.f45) (by kernel_rfl) (by kernel_rfl) (by kernel_rfl), pure1 rin2_ctx (fun p => rin2_gives rcheck2 orderW rml2 p)⟩

/-! Is what is told the wanted one? -/
def nonePD : Ap D6 := ⟨zeroD, zeroD, false⟩
theorem onl2_run (p : Ap D6) (e : Int) (f : Bool) (w : Ap D6) : (afunR PR (envOf eqsT []) [10, 14, 21] (fun _ => none) 40 51 [aD.agg.enc p, (kInt .i64).enc e, kBool.enc f, aD.agg.enc w]).strict =
    .br (!f) (.br (eqP25 p nonePD) (.leaf (kBool.enc (e == 5))) (.leaf (.lit false))) (.br (eqP25 p w) (.leaf (kBool.enc (e == 0))) (.leaf (.lit false))) := by kernel_rfl
def twoLG (p : Ap D6) (e : Int) (f : Bool) (w : Ap D6) : Bool := bif !f then (bif eqP25 p nonePD then e == 5 else false) else (bif eqP25 p w then e == 0 else false)
theorem onl2_ctx : Ctx PR (envOf eqsT []) [10, 14, 21] (fun _ => none) 40 51 :=
  ctx_of (envOf_ok eqsT_ok TabPOk.nil) mixed (fn := Try.f51) (by kernel_rfl) (by kernel_rfl) (by kernel_rfl) (tabOk_none _)
theorem onl2_ok : CallOk PR 51 (fn4 aD.agg (kInt .i64) kBool aD.agg kBool twoLG) :=
  .inl ⟨enters_of (fn := Try.f51) (by kernel_rfl) (by kernel_rfl) (by kernel_rfl), pure4 onl2_ctx (fun p e f w => givesOf (onl2_run p e f w)
    (holds_br (B := kBool) (holds_br (B := kBool) (holds_leaf (kBool.h1 _)) noHolds) (holds_br (B := kBool) (holds_leaf (kBool.h1 _)) noHolds)))⟩
end Go.Rq

/- Sums of one and of two points: contracts. Written by a program of ours. -/
namespace Go.Rq
open Go Go.Proofs

/-- What the functions on points come to, left open. -/
structure GO (K : Type) where
  on : Fl K → Ap K → Bool
  ra : Fl K → Ap K → Jp K
  ti : Fl K → Jp K → W6 → Jp K
  su : Fl K → Jp K → Jp K → Jp K
  lo : Fl K → Jp K → Ap K

section
variable {K : Type} (t : GO K) (z : K)
def ga1 (f : Fl K) (p : Ap K) (n : W6) : Ap K × Int := bif t.on f p then (t.lo f (t.su f ⟨f.one, f.one, z⟩ (t.ti f (t.ra f p) n)), 0) else (⟨z, z, false⟩, 5)
def ga2 (f : Fl K) (x : Ap K × Ap K) (y : W6 × W6) : Ap K × Int := bif t.on f x.1 then (bif t.on f x.2 then
  (t.lo f (t.su f (t.su f ⟨f.one, f.one, z⟩ (t.ti f (t.ra f x.1) y.1)) (t.ti f (t.ra f x.2) y.2)), 0) else (⟨z, z, false⟩, 5)) else (⟨z, z, false⟩, 5)

/-- Likewise of told points. -/
structure SO (K : Type) where
  be : Ap K → Bool
  fi : Fl K
  inn : Ap K → Ap K
  ou : Ap K → Ap K

variable (s : SO K)
def sm1 (G : Fl K → Ap K → W6 → Ap K × Int) (p : Ap K) (n : W6) : Ap K × Int := bif s.be p then (s.ou (G s.fi (s.inn p) n).1, (G s.fi (s.inn p) n).2) else (⟨z, z, false⟩, 5)
def sm2 (G : Fl K → Ap K × Ap K → W6 × W6 → Ap K × Int) (x : Ap K × Ap K) (y : W6 × W6) : Ap K × Int := bif s.be x.1 then (bif s.be x.2 then
  (s.ou (G s.fi (s.inn x.1, s.inn x.2) y).1, (G s.fi (s.inn x.1, s.inn x.2) y).2) else (⟨z, z, false⟩, 5)) else (⟨z, z, false⟩, 5)
end


def gaTW (t : GO W6) : PureTab := [(86, fn2 flW.agg aW.agg kBool t.on), (139, fn2 flW.agg aW.agg jW.agg t.ra), (138, fn3 flW.agg jW.agg c6.agg jW.agg t.ti),
  (161, fn3 flW.agg jW.agg jW.agg jW.agg t.su), (137, fn2 flW.agg jW.agg aW.agg t.lo)]
noncomputable def gaEW (t : GO W6) : Env := envH eqsT (gaTW t) []
def noneWA : Tree AV := .leaf (.tup [.agg (c6.enc zeroW ++ (c6.enc zeroW ++ [.lit false])), .v (.int .i64 5)])
set_option maxRecDepth 100000 in
theorem ga1_runW (t : GO W6) (f : Fl W6) (p : Ap W6) (n : W6) : (afunH PR (gaEW t) [27] 10 112 [flW.agg.enc f, (SlA.own 13 1).at 0, (SlA.slc 1).at 1] (twoAH aW c6 126 47 p n) 2).strict =
    .br (t.on f p) (.leaf (kPW.enc (t.lo f (t.su f ⟨f.one, f.one, zeroW⟩ (t.ti f (t.ra f p) n)), 0))) noneWA := by kernel_rfl
set_option maxRecDepth 100000 in
theorem ga2_runW (t : GO W6) (f : Fl W6) (p q : Ap W6) (n m : W6) : (afunH PR (gaEW t) [27] 10 112 [flW.agg.enc f, (SlA.own 13 2).at 0, (SlA.slc 2).at 1] (twoAH (CC.prod aW aW) (CC.prod c6 c6) 126 47 (p, q) (n, m)) 2).strict =
    .br (t.on f p) (.br (t.on f q) (.leaf (kPW.enc (t.lo f (t.su f (t.su f ⟨f.one, f.one, zeroW⟩ (t.ti f (t.ra f p) n)) (t.ti f (t.ra f q) m)), 0))) noneWA) noneWA := by kernel_rfl

def suTW (s : SO W6) : PureTab := [(84, fn1 aW.agg kBool s.be), (87, fn1 aW.agg aW.agg s.inn), (85, fn0 flW.agg s.fi), (91, fn1 aW.agg aW.agg s.ou)]
noncomputable def suE1W (s : SO W6) (G : Fl W6 → Ap W6 → W6 → Ap W6 × Int) : Env := envH eqsT (suTW s) [(112, sl3 (.own 13 1) (.slc 1) 126 47 flW.agg aW c6 kPW G)]
noncomputable def suE2W (s : SO W6) (G : Fl W6 → Ap W6 × Ap W6 → W6 × W6 → Ap W6 × Int) : Env := envH eqsT (suTW s) [(112, sl3 (.own 13 2) (.slc 2) 126 47 flW.agg (CC.prod aW aW) (CC.prod c6 c6) kPW G)]
set_option maxRecDepth 100000 in
theorem su1_runW (s : SO W6) (G : Fl W6 → Ap W6 → W6 → Ap W6 × Int) (p : Ap W6) (n : W6) : (afunH PR (suE1W s G) [24] 10 56 [(SlA.slc 1).at 0, (SlA.slc 1).at 1] (twoAH aW c6 49 47 p n) 2).strict =
    .br (s.be p) (.leaf (kPW.enc (s.ou (G s.fi (s.inn p) n).1, (G s.fi (s.inn p) n).2))) noneWA := by kernel_rfl
set_option maxRecDepth 100000 in
theorem su2_runW (s : SO W6) (G : Fl W6 → Ap W6 × Ap W6 → W6 × W6 → Ap W6 × Int) (p q : Ap W6) (n m : W6) : (afunH PR (suE2W s G) [24] 10 56 [(SlA.slc 2).at 0, (SlA.slc 2).at 1] (twoAH (CC.prod aW aW) (CC.prod c6 c6) 49 47 (p, q) (n, m)) 2).strict =
    .br (s.be p) (.br (s.be q) (.leaf (kPW.enc (s.ou (G s.fi (s.inn p, s.inn q) (n, m)).1, (G s.fi (s.inn p, s.inn q) (n, m)).2))) noneWA) noneWA := by kernel_rfl

noncomputable def adEW (G : Ap W6 × Ap W6 → W6 × W6 → Ap W6 × Int) (ofw : BitVec 64 → W6) : Env := envH eqsT [(63, fn1 kU c6.agg ofw)] [(56, sl2 (.slc 2) (.slc 2) 49 47 (CC.prod aW aW) (CC.prod c6 c6) kPW G)]
set_option maxRecDepth 100000 in
theorem ad_runW (G : Ap W6 × Ap W6 → W6 × W6 → Ap W6 × Int) (ofw : BitVec 64 → W6) (p q : Ap W6) : (afunR PR (adEW G ofw) [] (fun _ => none) 10 36 [aW.agg.enc p, aW.agg.enc q]).strict =
    .leaf (kPW.enc (G (p, q) (ofw (bitW true), ofw (bitW true)))) := by kernel_rfl
noncomputable def muEW (G : Ap W6 → W6 → Ap W6 × Int) : Env := envH eqsT [] [(56, sl2 (.slc 1) (.slc 1) 49 47 aW c6 kPW G)]
set_option maxRecDepth 100000 in
theorem mu_runW (G : Ap W6 → W6 → Ap W6 × Int) (p : Ap W6) (n : W6) : (afunR PR (muEW G) [] (fun _ => none) 10 37 [aW.agg.enc p, c6.agg.enc n]).strict =
    .leaf (kPW.enc (G p n)) := by kernel_rfl


def gaTD (t : GO D6) : PureTab := [(103, fn2 flD.agg aD.agg kBool t.on), (158, fn2 flD.agg aD.agg jD.agg t.ra), (157, fn3 flD.agg jD.agg c6.agg jD.agg t.ti),
  (162, fn3 flD.agg jD.agg jD.agg jD.agg t.su), (156, fn2 flD.agg jD.agg aD.agg t.lo)]
noncomputable def gaED (t : GO D6) : Env := envH eqsT (gaTD t) []
def noneDA : Tree AV := .leaf (.tup [.agg (c12.enc zero2 ++ (c12.enc zero2 ++ [.lit false])), .v (.int .i64 5)])
set_option maxRecDepth 100000 in
theorem ga1_runD (t : GO D6) (f : Fl D6) (p : Ap D6) (n : W6) : (afunH PR (gaED t) [27] 10 113 [flD.agg.enc f, (SlA.own 25 1).at 0, (SlA.slc 1).at 1] (twoAH aD c6 145 47 p n) 2).strict =
    .br (t.on f p) (.leaf (kPD.enc (t.lo f (t.su f ⟨f.one, f.one, zero2⟩ (t.ti f (t.ra f p) n)), 0))) noneDA := by kernel_rfl
set_option maxRecDepth 100000 in
theorem ga2_runD (t : GO D6) (f : Fl D6) (p q : Ap D6) (n m : W6) : (afunH PR (gaED t) [27] 10 113 [flD.agg.enc f, (SlA.own 25 2).at 0, (SlA.slc 2).at 1] (twoAH (CC.prod aD aD) (CC.prod c6 c6) 145 47 (p, q) (n, m)) 2).strict =
    .br (t.on f p) (.br (t.on f q) (.leaf (kPD.enc (t.lo f (t.su f (t.su f ⟨f.one, f.one, zero2⟩ (t.ti f (t.ra f p) n)) (t.ti f (t.ra f q) m)), 0))) noneDA) noneDA := by kernel_rfl

def suTD (s : SO D6) : PureTab := [(101, fn1 aD.agg kBool s.be), (104, fn1 aD.agg aD.agg s.inn), (102, fn0 flD.agg s.fi), (106, fn1 aD.agg aD.agg s.ou)]
noncomputable def suE1D (s : SO D6) (G : Fl D6 → Ap D6 → W6 → Ap D6 × Int) : Env := envH eqsT (suTD s) [(113, sl3 (.own 25 1) (.slc 1) 145 47 flD.agg aD c6 kPD G)]
noncomputable def suE2D (s : SO D6) (G : Fl D6 → Ap D6 × Ap D6 → W6 × W6 → Ap D6 × Int) : Env := envH eqsT (suTD s) [(113, sl3 (.own 25 2) (.slc 2) 145 47 flD.agg (CC.prod aD aD) (CC.prod c6 c6) kPD G)]
set_option maxRecDepth 100000 in
theorem su1_runD (s : SO D6) (G : Fl D6 → Ap D6 → W6 → Ap D6 × Int) (p : Ap D6) (n : W6) : (afunH PR (suE1D s G) [24] 10 57 [(SlA.slc 1).at 0, (SlA.slc 1).at 1] (twoAH aD c6 64 47 p n) 2).strict =
    .br (s.be p) (.leaf (kPD.enc (s.ou (G s.fi (s.inn p) n).1, (G s.fi (s.inn p) n).2))) noneDA := by kernel_rfl
set_option maxRecDepth 100000 in
theorem su2_runD (s : SO D6) (G : Fl D6 → Ap D6 × Ap D6 → W6 × W6 → Ap D6 × Int) (p q : Ap D6) (n m : W6) : (afunH PR (suE2D s G) [24] 10 57 [(SlA.slc 2).at 0, (SlA.slc 2).at 1] (twoAH (CC.prod aD aD) (CC.prod c6 c6) 64 47 (p, q) (n, m)) 2).strict =
    .br (s.be p) (.br (s.be q) (.leaf (kPD.enc (s.ou (G s.fi (s.inn p, s.inn q) (n, m)).1, (G s.fi (s.inn p, s.inn q) (n, m)).2))) noneDA) noneDA := by kernel_rfl

noncomputable def adED (G : Ap D6 × Ap D6 → W6 × W6 → Ap D6 × Int) (ofw : BitVec 64 → W6) : Env := envH eqsT [(63, fn1 kU c6.agg ofw)] [(57, sl2 (.slc 2) (.slc 2) 64 47 (CC.prod aD aD) (CC.prod c6 c6) kPD G)]
set_option maxRecDepth 100000 in
theorem ad_runD (G : Ap D6 × Ap D6 → W6 × W6 → Ap D6 × Int) (ofw : BitVec 64 → W6) (p q : Ap D6) : (afunR PR (adED G ofw) [] (fun _ => none) 10 49 [aD.agg.enc p, aD.agg.enc q]).strict =
    .leaf (kPD.enc (G (p, q) (ofw (bitW true), ofw (bitW true)))) := by kernel_rfl
noncomputable def muED (G : Ap D6 → W6 → Ap D6 × Int) : Env := envH eqsT [] [(57, sl2 (.slc 1) (.slc 1) 64 47 aD c6 kPD G)]
set_option maxRecDepth 100000 in
theorem mu_runD (G : Ap D6 → W6 → Ap D6 × Int) (p : Ap D6) (n : W6) : (afunR PR (muED G) [] (fun _ => none) 10 50 [aD.agg.enc p, c6.agg.enc n]).strict =
    .leaf (kPD.enc (G p n)) := by kernel_rfl

end Go.Rq

/- Sums of one and of two points: contracts. Written by a program of ours. -/
namespace Go.Rq
open Go Go.Proofs


def gaOW : GO W6 := ⟨onE fW eqW, raiseJ fW, timesW, sumE fW eqW, lowFW⟩
theorem gaT_okW : TabPOk PR (gaTW gaOW) := TabPOk.cons onW_ok (TabPOk.cons raW_ok (TabPOk.cons tm_okW (TabPOk.cons suW_ok (TabPOk.cons lowFW_ok TabPOk.nil))))
theorem gaE_okW : EnvOk PR (gaEW gaOW) := envH_ok eqsT_ok gaT_okW TabHOk.nil
def gath1W : Fl W6 → Ap W6 → W6 → Ap W6 × Int := ga1 gaOW zeroW
def gath2W : Fl W6 → Ap W6 × Ap W6 → W6 × W6 → Ap W6 × Int := ga2 gaOW zeroW
theorem ga_entW : Enters PR 112 := enters_of (fn := Try.f112) (by kernel_rfl) (by kernel_rfl) (by kernel_rfl)
theorem ga1_okW : HeapOk PR 112 (sl3 (.own 13 1) (.slc 1) 126 47 flW.agg aW c6 kPW gath1W) :=
  sl3_ok gaE_okW mixed (sym := [27]) (lf := 10) (fn := Try.f112) (c := bodyOf PR 112) (by kernel_rfl) (by kernel_rfl) (by kernel_rfl) (tabOk_none _)
    (fun f p n => givesH (ga1_runW gaOW f p n) (holds_br (B := kPW) (holds_leaf (kPW.h1 _)) (holds_leaf noneFlatW)))
theorem ga2_okW : HeapOk PR 112 (sl3 (.own 13 2) (.slc 2) 126 47 flW.agg (CC.prod aW aW) (CC.prod c6 c6) kPW gath2W) :=
  sl3_ok gaE_okW mixed (sym := [27]) (lf := 10) (fn := Try.f112) (c := bodyOf PR 112) (by kernel_rfl) (by kernel_rfl) (by kernel_rfl) (tabOk_none _)
    (fun f p n => givesH (ga2_runW gaOW f p.1 p.2 n.1 n.2) (holds_br (B := kPW) (holds_br (B := kPW) (holds_leaf (kPW.h1 _)) (holds_leaf noneFlatW)) (holds_leaf noneFlatW)))

def suOW : SO W6 := ⟨belowP1, fld1, inP1, outP1⟩
theorem suT_okW : TabPOk PR (suTW suOW) := TabPOk.cons belowp1_ok (TabPOk.cons inp1_ok (TabPOk.cons first_ok (TabPOk.cons outp1_ok TabPOk.nil)))
def sumP1W : Ap W6 → W6 → Ap W6 × Int := sm1 zeroW suOW gath1W
def sumP2W : Ap W6 × Ap W6 → W6 × W6 → Ap W6 × Int := sm2 zeroW suOW gath2W
theorem su_entW : Enters PR 56 := enters_of (fn := Try.f56) (by kernel_rfl) (by kernel_rfl) (by kernel_rfl)
theorem su1_okW : HeapOk PR 56 (sl2 (.slc 1) (.slc 1) 49 47 aW c6 kPW sumP1W) :=
  sl2_ok (E := suE1W suOW gath1W) (envH_ok eqsT_ok suT_okW (TabHOk.cons ga_entW ga1_okW TabHOk.nil)) mixed (sym := [24]) (lf := 10) (fn := Try.f56) (c := bodyOf PR 56) (by kernel_rfl) (by kernel_rfl) (by kernel_rfl) (tabOk_none _)
    (fun p n => givesH (su1_runW suOW gath1W p n) (holds_br (B := kPW) (holds_leaf (kPW.h1 _)) (holds_leaf noneFlatW)))
theorem su2_okW : HeapOk PR 56 (sl2 (.slc 2) (.slc 2) 49 47 (CC.prod aW aW) (CC.prod c6 c6) kPW sumP2W) :=
  sl2_ok (E := suE2W suOW gath2W) (envH_ok eqsT_ok suT_okW (TabHOk.cons ga_entW ga2_okW TabHOk.nil)) mixed (sym := [24]) (lf := 10) (fn := Try.f56) (c := bodyOf PR 56) (by kernel_rfl) (by kernel_rfl) (by kernel_rfl) (tabOk_none _)
    (fun p n => givesH (su2_runW suOW gath2W p.1 p.2 n.1 n.2) (holds_br (B := kPW) (holds_br (B := kPW) (holds_leaf (kPW.h1 _)) (holds_leaf noneFlatW)) (holds_leaf noneFlatW)))

def addP1 (p q : Ap W6) : Ap W6 × Int := sumP2W (p, q) (ofW (bitW true), ofW (bitW true))
theorem adE_okW : EnvOk PR (adEW sumP2W ofW) := envH_ok eqsT_ok (TabPOk.cons of_ok TabPOk.nil) (TabHOk.cons su_entW su2_okW TabHOk.nil)
theorem ad_ctxW : Ctx PR (adEW sumP2W ofW) [] (fun _ => none) 10 36 :=
  ctx_of adE_okW mixed (fn := Try.f36) (by kernel_rfl) (by kernel_rfl) (by kernel_rfl) (tabOk_none _)
theorem addp1_ok : CallOk PR 36 (fn2 aW.agg aW.agg kPW addP1) :=
  .inl ⟨enters_of (fn := Try.f36) (by kernel_rfl) (by kernel_rfl) (by kernel_rfl), pure2 ad_ctxW (fun p q => leafVal (B := kPW) (y := addP1 p q) (ad_runW sumP2W ofW p q))⟩
theorem muE_okW : EnvOk PR (muEW sumP1W) := envH_ok eqsT_ok TabPOk.nil (TabHOk.cons su_entW su1_okW TabHOk.nil)
theorem mu_ctxW : Ctx PR (muEW sumP1W) [] (fun _ => none) 10 37 :=
  ctx_of muE_okW mixed (fn := Try.f37) (by kernel_rfl) (by kernel_rfl) (by kernel_rfl) (tabOk_none _)
theorem mulp1_ok : CallOk PR 37 (fn2 aW.agg c6.agg kPW sumP1W) :=
  .inl ⟨enters_of (fn := Try.f37) (by kernel_rfl) (by kernel_rfl) (by kernel_rfl), pure2 mu_ctxW (fun p n => leafVal (B := kPW) (y := sumP1W p n) (mu_runW sumP1W p n))⟩


def gaOD : GO D6 := ⟨onE fD eqD, raiseJ fD, timesD, sumE fD eqD, lowFD⟩
theorem gaT_okD : TabPOk PR (gaTD gaOD) := TabPOk.cons onD_ok (TabPOk.cons raD_ok (TabPOk.cons tm_okD (TabPOk.cons suD_ok (TabPOk.cons lowFD_ok TabPOk.nil))))
theorem gaE_okD : EnvOk PR (gaED gaOD) := envH_ok eqsT_ok gaT_okD TabHOk.nil
def gath1D : Fl D6 → Ap D6 → W6 → Ap D6 × Int := ga1 gaOD zero2
def gath2D : Fl D6 → Ap D6 × Ap D6 → W6 × W6 → Ap D6 × Int := ga2 gaOD zero2
theorem ga_entD : Enters PR 113 := enters_of (fn := Try.f113) (by kernel_rfl) (by kernel_rfl) (by kernel_rfl)
theorem ga1_okD : HeapOk PR 113 (sl3 (.own 25 1) (.slc 1) 145 47 flD.agg aD c6 kPD gath1D) :=
  sl3_ok gaE_okD mixed (sym := [27]) (lf := 10) (fn := Try.f113) (c := bodyOf PR 113) (by kernel_rfl) (by kernel_rfl) (by kernel_rfl) (tabOk_none _)
    (fun f p n => givesH (ga1_runD gaOD f p n) (holds_br (B := kPD) (holds_leaf (kPD.h1 _)) (holds_leaf noneFlatD)))
theorem ga2_okD : HeapOk PR 113 (sl3 (.own 25 2) (.slc 2) 145 47 flD.agg (CC.prod aD aD) (CC.prod c6 c6) kPD gath2D) :=
  sl3_ok gaE_okD mixed (sym := [27]) (lf := 10) (fn := Try.f113) (c := bodyOf PR 113) (by kernel_rfl) (by kernel_rfl) (by kernel_rfl) (tabOk_none _)
    (fun f p n => givesH (ga2_runD gaOD f p.1 p.2 n.1 n.2) (holds_br (B := kPD) (holds_br (B := kPD) (holds_leaf (kPD.h1 _)) (holds_leaf noneFlatD)) (holds_leaf noneFlatD)))

def suOD : SO D6 := ⟨belowP2, fld2, inP2, outP2⟩
theorem suT_okD : TabPOk PR (suTD suOD) := TabPOk.cons belowp2_ok (TabPOk.cons inp2_ok (TabPOk.cons second_ok (TabPOk.cons outp2_ok TabPOk.nil)))
def sumP1D : Ap D6 → W6 → Ap D6 × Int := sm1 zero2 suOD gath1D
def sumP2D : Ap D6 × Ap D6 → W6 × W6 → Ap D6 × Int := sm2 zero2 suOD gath2D
theorem su_entD : Enters PR 57 := enters_of (fn := Try.f57) (by kernel_rfl) (by kernel_rfl) (by kernel_rfl)
theorem su1_okD : HeapOk PR 57 (sl2 (.slc 1) (.slc 1) 64 47 aD c6 kPD sumP1D) :=
  sl2_ok (E := suE1D suOD gath1D) (envH_ok eqsT_ok suT_okD (TabHOk.cons ga_entD ga1_okD TabHOk.nil)) mixed (sym := [24]) (lf := 10) (fn := Try.f57) (c := bodyOf PR 57) (by kernel_rfl) (by kernel_rfl) (by kernel_rfl) (tabOk_none _)
    (fun p n => givesH (su1_runD suOD gath1D p n) (holds_br (B := kPD) (holds_leaf (kPD.h1 _)) (holds_leaf noneFlatD)))
theorem su2_okD : HeapOk PR 57 (sl2 (.slc 2) (.slc 2) 64 47 (CC.prod aD aD) (CC.prod c6 c6) kPD sumP2D) :=
  sl2_ok (E := suE2D suOD gath2D) (envH_ok eqsT_ok suT_okD (TabHOk.cons ga_entD ga2_okD TabHOk.nil)) mixed (sym := [24]) (lf := 10) (fn := Try.f57) (c := bodyOf PR 57) (by kernel_rfl) (by kernel_rfl) (by kernel_rfl) (tabOk_none _)
    (fun p n => givesH (su2_runD suOD gath2D p.1 p.2 n.1 n.2) (holds_br (B := kPD) (holds_br (B := kPD) (holds_leaf (kPD.h1 _)) (holds_leaf noneFlatD)) (holds_leaf noneFlatD)))

def addP2 (p q : Ap D6) : Ap D6 × Int := sumP2D (p, q) (ofW (bitW true), ofW (bitW true))
theorem adE_okD : EnvOk PR (adED sumP2D ofW) := envH_ok eqsT_ok (TabPOk.cons of_ok TabPOk.nil) (TabHOk.cons su_entD su2_okD TabHOk.nil)
theorem ad_ctxD : Ctx PR (adED sumP2D ofW) [] (fun _ => none) 10 49 :=
  ctx_of adE_okD mixed (fn := Try.f49) (by kernel_rfl) (by kernel_rfl) (by kernel_rfl) (tabOk_none _)
theorem addp2_ok : CallOk PR 49 (fn2 aD.agg aD.agg kPD addP2) :=
  .inl ⟨enters_of (fn := Try.f49) (by kernel_rfl) (by kernel_rfl) (by kernel_rfl), pure2 ad_ctxD (fun p q => leafVal (B := kPD) (y := addP2 p q) (ad_runD sumP2D ofW p q))⟩
theorem muE_okD : EnvOk PR (muED sumP1D) := envH_ok eqsT_ok TabPOk.nil (TabHOk.cons su_entD su1_okD TabHOk.nil)
theorem mu_ctxD : Ctx PR (muED sumP1D) [] (fun _ => none) 10 50 :=
  ctx_of muE_okD mixed (fn := Try.f50) (by kernel_rfl) (by kernel_rfl) (by kernel_rfl) (tabOk_none _)
theorem mulp2_ok : CallOk PR 50 (fn2 aD.agg c6.agg kPD sumP1D) :=
  .inl ⟨enters_of (fn := Try.f50) (by kernel_rfl) (by kernel_rfl) (by kernel_rfl), pure2 mu_ctxD (fun p n => leafVal (B := kPD) (y := sumP1D p n) (mu_runD sumP1D p n))⟩

end Go.Rq

/- The law CurveFirst, gone through: what is called left open. -/
namespace Go.Rq
open Go Go.Proofs

/-- What the law calls, left open. -/
structure LO (K : Type) where
  ck : Ap K → Bool
  ckP : Ap K → Bool
  ig : Ap K → Bool
  igP : Ap K → Bool
  ge : Ap K
  geP : Ap K
  ne : Ap K → Ap K
  neP : Ap K → Ap K × Int
  ad : Ap K → Ap K → Ap K
  adP : Ap K → Ap K → Ap K × Int
  mu : Ap K → W6 → Ap K
  muP : Ap K → W6 → Ap K × Int
  on : Ap K → Int → Bool → Ap K → Bool
def loT (t : LO W6) : PureTab := [(29, fn1 aW.agg kBool t.ck), (30, fn1 aW.agg kBool t.ckP), (32, fn1 aW.agg kBool t.ig), (31, fn1 aW.agg kBool t.igP),
  (34, fn0 aW.agg t.ge), (33, fn0 aW.agg t.geP), (40, fn1 aW.agg aW.agg t.ne), (35, fn1 aW.agg kPW t.neP),
  (39, fn2 aW.agg aW.agg aW.agg t.ad), (36, fn2 aW.agg aW.agg kPW t.adP), (41, fn2 aW.agg c6.agg aW.agg t.mu), (37, fn2 aW.agg c6.agg kPW t.muP),
  (38, fn4 aW.agg (kInt .i64) kBool aW.agg kBool t.on)]
noncomputable def loE (t : LO W6) : Env := envH eqsT (loT t) []

def loFalse : Tree AV := .leaf (.lit false)
def loEnd {K : Type} (t : LO K) (a _b : Ap K) (n : W6) (sum : Bool) : Tree AV :=
  .br (t.on (t.neP a).1 (t.neP a).2 true (t.ne a)) (.br sum (.leaf (kBool.enc (t.on (t.muP a n).1 (t.muP a n).2 true (t.mu a n)))) loFalse) loFalse
def loMain {K : Type} (t : LO K) (a b : Ap K) (n : W6) : Tree AV :=
  .br (!t.ck a)
    (.br (t.on (t.neP a).1 (t.neP a).2 false a) (.br (t.on (t.adP a b).1 (t.adP a b).2 false a) (.leaf (kBool.enc (t.on (t.muP a n).1 (t.muP a n).2 false a))) loFalse) loFalse)
    (.br (t.ck b) (loEnd t a b n (t.on (t.adP a b).1 (t.adP a b).2 true (t.ad a b))) (loEnd t a b n (t.on (t.adP a b).1 (t.adP a b).2 false a)))
def loTree {K : Type} (eqP : Ap K → Ap K → Bool) (t : LO K) (a b : Ap K) (n : W6) : Tree AV :=
  .br (!(t.ckP a == t.ck a)) loFalse
    (.br (t.ck a) (.br (!(t.igP a == t.ig a)) loFalse (.br (!(eqP t.geP t.ge)) loFalse (loMain t a b n)))
      (.br (!(t.igP a == false)) loFalse (.br (!(eqP t.geP t.ge)) loFalse (loMain t a b n))))
set_option maxRecDepth 1000000 in
theorem first_law (t : LO W6) (a b : Ap W6) (n : W6) : (afunR PR (loE t) [24, 28, 34, 38, 57, 62, 68, 78, 90, 93] (fun _ => none) 10 4 [aW.agg.enc a, aW.agg.enc b, c6.agg.enc n]).strict = loTree eqP13 t a b n := by kernel_rfl

/-- What makes the law true. -/
structure LOk {K : Type} (eqP : Ap K → Ap K → Bool) (none : Ap K) (t : LO K) : Prop where
  on : ∀ p e f w, t.on p e f w = bif !f then (bif eqP p none then e == 5 else false) else (bif eqP p w then e == 0 else false)
  refl : ∀ p, eqP p p = true
  ck : ∀ p, t.ckP p = t.ck p
  ig : ∀ p, t.igP p = bif t.ck p then t.ig p else false
  ge : t.geP = t.ge
  ne : ∀ p, t.neP p = bif t.ck p then (t.ne p, 0) else (none, 5)
  ad : ∀ p q, t.adP p q = bif t.ck p then (bif t.ck q then (t.ad p q, 0) else (none, 5)) else (none, 5)
  mu : ∀ p n, t.muP p n = bif t.ck p then (t.mu p n, 0) else (none, 5)

theorem loTree_true {K : Type} {eqP : Ap K → Ap K → Bool} {none : Ap K} {t : LO K} (h : LOk eqP none t) (a b : Ap K) (n : W6) : (loTree eqP t a b n).holds (fun q => flat q = some (.bool true)) := by
  have hmain : (loMain t a b n).holds (fun q => flat q = some (.bool true)) := by
    unfold loMain loEnd loFalse
    rw [h.ne, h.ad, h.mu]
    cases ha : t.ck a <;> cases hb : t.ck b <;> simp [Tree.holds, h.on, h.refl, kBool, flat, scal]
  unfold loTree
  rw [h.ck, h.ig, h.ge, h.refl]
  refine ⟨fun h1 => by simp at h1, fun _ => ⟨fun h2 => ⟨fun h3 => ?_, fun _ => ⟨fun h4 => by simp at h4, fun _ => hmain⟩⟩, fun h2 => ⟨fun h3 => ?_, fun _ => ⟨fun h4 => by simp at h4, fun _ => hmain⟩⟩⟩⟩
  · rw [h2] at h3; simp at h3
  · rw [h2] at h3; simp at h3
end Go.Rq

/- The law CurveSecond, gone through: what is called left open. -/
namespace Go.Rq
open Go Go.Proofs

def loT2 (t : LO D6) : PureTab := [(42, fn1 aD.agg kBool t.ck), (43, fn1 aD.agg kBool t.ckP), (45, fn1 aD.agg kBool t.ig), (44, fn1 aD.agg kBool t.igP),
  (47, fn0 aD.agg t.ge), (46, fn0 aD.agg t.geP), (53, fn1 aD.agg aD.agg t.ne), (48, fn1 aD.agg kPD t.neP),
  (52, fn2 aD.agg aD.agg aD.agg t.ad), (49, fn2 aD.agg aD.agg kPD t.adP), (54, fn2 aD.agg c6.agg aD.agg t.mu), (50, fn2 aD.agg c6.agg kPD t.muP),
  (51, fn4 aD.agg (kInt .i64) kBool aD.agg kBool t.on)]
noncomputable def loE2 (t : LO D6) : Env := envH eqsT (loT2 t) []

set_option maxRecDepth 1000000 in
theorem second_law (t : LO D6) (a b : Ap D6) (n : W6) : (afunR PR (loE2 t) [24, 28, 34, 38, 57, 62, 68, 78, 90, 93] (fun _ => none) 10 5 [aD.agg.enc a, aD.agg.enc b, c6.agg.enc n]).strict = loTree eqP25 t a b n := by kernel_rfl

end Go.Rq

/- What the program's functions on points come to, reckoned with numbers. -/
namespace Go.Rq
open Go Go.Proofs

section
variable {A B : Type} {R : A → B → Prop} {o : FO A} {o' : FO B} {e : A → A → Bool} {e' : B → B → Bool}

def tOf {K : Type} (o : FO K) (e : K → K → Bool) : TO K := ⟨fun _ p => twiceJ o p, sumE o e, lenI, bitI⟩
def gOf {K : Type} (o : FO K) (e : K → K → Bool) (ti : Fl K → Jp K → W6 → Jp K) : GO K := ⟨onE o e, raiseJ o, ti, sumE o e, fun _ p => lowerE o e p⟩

theorem times_rel (h : FRel R o o' e e') {f : Fl A} {g : Fl B} (hf : RFl R f g) {p : Jp A} {q : Jp B} (hp : RJ R p q) (n : W6) : ∀ (k : Nat) {u : Jp A} {v : Jp B}, RJ R u v →
    RJ R (timesG (tOf o e) f p n k u) (timesG (tOf o' e') g q n k v)
  | 0, u, v, hu => hu
  | k + 1, u, v, hu => by
    show RJ R (timesG (tOf o e) f p n k (bif bitI n (k : Int) == 1 then sumE o e f (twiceJ o u) p else twiceJ o u)) (timesG (tOf o' e') g q n k (bif bitI n (k : Int) == 1 then sumE o' e' g (twiceJ o' v) q else twiceJ o' v))
    apply times_rel h hf hp n k
    cases bitI n (k : Int) == 1
    · exact twice_rel h hu
    · exact sum_rel h hf (twice_rel h hu) hp

/-- The functions on points go alike. -/
structure GRel (R : A → B → Prop) (t : GO A) (s : GO B) : Prop where
  on : ∀ {f g p q}, RFl R f g → RA R p q → t.on f p = s.on g q
  ra : ∀ {f g p q}, RFl R f g → RA R p q → RJ R (t.ra f p) (s.ra g q)
  ti : ∀ {f g p q}, RFl R f g → RJ R p q → ∀ n, RJ R (t.ti f p n) (s.ti g q n)
  su : ∀ {f g p q u v}, RFl R f g → RJ R p q → RJ R u v → RJ R (t.su f p u) (s.su g q v)
  lo : ∀ {f g p q}, RFl R f g → RJ R p q → RA R (t.lo f p) (s.lo g q)

theorem g_rel (h : FRel R o o' e e') {ti : Fl A → Jp A → W6 → Jp A} {ti' : Fl B → Jp B → W6 → Jp B} (ht : ∀ {f g p q}, RFl R f g → RJ R p q → ∀ n, RJ R (ti f p n) (ti' g q n)) : GRel R (gOf o e ti) (gOf o' e' ti') :=
  ⟨fun hf hp => on_rel h hf hp, fun hf hp => raise_rel h hf hp, ht, fun hf hp hu => sum_rel h hf hp hu, fun _ hp => lower_rel h hp⟩

theorem ga1_rel {t : GO A} {s : GO B} (h : GRel R t s) {z : A} {z' : B} (hz : R z z') {f : Fl A} {g : Fl B} (hf : RFl R f g) {p : Ap A} {q : Ap B} (hp : RA R p q) (n : W6) :
    RA R (ga1 t z f p n).1 (ga1 s z' g q n).1 ∧ (ga1 t z f p n).2 = (ga1 s z' g q n).2 := by
  unfold ga1
  rw [h.on hf hp]
  cases s.on g q
  · exact ⟨⟨hz, hz, rfl⟩, rfl⟩
  · exact ⟨h.lo hf (h.su hf ⟨hf.one, hf.one, hz⟩ (h.ti hf (h.ra hf hp) n)), rfl⟩

theorem ga2_rel {t : GO A} {s : GO B} (h : GRel R t s) {z : A} {z' : B} (hz : R z z') {f : Fl A} {g : Fl B} (hf : RFl R f g) {x : Ap A × Ap A} {y : Ap B × Ap B} (h1 : RA R x.1 y.1) (h2 : RA R x.2 y.2) (n : W6 × W6) :
    RA R (ga2 t z f x n).1 (ga2 s z' g y n).1 ∧ (ga2 t z f x n).2 = (ga2 s z' g y n).2 := by
  unfold ga2
  rw [h.on hf h1, h.on hf h2]
  cases s.on g y.1
  · exact ⟨⟨hz, hz, rfl⟩, rfl⟩
  · cases s.on g y.2
    · exact ⟨⟨hz, hz, rfl⟩, rfl⟩
    · exact ⟨h.lo hf (h.su hf (h.su hf ⟨hf.one, hf.one, hz⟩ (h.ti hf (h.ra hf h1) n.1)) (h.ti hf (h.ra hf h2) n.2)), rfl⟩
end

/-! Multiples, reckoned step by step. -/

def forceJ {α : Type} (r : Jp Nat) (f : Jp Nat → α) : α := forceN r.x fun x => forceN r.y fun y => forceN r.z fun z => f ⟨x, y, z⟩
theorem forceJ_eq {α : Type} (r : Jp Nat) (f : Jp Nat → α) : forceJ r f = f r := by simp only [forceJ, forceN_eq]
def forceK {α : Type} (r : Jp (DN Nat)) (f : Jp (DN Nat) → α) : α := forceN r.x.a fun a => forceN r.x.b fun b => forceN r.y.a fun c => forceN r.y.b fun d => forceN r.z.a fun x => forceN r.z.b fun y => f ⟨⟨a, b⟩, ⟨c, d⟩, ⟨x, y⟩⟩
theorem forceK_eq {α : Type} (r : Jp (DN Nat)) (f : Jp (DN Nat) → α) : forceK r f = f r := by simp only [forceK, forceN_eq]

def stepG {K : Type} (o : FO K) (e : K → K → Bool) (f : Fl K) (p : Jp K) (b : Bool) (u : Jp K) : Jp K := bif b then sumE o e f (twiceJ o u) p else twiceJ o u

/-- A multiple; a point is reckoned whole at each bit. -/
def runN {K : Type} (fo : Jp K → (Jp K → Jp K) → Jp K) (st : Bool → Jp K → Jp K) : List Bool → Jp K → Jp K
  | [], u => u
  | b :: t, u => fo (st b u) fun v => runN fo st t v

def bitsL (n : W6) : Nat → List Bool
  | 0 => []
  | k + 1 => (bitI n (k : Int) == 1) :: bitsL n k

theorem runN_eq {K : Type} {o : FO K} {e : K → K → Bool} {fo : Jp K → (Jp K → Jp K) → Jp K} (hfo : ∀ r f, fo r f = f r) (f : Fl K) (p : Jp K) (n : W6) : ∀ (k : Nat) (u : Jp K),
    runN fo (stepG o e f p) (bitsL n k) u = timesG (tOf o e) f p n k u
  | 0, u => rfl
  | k + 1, u => by
    simp only [bitsL, runN, hfo]
    exact runN_eq hfo f p n k _

def timesN (f : Fl Nat) (p : Jp Nat) (n : W6) : Jp Nat := runN forceJ (stepG fN Nat.beq f p) (bitsL n (lenI n).toNat) ⟨f.one, f.one, 0⟩
def timesK (f : Fl (DN Nat)) (p : Jp (DN Nat)) (n : W6) : Jp (DN Nat) := runN forceK (stepG fDN (beqA Nat.beq) f p) (bitsL n (lenI n).toNat) ⟨f.one, f.one, ⟨0, 0⟩⟩

theorem timesN_rel {f : Fl Nat} {g : Fl W6} {p : Jp Nat} {q : Jp W6} (hf : RFl Rep f g) (hp : RJ Rep p q) (n : W6) : RJ Rep (timesN f p n) (timesW g q n) := by
  unfold timesN timesW
  rw [runN_eq (o := fN) (e := Nat.beq) forceJ_eq]
  exact times_rel relW hf hp n _ ⟨hf.one, hf.one, rep_zero⟩
theorem timesK_rel {f : Fl (DN Nat)} {g : Fl D6} {p : Jp (DN Nat)} {q : Jp D6} (hf : RFl (RD Rep) f g) (hp : RJ (RD Rep) p q) (n : W6) : RJ (RD Rep) (timesK f p n) (timesD g q n) := by
  unfold timesK timesD
  rw [runN_eq (o := fDN) (e := beqA Nat.beq) forceK_eq]
  exact times_rel relD hf hp n _ ⟨hf.one, hf.one, rd_zero⟩

def gN : GO Nat := gOf fN Nat.beq timesN
def gK : GO (DN Nat) := gOf fDN (beqA Nat.beq) timesK
theorem gN_rel : GRel Rep gN gaOW := g_rel relW timesN_rel
theorem gK_rel : GRel (RD Rep) gK gaOD := g_rel relD timesK_rel

def flN : Fl Nat := ⟨oneN, toN 4⟩
def flK : Fl (DN Nat) := ⟨⟨oneN, 0⟩, ⟨toN 4, toN 4⟩⟩
theorem four_val : (ofW 4#64).val = 4 := by decide +kernel
theorem four_rep : Rep (toN 4) (toW (ofW 4#64)) := by
  have := rep_to (ofW 4#64)
  rw [four_val] at this
  exact this
theorem flN_rel : RFl Rep flN fld1 := ⟨rep_one, four_rep⟩
theorem flK_rel : RFl (RD Rep) flK fld2 := ⟨rd_one, ⟨four_rep, four_rep⟩⟩

def inN (p : Ap W6) : Ap Nat := ⟨toN p.x.val, toN p.y.val, p.zero⟩
def inK (p : Ap D6) : Ap (DN Nat) := ⟨⟨toN p.x.a.val, toN p.x.b.val⟩, ⟨toN p.y.a.val, toN p.y.b.val⟩, p.zero⟩
theorem inP_rel (t : Nat → Nat) (t' : W6 → W6) (h : ∀ a : W6, Rep (t a.val) (t' a)) (p : Ap W6) : RA Rep ⟨t p.x.val, t p.y.val, p.zero⟩ ⟨t' p.x, t' p.y, p.zero⟩ := ⟨h _, h _, rfl⟩
theorem inN_rel (p : Ap W6) : RA Rep (inN p) (inP1 p) := by
  unfold inN inP1
  exact inP_rel toN toW rep_to p
theorem to2_rel (o : FO W6) (t : Nat → Nat) (h : ∀ a : W6, Rep (t a.val) (o.to a)) (x : D6) : RD Rep ⟨t x.a.val, t x.b.val⟩ (to2 o x) := ⟨h _, h _⟩
theorem fW_to : fW.to = toW := by simp only [fW]
theorem fW_back : fW.back = fromW := by simp only [fW]
theorem inK_rel (p : Ap D6) : RA (RD Rep) (inK p) (inP2 p) := ⟨to2_rel fW toN (fun a => by rw [fW_to]; exact rep_to a) p.x, to2_rel fW toN (fun a => by rw [fW_to]; exact rep_to a) p.y, rfl⟩

/-- A point that is told again. -/
theorem outN_eq {p : Ap Nat} {q r : Ap W6} (h : RA Rep p q) (hx : backN p.x = r.x.val) (hy : backN p.y = r.y.val) (hz : p.zero = r.zero) : outP1 q = r := by
  obtain ⟨rx, ry, rz⟩ := r
  have e1 : fromW q.x = rx := W6.val_inj (by rw [rep_back h.x]; exact hx)
  have e2 : fromW q.y = ry := W6.val_inj (by rw [rep_back h.y]; exact hy)
  unfold outP1
  rw [e1, e2, ← h.z, hz]
theorem back2_eq (o : FO W6) (b : Nat → Nat) (h : ∀ {a : Nat} {w : W6}, Rep a w → (o.back w).val = b a) {p : DN Nat} {q r : D6} (hp : RD Rep p q) (h1 : b p.a = r.a.val) (h2 : b p.b = r.b.val) : back2 o q = r := by
  obtain ⟨ra, rb⟩ := r
  have e1 : o.back q.a = ra := W6.val_inj (by rw [h hp.a]; exact h1)
  have e2 : o.back q.b = rb := W6.val_inj (by rw [h hp.b]; exact h2)
  unfold back2
  rw [e1, e2]
theorem outK_eq {p : Ap (DN Nat)} {q r : Ap D6} (h : RA (RD Rep) p q) (h1 : backN p.x.a = r.x.a.val) (h2 : backN p.x.b = r.x.b.val) (h3 : backN p.y.a = r.y.a.val) (h4 : backN p.y.b = r.y.b.val) (hz : p.zero = r.zero) : outP2 q = r := by
  have e1 := back2_eq fW backN (fun {a w} h => by rw [fW_back]; exact rep_back h) h.x h1 h2
  have e2 := back2_eq fW backN (fun {a w} h => by rw [fW_back]; exact rep_back h) h.y h3 h4
  unfold outP2
  obtain ⟨rx, ry, rz⟩ := r
  rw [e1, e2, ← h.z, hz]

/-! What is reckoned, and what is told. -/
def tellN (x : Ap Nat × Int) : Ap Nat × Int := (⟨backN x.1.x, backN x.1.y, x.1.zero⟩, x.2)
def tellK (x : Ap (DN Nat) × Int) : Ap (DN Nat) × Int := (⟨⟨backN x.1.x.a, backN x.1.x.b⟩, ⟨backN x.1.y.a, backN x.1.y.b⟩, x.1.zero⟩, x.2)
def litN (r : Ap W6) : Ap Nat := ⟨r.x.val, r.y.val, r.zero⟩
def litK (r : Ap D6) : Ap (DN Nat) := ⟨⟨r.x.a.val, r.x.b.val⟩, ⟨r.y.a.val, r.y.b.val⟩, r.zero⟩

theorem mul1_of {p r : Ap W6} {n : W6} {err : Int} (hb : belowP1 p = true) (h : tellN (ga1 gN 0 flN (inN p) n) = (litN r, err)) : sumP1W p n = (r, err) := by
  obtain ⟨h1, h2⟩ := ga1_rel gN_rel rep_zero flN_rel (inN_rel p) n
  have e := Prod.mk.inj h
  obtain ⟨e1, e2⟩ := e
  have e3 := Ap.mk.inj e1
  have ho := outN_eq (r := r) h1 e3.1 e3.2.1 e3.2.2
  have hs : sumP1W p n = bif belowP1 p then (outP1 (gath1W fld1 (inP1 p) n).1, (gath1W fld1 (inP1 p) n).2) else (⟨zeroW, zeroW, false⟩, 5) := by unfold sumP1W sm1 suOW; rfl
  rw [hs, hb, cond_true]
  have hg : gath1W fld1 (inP1 p) n = ga1 gaOW zeroW fld1 (inP1 p) n := by unfold gath1W; rfl
  rw [hg, ho, ← h2]
  exact congrArg (Prod.mk r) e2

theorem add1_of {p q r : Ap W6} {err : Int} (hb : belowP1 p = true) (hc : belowP1 q = true) (h : tellN (ga2 gN 0 flN (inN p, inN q) (ofW (bitW true), ofW (bitW true))) = (litN r, err)) : addP1 p q = (r, err) := by
  obtain ⟨h1, h2⟩ := ga2_rel gN_rel rep_zero flN_rel (x := (inN p, inN q)) (y := (inP1 p, inP1 q)) (inN_rel p) (inN_rel q) (ofW (bitW true), ofW (bitW true))
  have e := Prod.mk.inj h
  obtain ⟨e1, e2⟩ := e
  have e3 := Ap.mk.inj e1
  have ho := outN_eq (r := r) h1 e3.1 e3.2.1 e3.2.2
  have hs : addP1 p q = bif belowP1 p then (bif belowP1 q then (outP1 (gath2W fld1 (inP1 p, inP1 q) (ofW (bitW true), ofW (bitW true))).1, (gath2W fld1 (inP1 p, inP1 q) (ofW (bitW true), ofW (bitW true))).2) else (⟨zeroW, zeroW, false⟩, 5)) else (⟨zeroW, zeroW, false⟩, 5) := by
    unfold addP1 sumP2W sm2 suOW; rfl
  rw [hs, hb, hc, cond_true, cond_true]
  have hg : gath2W fld1 (inP1 p, inP1 q) (ofW (bitW true), ofW (bitW true)) = ga2 gaOW zeroW fld1 (inP1 p, inP1 q) (ofW (bitW true), ofW (bitW true)) := by unfold gath2W; rfl
  rw [hg, ho, ← h2]
  exact congrArg (Prod.mk r) e2

theorem mul2_of {p r : Ap D6} {n : W6} {err : Int} (hb : belowP2 p = true) (h : tellK (ga1 gK ⟨0, 0⟩ flK (inK p) n) = (litK r, err)) : sumP1D p n = (r, err) := by
  obtain ⟨h1, h2⟩ := ga1_rel gK_rel rd_zero flK_rel (inK_rel p) n
  have e := Prod.mk.inj h
  obtain ⟨e1, e2⟩ := e
  have e3 := Ap.mk.inj e1
  have e4 := DN.mk.inj e3.1
  have e5 := DN.mk.inj e3.2.1
  have ho := outK_eq (r := r) h1 e4.1 e4.2 e5.1 e5.2 e3.2.2
  have hs : sumP1D p n = bif belowP2 p then (outP2 (gath1D fld2 (inP2 p) n).1, (gath1D fld2 (inP2 p) n).2) else (⟨zero2, zero2, false⟩, 5) := by unfold sumP1D sm1 suOD; rfl
  rw [hs, hb, cond_true]
  have hg : gath1D fld2 (inP2 p) n = ga1 gaOD zero2 fld2 (inP2 p) n := by unfold gath1D; rfl
  rw [hg, ho, ← h2]
  exact congrArg (Prod.mk r) e2

theorem check1_of (p : Ap W6) : checkP1 p = bif belowP1 p then onE fN Nat.beq flN (inN p) else false := by
  unfold checkP1
  rw [on_rel relW flN_rel (inN_rel p)]
theorem check2_of (p : Ap D6) : checkP2 p = bif belowP2 p then onE fDN (beqA Nat.beq) flK (inK p) else false := by
  unfold checkP2
  rw [on_rel relD flK_rel (inK_rel p)]
theorem in1_of (p : Ap W6) : inGroup1 p = bif belowP1 p then (bif onE fN Nat.beq flN (inN p) then (lowerE fN Nat.beq (timesN flN (raiseJ fN flN (inN p)) orderW)).zero else false) else false := by
  unfold inGroup1 inEW inGW lowFW
  rw [on_rel relW flN_rel (inN_rel p), (lower_rel relW (timesN_rel flN_rel (raise_rel relW flN_rel (inN_rel p)) orderW)).z]
theorem neg1_of {p r : Ap W6} (hc : checkP1 p = true) (hx : backN (inN p).x = r.x.val) (hy : backN (subN 0 (inN p).y) = r.y.val) (hz : p.zero = r.zero) : negP1 p = (r, 0) := by
  have hn := neg_rel relW (inN_rel p)
  unfold negP1
  rw [hc, outN_eq (r := r) hn hx (by unfold negE; rw [fN_sub]; exact hy) hz]
  rfl
end Go.Rq

/- Numbers out of text: gone through where they are called. -/
namespace Go.Rq
open Go Go.Proofs

theorem ibs_ok : CallOk PR 197 (fn2 kStr (kInt .u8) (kInt .i64) idxByte) :=
  .inr (ext2 (fn := Try.f197) (by kernel_rfl) (by kernel_rfl) (by kernel_rfl) (by kernel_rfl) (r := Extern.BytealgIndexByte.indexByte) (by kernel_rfl) idxByte_run)
def ibT (X : ByteArray → Int → Int) : PureTab := [(197, fn2 kStr (kInt .u8) (kInt .i64) X), (192, fn2 kStr (kInt .u8) (kInt .i64) X)]
theorem ib1_run (X : ByteArray → Int → Int) (s : ByteArray) (b : Int) : (afunR PR (envOf eqsT [(197, fn2 kStr (kInt .u8) (kInt .i64) X)]) [] (fun _ => none) 40 192 [kStr.enc s, (kInt .u8).enc b]).strict = .leaf ((kInt .i64).enc (X s b)) := by kernel_rfl
theorem ib2_run (X : ByteArray → Int → Int) (s : ByteArray) (b : Int) : (afunR PR (envOf eqsT [(192, fn2 kStr (kInt .u8) (kInt .i64) X)]) [] (fun _ => none) 40 178 [kStr.enc s, (kInt .u8).enc b]).strict = .leaf ((kInt .i64).enc (X s b)) := by kernel_rfl
def ib1T : PureTab := [(197, fn2 kStr (kInt .u8) (kInt .i64) idxByte)]
theorem ib1T_ok : TabPOk PR ib1T := TabPOk.cons ibs_ok TabPOk.nil
theorem ib1_ctx : Ctx PR (envOf eqsT ib1T) [] (fun _ => none) 40 192 :=
  ctx_of (envOf_ok eqsT_ok ib1T_ok) mixed (fn := Try.f192) (by kernel_rfl) (by kernel_rfl) (by kernel_rfl) (tabOk_none _)
theorem ib1_ok : CallOk PR 192 (fn2 kStr (kInt .u8) (kInt .i64) idxByte) :=
  .inl ⟨enters_of (fn := Try.f192) (by kernel_rfl) (by kernel_rfl) (by kernel_rfl), pure2 ib1_ctx (fun s b => leafVal (B := kInt .i64) (y := idxByte s b) (ib1_run idxByte s b))⟩
def ib2T : PureTab := [(192, fn2 kStr (kInt .u8) (kInt .i64) idxByte)]
theorem ib2T_ok : TabPOk PR ib2T := TabPOk.cons ib1_ok TabPOk.nil
theorem ib2_ctx : Ctx PR (envOf eqsT ib2T) [] (fun _ => none) 40 178 :=
  ctx_of (envOf_ok eqsT_ok ib2T_ok) mixed (fn := Try.f178) (by kernel_rfl) (by kernel_rfl) (by kernel_rfl) (tabOk_none _)
theorem ib2_ok : CallOk PR 178 (fn2 kStr (kInt .u8) (kInt .i64) idxByte) :=
  .inl ⟨enters_of (fn := Try.f178) (by kernel_rfl) (by kernel_rfl) (by kernel_rfl), pure2 ib2_ctx (fun s b => leafVal (B := kInt .i64) (y := idxByte s b) (ib2_run idxByte s b))⟩
end Go.Rq

/- Numbers out of text: shift by four; the text's digits; a generator's number is gone through where it is told. -/
namespace Go.Rq
open Go Go.Proofs
def shift4 (a : W6) : W6 := ⟨a.w0 <<< 4, a.w1 <<< 4 ||| a.w0 >>> 60, a.w2 <<< 4 ||| a.w1 >>> 60, a.w3 <<< 4 ||| a.w2 >>> 60, a.w4 <<< 4 ||| a.w3 >>> 60, a.w5 <<< 4 ||| a.w4 >>> 60⟩
set_option maxRecDepth 100000 in
theorem shift4_run (a : W6) : (afunR PR (envOf eqsT []) [] (fun _ => none) 40 60 [c6.agg.enc a, (kInt .i64).enc 4]).strict = .leaf (c6.agg.enc (shift4 a)) := by kernel_rfl

/-- One number alone. -/
def kAt (k : IntKind) (n : Int) : Cod Unit where
  enc _ := .v (.int k n)
  dec a := match a with
    | .v (.int k' m) => match decide (k' = k ∧ m = n) with
      | true => some ()
      | false => none
    | _ => none
  val _ := .int k n
  h1 _ := rfl
  h2 ρ a v x h r := by
    split at h
    · rename_i k' m
      split at h
      · rename_i e
        obtain ⟨rfl, rfl⟩ := of_decide_eq_true e
        cases r
        rfl
      · cases h
    · cases h

theorem shift_ctx : Ctx PR (envOf eqsT []) [] (fun _ => none) 40 60 :=
  ctx_of (envOf_ok eqsT_ok TabPOk.nil) mixed (fn := Try.f60) (by kernel_rfl) (by kernel_rfl) (by kernel_rfl) (tabOk_none _)
theorem shift_ok : CallOk PR 60 (fn2 c6.agg (kAt .i64 4) c6.agg (fun a _ => shift4 a)) :=
  .inl ⟨enters_of (fn := Try.f60) (by kernel_rfl) (by kernel_rfl) (by kernel_rfl), pure2 (C := kAt .i64 4) shift_ctx (fun a _ => leafVal (B := c6.agg) (y := shift4 a) (shift4_run a))⟩

def parseT : PureTab := [(60, fn2 c6.agg (kAt .i64 4) c6.agg (fun a _ => shift4 a)), (178, fn2 kStr (kInt .u8) (kInt .i64) idxByte)]
theorem parseT_ok : TabPOk PR parseT := TabPOk.cons shift_ok (TabPOk.cons ib2_ok TabPOk.nil)
theorem parse_ctx : Ctx PR (envOf eqsT parseT) [] (fun _ => none) 110 140 :=
  ctx_of (envOf_ok eqsT_ok parseT_ok) mixed (fn := Try.f140) (by kernel_rfl) (by kernel_rfl) (by kernel_rfl) (tabOk_none _)
end Go.Rq
