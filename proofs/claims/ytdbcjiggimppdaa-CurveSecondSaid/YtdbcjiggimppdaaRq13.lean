/- The reference's points of the second curve: contracts. Written by a program of ours. -/
import Derived.Test.YtdbcjiggimppdaaRq12
import Derived.Test.YtdbcjiggimppdaaRq07
import Derived.Test.YtdbcjiggimppdaaRq10
import Derived.Test.YtdbcjiggimppdaaRq08
namespace Go.Rq
open Go Go.Proofs

/-- The reference's elements of two parts, left open. -/
structure DO where
  mu : D6 → D6 → D6
  ad : D6 → D6 → D6
  sb : D6 → D6 → D6
  iv : D6 → D6
  ne : D6 → D6
def doT (t : DO) : PureTab := [(99, fn2 c12.agg c12.agg c12.agg t.mu), (148, fn2 c12.agg c12.agg c12.agg t.ad), (109, fn2 c12.agg c12.agg c12.agg t.sb), (160, fn1 c12.agg c12.agg t.iv), (110, fn1 c12.agg c12.agg t.ne)]
def doO : DO := ⟨rmul2G roO, radd2G roO, rsub2G roO, rinv2G roO, rneg2G roO⟩
theorem doT_eq : [(99, fn2 c12.agg c12.agg c12.agg (rmul2G roO)), (148, fn2 c12.agg c12.agg c12.agg (radd2G roO)), (109, fn2 c12.agg c12.agg c12.agg (rsub2G roO)), (160, fn1 c12.agg c12.agg (rinv2G roO)), (110, fn1 c12.agg c12.agg (rneg2G roO))] = doT doO := by kernel_rfl
theorem doT_ok : TabPOk PR (doT doO) := Eq.subst (motive := TabPOk PR) doT_eq (TabPOk.cons rmul2_ok (TabPOk.cons radd2_ok (TabPOk.cons rsub2_ok (TabPOk.cons rinv2_ok (TabPOk.cons rneg2_ok TabPOk.nil)))))

/-! What is added in the equation. -/
def fourD : D6 := ⟨ofW 4#64, ofW 4#64⟩
theorem rfour_ctx : Ctx PR (envOf eqsT []) [] (fun _ => none) 10 149 :=
  ctx_of (envOf_ok eqsT_ok TabPOk.nil) mixed (fn := Try.f149) (by kernel_rfl) (by kernel_rfl) (by kernel_rfl) (tabOk_none _)
theorem rfour_run : (afunR PR (envOf eqsT []) [] (fun _ => none) 10 149 []).strict = .leaf (c12.agg.enc fourD) := by kernel_rfl
theorem rfour_ok : CallOk PR 149 (fn0 c12.agg fourD) :=
  .inl ⟨enters_of (fn := Try.f149) (by kernel_rfl) (by kernel_rfl) (by kernel_rfl), pure0 rfour_ctx (leafVal (B := c12.agg) (y := fourD) rfour_run)⟩

def rside2G (t : DO) (four : D6) (x : D6) : D6 := t.ad (t.mu (t.mu x x) x) four
def rsd2T (t : DO) (four : D6) : PureTab := (149, fn0 c12.agg four) :: doT t
theorem rside2_run (t : DO) (four : D6) (x : D6) : (afunR PR (envOf eqsT (rsd2T t four)) [] (fun _ => none) 40 100 [c12.agg.enc x]).strict = .leaf (c12.agg.enc (rside2G t four x)) := by kernel_rfl
theorem rside2_ctx : Ctx PR (envOf eqsT (rsd2T doO fourD)) [] (fun _ => none) 40 100 :=
  ctx_of (envOf_ok eqsT_ok (TabPOk.cons rfour_ok doT_ok)) mixed (fn := Try.f100) (by kernel_rfl) (by kernel_rfl) (by kernel_rfl) (tabOk_none _)
theorem rside2_ok : CallOk PR 100 (fn1 c12.agg c12.agg (rside2G doO fourD)) :=
  .inl ⟨enters_of (fn := Try.f100) (by kernel_rfl) (by kernel_rfl) (by kernel_rfl), pure1 rside2_ctx (fun a => leafVal (B := c12.agg) (y := rside2G doO fourD a) (rside2_run doO fourD a))⟩

/-! Is it a point? -/
set_option maxRecDepth 100000
def rck2T (t : DO) (bl : W6 → Bool) (sd : D6 → D6) : PureTab := (80, fn1 c6.agg kBool bl) :: (100, fn1 c12.agg c12.agg sd) :: doT t
theorem rck2_run (t : DO) (bl : W6 → Bool) (sd : D6 → D6) (p : Ap D6) : (afunR PR (envOf eqsT (rck2T t bl sd)) [4, 9, 19, 25, 31, 37] (fun _ => none) 40 42 [aD.agg.enc p]).strict =
    .br p.zero (.br (eqD p.x zeroD) (.leaf (kBool.enc (eqD p.y zeroD))) (.leaf (.lit false)))
      (.br (bl p.x.a) (.br (bl p.x.b) (.br (bl p.y.a) (.br (bl p.y.b) (.leaf (kBool.enc (eqD (t.mu p.y p.y) (sd p.x)))) (.leaf (.lit false))) (.leaf (.lit false))) (.leaf (.lit false))) (.leaf (.lit false))) := by kernel_rfl
def rcheck2G (t : DO) (bl : W6 → Bool) (sd : D6 → D6) (p : Ap D6) : Bool := bif p.zero then (bif eqD p.x zeroD then eqD p.y zeroD else false) else
  bif bl p.x.a then (bif bl p.x.b then (bif bl p.y.a then (bif bl p.y.b then eqD (t.mu p.y p.y) (sd p.x) else false) else false) else false) else false
theorem noHolds : (Tree.leaf (AV.lit false)).holds (fun q => flat q = some (kBool.val false)) := holds_leaf (a := .lit false) (v := kBool.val false) rfl
theorem rck2_gives (t : DO) (bl : W6 → Bool) (sd : D6 → D6) (p : Ap D6) : Gives (afunR PR (envOf eqsT (rck2T t bl sd)) [4, 9, 19, 25, 31, 37] (fun _ => none) 40 42 [aD.agg.enc p]) (kBool.val (rcheck2G t bl sd p)) :=
  givesOf (rck2_run t bl sd p)
    (holds_br (B := kBool) (holds_br (B := kBool) (holds_leaf (kBool.h1 _)) noHolds) (holds_br (B := kBool) (holds_br (B := kBool) (holds_br (B := kBool) (holds_br (B := kBool) (holds_leaf (kBool.h1 _)) noHolds) noHolds) noHolds) noHolds))
def rcheck2 : Ap D6 → Bool := rcheck2G doO belowI (rside2G doO fourD)
theorem rck2_ctx : Ctx PR (envOf eqsT (rck2T doO belowI (rside2G doO fourD))) [4, 9, 19, 25, 31, 37] (fun _ => none) 40 42 :=
  ctx_of (envOf_ok eqsT_ok (TabPOk.cons rbelow_ok (TabPOk.cons rside2_ok doT_ok))) mixed (fn := Try.f42) (by kernel_rfl) (by kernel_rfl) (by kernel_rfl) (tabOk_none _)
theorem rck2_ok : CallOk PR 42 (fn1 aD.agg kBool rcheck2) :=
  .inl ⟨enters_of (fn := Try.f42) (by kernel_rfl) (by kernel_rfl) (by kernel_rfl), pure1 rck2_ctx (fun p => rck2_gives doO belowI (rside2G doO fourD) p)⟩

/-! The negated one. -/
def rneg2P (t : DO) (p : Ap D6) : Ap D6 := ⟨p.x, t.ne p.y, p.zero⟩
theorem rneg2P_run (t : DO) (p : Ap D6) : (afunR PR (envOf eqsT (doT t)) [] (fun _ => none) 40 53 [aD.agg.enc p]).strict = .leaf (aD.agg.enc (rneg2P t p)) := by kernel_rfl
theorem rneg2P_ctx : Ctx PR (envOf eqsT (doT doO)) [] (fun _ => none) 40 53 :=
  ctx_of (envOf_ok eqsT_ok doT_ok) mixed (fn := Try.f53) (by kernel_rfl) (by kernel_rfl) (by kernel_rfl) (tabOk_none _)
theorem rneg2P_ok : CallOk PR 53 (fn1 aD.agg aD.agg (rneg2P doO)) :=
  .inl ⟨enters_of (fn := Try.f53) (by kernel_rfl) (by kernel_rfl) (by kernel_rfl), pure1 rneg2P_ctx (fun p => leafVal (B := aD.agg) (y := rneg2P doO p) (rneg2P_run doO p))⟩

/-! The sum by the slope. -/
def eqP25 (a b : Ap D6) : Bool := (a.x.a.w0 == b.x.a.w0) && ((a.x.a.w1 == b.x.a.w1) && ((a.x.a.w2 == b.x.a.w2) && ((a.x.a.w3 == b.x.a.w3) && ((a.x.a.w4 == b.x.a.w4) && ((a.x.a.w5 == b.x.a.w5) && ((a.x.b.w0 == b.x.b.w0) && ((a.x.b.w1 == b.x.b.w1) && ((a.x.b.w2 == b.x.b.w2) && ((a.x.b.w3 == b.x.b.w3) && ((a.x.b.w4 == b.x.b.w4) && ((a.x.b.w5 == b.x.b.w5) && ((a.y.a.w0 == b.y.a.w0) && ((a.y.a.w1 == b.y.a.w1) && ((a.y.a.w2 == b.y.a.w2) && ((a.y.a.w3 == b.y.a.w3) && ((a.y.a.w4 == b.y.a.w4) && ((a.y.a.w5 == b.y.a.w5) && ((a.y.b.w0 == b.y.b.w0) && ((a.y.b.w1 == b.y.b.w1) && ((a.y.b.w2 == b.y.b.w2) && ((a.y.b.w3 == b.y.b.w3) && ((a.y.b.w4 == b.y.b.w4) && ((a.y.b.w5 == b.y.b.w5) && ((a.zero == b.zero) && true))))))))))))))))))))))))
def rslopeA (t : DO) (a : Ap D6) : D6 := t.mu (t.ad (t.ad (t.mu a.x a.x) (t.mu a.x a.x)) (t.mu a.x a.x)) (t.iv (t.ad a.y a.y))
def rslopeB (t : DO) (a b : Ap D6) : D6 := t.mu (t.sb b.y a.y) (t.iv (t.sb b.x a.x))
theorem rslope_run (t : DO) (a b : Ap D6) : (afunR PR (envOf eqsT (doT t)) [8] (fun _ => none) 40 108 [aD.agg.enc a, aD.agg.enc b]).strict =
    .br (eqP25 a b) (.leaf (c12.agg.enc (rslopeA t a))) (.leaf (c12.agg.enc (rslopeB t a b))) := by kernel_rfl
def rslope (t : DO) (a b : Ap D6) : D6 := bif eqP25 a b then rslopeA t a else rslopeB t a b
theorem rslope_gives (t : DO) (a b : Ap D6) : Gives (afunR PR (envOf eqsT (doT t)) [8] (fun _ => none) 40 108 [aD.agg.enc a, aD.agg.enc b]) (c12.agg.val (rslope t a b)) :=
  givesOf (rslope_run t a b) (holds_br (B := c12.agg) (holds_leaf (c12.agg.h1 _)) (holds_leaf (c12.agg.h1 _)))
theorem rslope_ctx : Ctx PR (envOf eqsT (doT doO)) [8] (fun _ => none) 40 108 :=
  ctx_of (envOf_ok eqsT_ok doT_ok) mixed (fn := Try.f108) (by kernel_rfl) (by kernel_rfl) (by kernel_rfl) (tabOk_none _)
theorem rslope_ok : CallOk PR 108 (fn2 aD.agg aD.agg c12.agg (rslope doO)) :=
  .inl ⟨enters_of (fn := Try.f108) (by kernel_rfl) (by kernel_rfl) (by kernel_rfl), pure2 rslope_ctx (fun a b => rslope_gives doO a b)⟩
def rchord2 (t : DO) (a b : Ap D6) (m : D6) : Ap D6 :=
  let x := t.sb (t.sb (t.mu m m) a.x) b.x
  ⟨x, t.sb (t.mu m (t.sb a.x x)) a.y, false⟩
def apD (p : Ap D6) (z : Bool) : AV := .agg (c12.enc p.x ++ (c12.enc p.y ++ [.lit z]))
theorem apD_flat (p : Ap D6) (z : Bool) (h : p.zero = z) : flat (apD p z) = some (aD.agg.val p) := by
  obtain ⟨x, y, w⟩ := p
  simp at h; subst h
  exact apFlatD x y w
def rad2T (t : DO) (N : Ap D6 → Ap D6) (S : Ap D6 → Ap D6 → D6) : PureTab := (53, fn1 aD.agg aD.agg N) :: (108, fn2 aD.agg aD.agg c12.agg S) :: doT t
theorem rad2_run (t : DO) (N : Ap D6 → Ap D6) (S : Ap D6 → Ap D6 → D6) (a b : Ap D6) : (afunR PR (envOf eqsT (rad2T t N S)) [8, 11, 16] (fun _ => none) 40 52 [aD.agg.enc a, aD.agg.enc b]).strict =
    .br a.zero (.leaf (aD.agg.enc b)) (.br b.zero (.leaf (aD.agg.enc a)) (.br (eqP25 a (N b)) (.leaf (apD ⟨zeroD, zeroD, true⟩ true)) (.leaf (apD (rchord2 t a b (S a b)) false)))) := by kernel_rfl
def rad2G (t : DO) (N : Ap D6 → Ap D6) (S : Ap D6 → Ap D6 → D6) (a b : Ap D6) : Ap D6 := bif a.zero then b else bif b.zero then a else bif eqP25 a (N b) then ⟨zeroD, zeroD, true⟩ else rchord2 t a b (S a b)
theorem rad2_gives (t : DO) (N : Ap D6 → Ap D6) (S : Ap D6 → Ap D6 → D6) (a b : Ap D6) : Gives (afunR PR (envOf eqsT (rad2T t N S)) [8, 11, 16] (fun _ => none) 40 52 [aD.agg.enc a, aD.agg.enc b]) (aD.agg.val (rad2G t N S a b)) :=
  givesOf (rad2_run t N S a b) (holds_br (B := aD.agg) (holds_leaf (aD.agg.h1 _)) (holds_br (B := aD.agg) (holds_leaf (aD.agg.h1 _)) (holds_br (B := aD.agg) (holds_leaf (apD_flat _ _ rfl)) (holds_leaf (apD_flat _ _ rfl)))))
def rad2 : Ap D6 → Ap D6 → Ap D6 := rad2G doO (rneg2P doO) (rslope doO)
theorem rad2_ctx : Ctx PR (envOf eqsT (rad2T doO (rneg2P doO) (rslope doO))) [8, 11, 16] (fun _ => none) 40 52 :=
  ctx_of (envOf_ok eqsT_ok (TabPOk.cons rneg2P_ok (TabPOk.cons rslope_ok doT_ok))) mixed (fn := Try.f52) (by kernel_rfl) (by kernel_rfl) (by kernel_rfl) (tabOk_none _)
theorem rad2_ok : CallOk PR 52 (fn2 aD.agg aD.agg aD.agg rad2) :=
  .inl ⟨enters_of (fn := Try.f52) (by kernel_rfl) (by kernel_rfl) (by kernel_rfl), pure2 rad2_ctx (fun a b => rad2_gives doO (rneg2P doO) (rslope doO) a b)⟩

/-! The generator. -/
def rgen2P : Ap D6 := ⟨⟨⟨0xd48056c8c121bdb8#64, 0x0bac0326a805bbef#64, 0xb4510b647ae3d177#64, 0xc6e47ad4fa403b02#64, 0x260805272dc51051#64, 0x024aa2b2f08f0a91#64⟩, ⟨0xe5ac7d055d042b7e#64, 0x334cf11213945d57#64, 0xb5da61bbdc7f5049#64, 0x596bd0d09920b61a#64, 0x7dacd3a088274f65#64, 0x13e02b6052719f60#64⟩⟩,
  ⟨⟨0xe193548608b82801#64, 0x923ac9cc3baca289#64, 0x6d429a695160d12c#64, 0xadfd9baa8cbdd3a7#64, 0x8cc9cdc6da2e351a#64, 0x0ce5d527727d6e11#64⟩, ⟨0xaaa9075ff05f79be#64, 0x3f370d275cec1da1#64, 0x267492ab572e99ab#64, 0xcb3e287e85a763af#64, 0x32acd2b02bc28b99#64, 0x0606c4a02ea734cc#64⟩⟩, false⟩
theorem rgen2_ctx : Ctx PR (envOf eqsT []) [] (fun _ => none) 10 47 :=
  ctx_of (envOf_ok eqsT_ok TabPOk.nil) mixed (fn := Try.f47) (by kernel_rfl) (by kernel_rfl) (by kernel_rfl) (tabOk_none _)
theorem rgen2_run : (afunR PR (envOf eqsT []) [] (fun _ => none) 10 47 []).strict = .leaf (apD rgen2P false) := by kernel_rfl
theorem rgen2_ok : CallOk PR 47 (fn0 aD.agg rgen2P) :=
  .inl ⟨enters_of (fn := Try.f47) (by kernel_rfl) (by kernel_rfl) (by kernel_rfl), pure0 rgen2_ctx (givesOf rgen2_run (holds_leaf (apD_flat _ _ rfl)))⟩

/-! A point by words, and by a number. -/
def thOf2 (p : Ap D6) : Th := ⟨p.x, p.y, ⟨numOne, zeroW⟩, false⟩
theorem many2_run (tw : Th → D6 × D6 × Bool) (ok : Nat → Bool) (mu : Th → W6 → Nat → Th) (p : Ap D6) (w : W6) (len cap : Nat) : Tree.but [3] 0 (afunT PR (maE tw ok mu) [10, 29] (fun _ => none) 40 111 [aD.agg.enc p, .slc 0 0 len cap] (oneAH c6 47 w) 1) =
    .br p.zero (.leaf (aD.agg.enc p)) (.need (ok len && true) (.br (!(tw (mu (thOf2 p) w len)).2.2) (.leaf (apD ⟨zeroD, zeroD, true⟩ true)) (.leaf (apD ⟨(tw (mu (thOf2 p) w len)).1, (tw (mu (thOf2 p) w len)).2.1, false⟩ false)))) := by kernel_rfl
def many2G (tw : Th → D6 × D6 × Bool) (mu : Th → W6 → Nat → Th) (p : Ap D6) (w : W6) (len : Nat) : Ap D6 :=
  bif p.zero then p else bif !(tw (mu (thOf2 p) w len)).2.2 then ⟨zeroD, zeroD, true⟩ else ⟨(tw (mu (thOf2 p) w len)).1, (tw (mu (thOf2 p) w len)).2.1, false⟩
theorem many2_gives (tw : Th → D6 × D6 × Bool) (ok : Nat → Bool) (mu : Th → W6 → Nat → Th) (p : Ap D6) (w : W6) (len cap : Nat) (hk : ok len = true) :
    GivesH (afun PR (maE tw ok mu) [10, 29] (fun _ => none) 40 111 [aD.agg.enc p, .slc 0 0 len cap] (oneAH c6 47 w) 1) (aD.agg.val (many2G tw mu p w len)) :=
  givesU (many2_run tw ok mu p w len cap) (holds_br (B := aD.agg) (holds_leaf (aD.agg.h1 _)) ⟨by rw [hk]; rfl, holds_br (B := aD.agg) (holds_leaf (apD_flat _ _ rfl)) (holds_leaf (apD_flat _ _ rfl))⟩)
def many2W : Ap D6 → W6 → Nat → Ap D6 := many2G twW multW
theorem many2_okH : HeapOk PR 111 (slv 47 aD.agg c6 aD.agg le6 many2W) :=
  slv_ok (E := maE twW le6 multW) (sym := [10, 29]) (lf := 40) (tab := fun _ _ _ _ => fun _ => none) maE_ok mixed (fn := Try.f111) (c := bodyOf PR 111) (by kernel_rfl) (by kernel_rfl) (by kernel_rfl)
    (fun _ _ _ _ _ => tabOk_none _) (fun p w len cap hk => many2_gives twW le6 multW p w len cap hk)
theorem many2_ent : Enters PR 111 := enters_of (fn := Try.f111) (by kernel_rfl) (by kernel_rfl) (by kernel_rfl)
noncomputable def ml2E (ok : Nat → Bool) (ma : Ap D6 → W6 → Nat → Ap D6) (L : W6 → Nat) : Env :=
  envL eqsT [] [(111, slv 47 aD.agg c6 aD.agg ok ma)] [(98, layS c6.agg 47 c6 L 6 (fun n => n))] false
theorem rml2_run (ok : Nat → Bool) (ma : Ap D6 → W6 → Nat → Ap D6) (L : W6 → Nat) (p : Ap D6) (n : W6) : Tree.but [1] 0 (afunR PR (ml2E ok ma L) [] (fun _ => none) 40 54 [aD.agg.enc p, c6.agg.enc n]) =
    .need (ok (L n) && true) (.leaf (aD.agg.enc (ma p n (L n)))) := by kernel_rfl
theorem ml2E_ok : EnvOk PR (ml2E le6 many2W (wdL rlenI)) := envL_ok eqsT_ok TabPOk.nil (TabHOk.cons many2_ent many2_okH TabHOk.nil) (TabLOk.cons words_ent words_okL TabLOk.nil)
theorem rml2_ctx : Ctx PR (ml2E le6 many2W (wdL rlenI)) [] (fun _ => none) 40 54 :=
  ctx_of (ml2E_ok) mixed (fn := Try.f54) (by kernel_rfl) (by kernel_rfl) (by kernel_rfl) (tabOk_none _)
theorem rml2_gives (ok : Nat → Bool) (ma : Ap D6 → W6 → Nat → Ap D6) (L : W6 → Nat) (p : Ap D6) (n : W6) (h : ok (L n) = true) : Gives (afunR PR (ml2E ok ma L) [] (fun _ => none) 40 54 [aD.agg.enc p, c6.agg.enc n]) (aD.agg.val (ma p n (L n))) :=
  givesB (rml2_run ok ma L p n) ⟨by rw [h]; rfl, aD.agg.h1 _⟩
def rml2 (p : Ap D6) (n : W6) : Ap D6 := many2W p n (wdL rlenI n)
theorem rml2_ok : CallOk PR 54 (fn2 aD.agg c6.agg aD.agg rml2) :=
  .inl ⟨enters_of (fn := Try.f54) (by kernel_rfl) (by kernel_rfl) (by kernel_rfl), pure2 rml2_ctx (fun p n => rml2_gives le6 many2W (wdL rlenI) p n (Nat.ble_eq_true_of_le (wdL_le n).1))⟩

/-! Is it of the group? -/
def rinT2 (ck : Ap D6 → Bool) (od : W6) (ml : Ap D6 → W6 → Ap D6) : PureTab := [(42, fn1 aD.agg kBool ck), (89, fn0 c6.agg od), (54, fn2 aD.agg c6.agg aD.agg ml)]
theorem rin2_run (ck : Ap D6 → Bool) (od : W6) (ml : Ap D6 → W6 → Ap D6) (p : Ap D6) : (afunR PR (envOf eqsT (rinT2 ck od ml)) [5] (fun _ => none) 40 45 [aD.agg.enc p]).strict =
    .br (ck p) (.leaf (kBool.enc (ml p od).zero)) (.leaf (.lit false)) := by kernel_rfl
def rin2G (ck : Ap D6 → Bool) (od : W6) (ml : Ap D6 → W6 → Ap D6) (p : Ap D6) : Bool := bif ck p then (ml p od).zero else false
theorem rin2_gives (ck : Ap D6 → Bool) (od : W6) (ml : Ap D6 → W6 → Ap D6) (p : Ap D6) : Gives (afunR PR (envOf eqsT (rinT2 ck od ml)) [5] (fun _ => none) 40 45 [aD.agg.enc p]) (kBool.val (rin2G ck od ml p)) :=
  givesOf (rin2_run ck od ml p) (holds_br (B := kBool) (holds_leaf (kBool.h1 _)) noHolds)
def rin2 : Ap D6 → Bool := rin2G rcheck2 orderW rml2
theorem rin2_ctx : Ctx PR (envOf eqsT (rinT2 rcheck2 orderW rml2)) [5] (fun _ => none) 40 45 :=
  ctx_of (envOf_ok eqsT_ok (TabPOk.cons rck2_ok (TabPOk.cons rorder_ok (TabPOk.cons rml2_ok TabPOk.nil)))) mixed (fn := Try.f45) (by kernel_rfl) (by kernel_rfl) (by kernel_rfl) (tabOk_none _)
theorem rin2_ok : CallOk PR 45 (fn1 aD.agg kBool rin2) :=
  .inl ⟨enters_of (fn := Try.f45) (by kernel_rfl) (by kernel_rfl) (by kernel_rfl), pure1 rin2_ctx (fun p => rin2_gives rcheck2 orderW rml2 p)⟩

/-! Is what is told the wanted one? -/
def nonePD : Ap D6 := ⟨zeroD, zeroD, false⟩
theorem onl2_run (p : Ap D6) (e : Int) (f : Bool) (w : Ap D6) : (afunR PR (envOf eqsT []) [10, 14, 21] (fun _ => none) 40 51 [aD.agg.enc p, (kInt .i64).enc e, kBool.enc f, aD.agg.enc w]).strict =
    .br (!f) (.br (eqP25 p nonePD) (.leaf (kBool.enc (e == 5))) (.leaf (.lit false))) (.br (eqP25 p w) (.leaf (kBool.enc (e == 0))) (.leaf (.lit false))) := by kernel_rfl
def twoLG (p : Ap D6) (e : Int) (f : Bool) (w : Ap D6) : Bool := bif !f then (bif eqP25 p nonePD then e == 5 else false) else (bif eqP25 p w then e == 0 else false)
theorem onl2_ctx : Ctx PR (envOf eqsT []) [10, 14, 21] (fun _ => none) 40 51 :=
  ctx_of (envOf_ok eqsT_ok TabPOk.nil) mixed (fn := Try.f51) (by kernel_rfl) (by kernel_rfl) (by kernel_rfl) (tabOk_none _)
theorem onl2_ok : CallOk PR 51 (fn4 aD.agg (kInt .i64) kBool aD.agg kBool twoLG) :=
  .inl ⟨enters_of (fn := Try.f51) (by kernel_rfl) (by kernel_rfl) (by kernel_rfl), pure4 onl2_ctx (fun p e f w => givesOf (onl2_run p e f w)
    (holds_br (B := kBool) (holds_br (B := kBool) (holds_leaf (kBool.h1 _)) noHolds) (holds_br (B := kBool) (holds_leaf (kBool.h1 _)) noHolds)))⟩
end Go.Rq

/- Sums of one and of two points: contracts. Written by a program of ours. -/
namespace Go.Rq
open Go Go.Proofs

/-- What the functions on points come to, left open. -/
structure GO (K : Type) where
  on : Fl K → Ap K → Bool
  ra : Fl K → Ap K → Jp K
  ti : Fl K → Jp K → W6 → Jp K
  su : Fl K → Jp K → Jp K → Jp K
  lo : Fl K → Jp K → Ap K

section
variable {K : Type} (t : GO K) (z : K)
def ga1 (f : Fl K) (p : Ap K) (n : W6) : Ap K × Int := bif t.on f p then (t.lo f (t.su f ⟨f.one, f.one, z⟩ (t.ti f (t.ra f p) n)), 0) else (⟨z, z, false⟩, 5)
def ga2 (f : Fl K) (x : Ap K × Ap K) (y : W6 × W6) : Ap K × Int := bif t.on f x.1 then (bif t.on f x.2 then
  (t.lo f (t.su f (t.su f ⟨f.one, f.one, z⟩ (t.ti f (t.ra f x.1) y.1)) (t.ti f (t.ra f x.2) y.2)), 0) else (⟨z, z, false⟩, 5)) else (⟨z, z, false⟩, 5)

/-- Likewise of told points. -/
structure SO (K : Type) where
  be : Ap K → Bool
  fi : Fl K
  inn : Ap K → Ap K
  ou : Ap K → Ap K

variable (s : SO K)
def sm1 (G : Fl K → Ap K → W6 → Ap K × Int) (p : Ap K) (n : W6) : Ap K × Int := bif s.be p then (s.ou (G s.fi (s.inn p) n).1, (G s.fi (s.inn p) n).2) else (⟨z, z, false⟩, 5)
def sm2 (G : Fl K → Ap K × Ap K → W6 × W6 → Ap K × Int) (x : Ap K × Ap K) (y : W6 × W6) : Ap K × Int := bif s.be x.1 then (bif s.be x.2 then
  (s.ou (G s.fi (s.inn x.1, s.inn x.2) y).1, (G s.fi (s.inn x.1, s.inn x.2) y).2) else (⟨z, z, false⟩, 5)) else (⟨z, z, false⟩, 5)
end


def gaTW (t : GO W6) : PureTab := [(86, fn2 flW.agg aW.agg kBool t.on), (139, fn2 flW.agg aW.agg jW.agg t.ra), (138, fn3 flW.agg jW.agg c6.agg jW.agg t.ti),
  (161, fn3 flW.agg jW.agg jW.agg jW.agg t.su), (137, fn2 flW.agg jW.agg aW.agg t.lo)]
noncomputable def gaEW (t : GO W6) : Env := envH eqsT (gaTW t) []
def noneWA : Tree AV := .leaf (.tup [.agg (c6.enc zeroW ++ (c6.enc zeroW ++ [.lit false])), .v (.int .i64 5)])
set_option maxRecDepth 100000 in
theorem ga1_runW (t : GO W6) (f : Fl W6) (p : Ap W6) (n : W6) : (afunH PR (gaEW t) [27] 10 112 [flW.agg.enc f, (SlA.own 13 1).at 0, (SlA.slc 1).at 1] (twoAH aW c6 126 47 p n) 2).strict =
    .br (t.on f p) (.leaf (kPW.enc (t.lo f (t.su f ⟨f.one, f.one, zeroW⟩ (t.ti f (t.ra f p) n)), 0))) noneWA := by kernel_rfl
set_option maxRecDepth 100000 in
theorem ga2_runW (t : GO W6) (f : Fl W6) (p q : Ap W6) (n m : W6) : (afunH PR (gaEW t) [27] 10 112 [flW.agg.enc f, (SlA.own 13 2).at 0, (SlA.slc 2).at 1] (twoAH (CC.prod aW aW) (CC.prod c6 c6) 126 47 (p, q) (n, m)) 2).strict =
    .br (t.on f p) (.br (t.on f q) (.leaf (kPW.enc (t.lo f (t.su f (t.su f ⟨f.one, f.one, zeroW⟩ (t.ti f (t.ra f p) n)) (t.ti f (t.ra f q) m)), 0))) noneWA) noneWA := by kernel_rfl

def suTW (s : SO W6) : PureTab := [(84, fn1 aW.agg kBool s.be), (87, fn1 aW.agg aW.agg s.inn), (85, fn0 flW.agg s.fi), (91, fn1 aW.agg aW.agg s.ou)]
noncomputable def suE1W (s : SO W6) (G : Fl W6 → Ap W6 → W6 → Ap W6 × Int) : Env := envH eqsT (suTW s) [(112, sl3 (.own 13 1) (.slc 1) 126 47 flW.agg aW c6 kPW G)]
noncomputable def suE2W (s : SO W6) (G : Fl W6 → Ap W6 × Ap W6 → W6 × W6 → Ap W6 × Int) : Env := envH eqsT (suTW s) [(112, sl3 (.own 13 2) (.slc 2) 126 47 flW.agg (CC.prod aW aW) (CC.prod c6 c6) kPW G)]
set_option maxRecDepth 100000 in
theorem su1_runW (s : SO W6) (G : Fl W6 → Ap W6 → W6 → Ap W6 × Int) (p : Ap W6) (n : W6) : (afunH PR (suE1W s G) [24] 10 56 [(SlA.slc 1).at 0, (SlA.slc 1).at 1] (twoAH aW c6 49 47 p n) 2).strict =
    .br (s.be p) (.leaf (kPW.enc (s.ou (G s.fi (s.inn p) n).1, (G s.fi (s.inn p) n).2))) noneWA := by kernel_rfl
set_option maxRecDepth 100000 in
theorem su2_runW (s : SO W6) (G : Fl W6 → Ap W6 × Ap W6 → W6 × W6 → Ap W6 × Int) (p q : Ap W6) (n m : W6) : (afunH PR (suE2W s G) [24] 10 56 [(SlA.slc 2).at 0, (SlA.slc 2).at 1] (twoAH (CC.prod aW aW) (CC.prod c6 c6) 49 47 (p, q) (n, m)) 2).strict =
    .br (s.be p) (.br (s.be q) (.leaf (kPW.enc (s.ou (G s.fi (s.inn p, s.inn q) (n, m)).1, (G s.fi (s.inn p, s.inn q) (n, m)).2))) noneWA) noneWA := by kernel_rfl

noncomputable def adEW (G : Ap W6 × Ap W6 → W6 × W6 → Ap W6 × Int) (ofw : BitVec 64 → W6) : Env := envH eqsT [(63, fn1 kU c6.agg ofw)] [(56, sl2 (.slc 2) (.slc 2) 49 47 (CC.prod aW aW) (CC.prod c6 c6) kPW G)]
set_option maxRecDepth 100000 in
theorem ad_runW (G : Ap W6 × Ap W6 → W6 × W6 → Ap W6 × Int) (ofw : BitVec 64 → W6) (p q : Ap W6) : (afunR PR (adEW G ofw) [] (fun _ => none) 10 36 [aW.agg.enc p, aW.agg.enc q]).strict =
    .leaf (kPW.enc (G (p, q) (ofw (bitW true), ofw (bitW true)))) := by kernel_rfl
noncomputable def muEW (G : Ap W6 → W6 → Ap W6 × Int) : Env := envH eqsT [] [(56, sl2 (.slc 1) (.slc 1) 49 47 aW c6 kPW G)]
set_option maxRecDepth 100000 in
theorem mu_runW (G : Ap W6 → W6 → Ap W6 × Int) (p : Ap W6) (n : W6) : (afunR PR (muEW G) [] (fun _ => none) 10 37 [aW.agg.enc p, c6.agg.enc n]).strict =
    .leaf (kPW.enc (G p n)) := by kernel_rfl


def gaTD (t : GO D6) : PureTab := [(103, fn2 flD.agg aD.agg kBool t.on), (158, fn2 flD.agg aD.agg jD.agg t.ra), (157, fn3 flD.agg jD.agg c6.agg jD.agg t.ti),
  (162, fn3 flD.agg jD.agg jD.agg jD.agg t.su), (156, fn2 flD.agg jD.agg aD.agg t.lo)]
noncomputable def gaED (t : GO D6) : Env := envH eqsT (gaTD t) []
def noneDA : Tree AV := .leaf (.tup [.agg (c12.enc zero2 ++ (c12.enc zero2 ++ [.lit false])), .v (.int .i64 5)])
set_option maxRecDepth 100000 in
theorem ga1_runD (t : GO D6) (f : Fl D6) (p : Ap D6) (n : W6) : (afunH PR (gaED t) [27] 10 113 [flD.agg.enc f, (SlA.own 25 1).at 0, (SlA.slc 1).at 1] (twoAH aD c6 145 47 p n) 2).strict =
    .br (t.on f p) (.leaf (kPD.enc (t.lo f (t.su f ⟨f.one, f.one, zero2⟩ (t.ti f (t.ra f p) n)), 0))) noneDA := by kernel_rfl
set_option maxRecDepth 100000 in
theorem ga2_runD (t : GO D6) (f : Fl D6) (p q : Ap D6) (n m : W6) : (afunH PR (gaED t) [27] 10 113 [flD.agg.enc f, (SlA.own 25 2).at 0, (SlA.slc 2).at 1] (twoAH (CC.prod aD aD) (CC.prod c6 c6) 145 47 (p, q) (n, m)) 2).strict =
    .br (t.on f p) (.br (t.on f q) (.leaf (kPD.enc (t.lo f (t.su f (t.su f ⟨f.one, f.one, zero2⟩ (t.ti f (t.ra f p) n)) (t.ti f (t.ra f q) m)), 0))) noneDA) noneDA := by kernel_rfl

def suTD (s : SO D6) : PureTab := [(101, fn1 aD.agg kBool s.be), (104, fn1 aD.agg aD.agg s.inn), (102, fn0 flD.agg s.fi), (106, fn1 aD.agg aD.agg s.ou)]
noncomputable def suE1D (s : SO D6) (G : Fl D6 → Ap D6 → W6 → Ap D6 × Int) : Env := envH eqsT (suTD s) [(113, sl3 (.own 25 1) (.slc 1) 145 47 flD.agg aD c6 kPD G)]
noncomputable def suE2D (s : SO D6) (G : Fl D6 → Ap D6 × Ap D6 → W6 × W6 → Ap D6 × Int) : Env := envH eqsT (suTD s) [(113, sl3 (.own 25 2) (.slc 2) 145 47 flD.agg (CC.prod aD aD) (CC.prod c6 c6) kPD G)]
set_option maxRecDepth 100000 in
theorem su1_runD (s : SO D6) (G : Fl D6 → Ap D6 → W6 → Ap D6 × Int) (p : Ap D6) (n : W6) : (afunH PR (suE1D s G) [24] 10 57 [(SlA.slc 1).at 0, (SlA.slc 1).at 1] (twoAH aD c6 64 47 p n) 2).strict =
    .br (s.be p) (.leaf (kPD.enc (s.ou (G s.fi (s.inn p) n).1, (G s.fi (s.inn p) n).2))) noneDA := by kernel_rfl
set_option maxRecDepth 100000 in
theorem su2_runD (s : SO D6) (G : Fl D6 → Ap D6 × Ap D6 → W6 × W6 → Ap D6 × Int) (p q : Ap D6) (n m : W6) : (afunH PR (suE2D s G) [24] 10 57 [(SlA.slc 2).at 0, (SlA.slc 2).at 1] (twoAH (CC.prod aD aD) (CC.prod c6 c6) 64 47 (p, q) (n, m)) 2).strict =
    .br (s.be p) (.br (s.be q) (.leaf (kPD.enc (s.ou (G s.fi (s.inn p, s.inn q) (n, m)).1, (G s.fi (s.inn p, s.inn q) (n, m)).2))) noneDA) noneDA := by kernel_rfl

noncomputable def adED (G : Ap D6 × Ap D6 → W6 × W6 → Ap D6 × Int) (ofw : BitVec 64 → W6) : Env := envH eqsT [(63, fn1 kU c6.agg ofw)] [(57, sl2 (.slc 2) (.slc 2) 64 47 (CC.prod aD aD) (CC.prod c6 c6) kPD G)]
set_option maxRecDepth 100000 in
theorem ad_runD (G : Ap D6 × Ap D6 → W6 × W6 → Ap D6 × Int) (ofw : BitVec 64 → W6) (p q : Ap D6) : (afunR PR (adED G ofw) [] (fun _ => none) 10 49 [aD.agg.enc p, aD.agg.enc q]).strict =
    .leaf (kPD.enc (G (p, q) (ofw (bitW true), ofw (bitW true)))) := by kernel_rfl
noncomputable def muED (G : Ap D6 → W6 → Ap D6 × Int) : Env := envH eqsT [] [(57, sl2 (.slc 1) (.slc 1) 64 47 aD c6 kPD G)]
set_option maxRecDepth 100000 in
theorem mu_runD (G : Ap D6 → W6 → Ap D6 × Int) (p : Ap D6) (n : W6) : (afunR PR (muED G) [] (fun _ => none) 10 50 [aD.agg.enc p, c6.agg.enc n]).strict =
    .leaf (kPD.enc (G p n)) := by kernel_rfl

end Go.Rq

/- Sums of one and of two points: contracts. Written by a program of ours. -/
namespace Go.Rq
open Go Go.Proofs


def gaOW : GO W6 := ⟨onE fW eqW, raiseJ fW, timesW, sumE fW eqW, lowFW⟩
theorem gaT_okW : TabPOk PR (gaTW gaOW) := TabPOk.cons onW_ok (TabPOk.cons raW_ok (TabPOk.cons tm_okW (TabPOk.cons suW_ok (TabPOk.cons lowFW_ok TabPOk.nil))))
theorem gaE_okW : EnvOk PR (gaEW gaOW) := envH_ok eqsT_ok gaT_okW TabHOk.nil
def gath1W : Fl W6 → Ap W6 → W6 → Ap W6 × Int := ga1 gaOW zeroW
def gath2W : Fl W6 → Ap W6 × Ap W6 → W6 × W6 → Ap W6 × Int := ga2 gaOW zeroW
theorem ga_entW : Enters PR 112 := enters_of (fn := Try.f112) (by kernel_rfl) (by kernel_rfl) (by kernel_rfl)
theorem ga1_okW : HeapOk PR 112 (sl3 (.own 13 1) (.slc 1) 126 47 flW.agg aW c6 kPW gath1W) :=
  sl3_ok gaE_okW mixed (sym := [27]) (lf := 10) (fn := Try.f112) (c := bodyOf PR 112) (by kernel_rfl) (by kernel_rfl) (by kernel_rfl) (tabOk_none _)
    (fun f p n => givesH (ga1_runW gaOW f p n) (holds_br (B := kPW) (holds_leaf (kPW.h1 _)) (holds_leaf noneFlatW)))
theorem ga2_okW : HeapOk PR 112 (sl3 (.own 13 2) (.slc 2) 126 47 flW.agg (CC.prod aW aW) (CC.prod c6 c6) kPW gath2W) :=
  sl3_ok gaE_okW mixed (sym := [27]) (lf := 10) (fn := Try.f112) (c := bodyOf PR 112) (by kernel_rfl) (by kernel_rfl) (by kernel_rfl) (tabOk_none _)
    (fun f p n => givesH (ga2_runW gaOW f p.1 p.2 n.1 n.2) (holds_br (B := kPW) (holds_br (B := kPW) (holds_leaf (kPW.h1 _)) (holds_leaf noneFlatW)) (holds_leaf noneFlatW)))

def suOW : SO W6 := ⟨belowP1, fld1, inP1, outP1⟩
theorem suT_okW : TabPOk PR (suTW suOW) := TabPOk.cons belowp1_ok (TabPOk.cons inp1_ok (TabPOk.cons first_ok (TabPOk.cons outp1_ok TabPOk.nil)))
def sumP1W : Ap W6 → W6 → Ap W6 × Int := sm1 zeroW suOW gath1W
def sumP2W : Ap W6 × Ap W6 → W6 × W6 → Ap W6 × Int := sm2 zeroW suOW gath2W
theorem su_entW : Enters PR 56 := enters_of (fn := Try.f56) (by kernel_rfl) (by kernel_rfl) (by kernel_rfl)
theorem su1_okW : HeapOk PR 56 (sl2 (.slc 1) (.slc 1) 49 47 aW c6 kPW sumP1W) :=
  sl2_ok (E := suE1W suOW gath1W) (envH_ok eqsT_ok suT_okW (TabHOk.cons ga_entW ga1_okW TabHOk.nil)) mixed (sym := [24]) (lf := 10) (fn := Try.f56) (c := bodyOf PR 56) (by kernel_rfl) (by kernel_rfl) (by kernel_rfl) (tabOk_none _)
    (fun p n => givesH (su1_runW suOW gath1W p n) (holds_br (B := kPW) (holds_leaf (kPW.h1 _)) (holds_leaf noneFlatW)))
theorem su2_okW : HeapOk PR 56 (sl2 (.slc 2) (.slc 2) 49 47 (CC.prod aW aW) (CC.prod c6 c6) kPW sumP2W) :=
  sl2_ok (E := suE2W suOW gath2W) (envH_ok eqsT_ok suT_okW (TabHOk.cons ga_entW ga2_okW TabHOk.nil)) mixed (sym := [24]) (lf := 10) (fn := Try.f56) (c := bodyOf PR 56) (by kernel_rfl) (by kernel_rfl) (by kernel_rfl) (tabOk_none _)
    (fun p n => givesH (su2_runW suOW gath2W p.1 p.2 n.1 n.2) (holds_br (B := kPW) (holds_br (B := kPW) (holds_leaf (kPW.h1 _)) (holds_leaf noneFlatW)) (holds_leaf noneFlatW)))

def addP1 (p q : Ap W6) : Ap W6 × Int := sumP2W (p, q) (ofW (bitW true), ofW (bitW true))
theorem adE_okW : EnvOk PR (adEW sumP2W ofW) := envH_ok eqsT_ok (TabPOk.cons of_ok TabPOk.nil) (TabHOk.cons su_entW su2_okW TabHOk.nil)
theorem ad_ctxW : Ctx PR (adEW sumP2W ofW) [] (fun _ => none) 10 36 :=
  ctx_of adE_okW mixed (fn := Try.f36) (by kernel_rfl) (by kernel_rfl) (by kernel_rfl) (tabOk_none _)
theorem addp1_ok : CallOk PR 36 (fn2 aW.agg aW.agg kPW addP1) :=
  .inl ⟨enters_of (fn := Try.f36) (by kernel_rfl) (by kernel_rfl) (by kernel_rfl), pure2 ad_ctxW (fun p q => leafVal (B := kPW) (y := addP1 p q) (ad_runW sumP2W ofW p q))⟩
theorem muE_okW : EnvOk PR (muEW sumP1W) := envH_ok eqsT_ok TabPOk.nil (TabHOk.cons su_entW su1_okW TabHOk.nil)
theorem mu_ctxW : Ctx PR (muEW sumP1W) [] (fun _ => none) 10 37 :=
  ctx_of muE_okW mixed (fn := Try.f37) (by kernel_rfl) (by kernel_rfl) (by kernel_rfl) (tabOk_none _)
theorem mulp1_ok : CallOk PR 37 (fn2 aW.agg c6.agg kPW sumP1W) :=
  .inl ⟨enters_of (fn := Try.f37) (by kernel_rfl) (by kernel_rfl) (by kernel_rfl), pure2 mu_ctxW (fun p n => leafVal (B := kPW) (y := sumP1W p n) (mu_runW sumP1W p n))⟩


def gaOD : GO D6 := ⟨onE fD eqD, raiseJ fD, timesD, sumE fD eqD, lowFD⟩
theorem gaT_okD : TabPOk PR (gaTD gaOD) := TabPOk.cons onD_ok (TabPOk.cons raD_ok (TabPOk.cons tm_okD (TabPOk.cons suD_ok (TabPOk.cons lowFD_ok TabPOk.nil))))
theorem gaE_okD : EnvOk PR (gaED gaOD) := envH_ok eqsT_ok gaT_okD TabHOk.nil
def gath1D : Fl D6 → Ap D6 → W6 → Ap D6 × Int := ga1 gaOD zero2
def gath2D : Fl D6 → Ap D6 × Ap D6 → W6 × W6 → Ap D6 × Int := ga2 gaOD zero2
theorem ga_entD : Enters PR 113 := enters_of (fn := Try.f113) (by kernel_rfl) (by kernel_rfl) (by kernel_rfl)
theorem ga1_okD : HeapOk PR 113 (sl3 (.own 25 1) (.slc 1) 145 47 flD.agg aD c6 kPD gath1D) :=
  sl3_ok gaE_okD mixed (sym := [27]) (lf := 10) (fn := Try.f113) (c := bodyOf PR 113) (by kernel_rfl) (by kernel_rfl) (by kernel_rfl) (tabOk_none _)
    (fun f p n => givesH (ga1_runD gaOD f p n) (holds_br (B := kPD) (holds_leaf (kPD.h1 _)) (holds_leaf noneFlatD)))
theorem ga2_okD : HeapOk PR 113 (sl3 (.own 25 2) (.slc 2) 145 47 flD.agg (CC.prod aD aD) (CC.prod c6 c6) kPD gath2D) :=
  sl3_ok gaE_okD mixed (sym := [27]) (lf := 10) (fn := Try.f113) (c := bodyOf PR 113) (by kernel_rfl) (by kernel_rfl) (by kernel_rfl) (tabOk_none _)
    (fun f p n => givesH (ga2_runD gaOD f p.1 p.2 n.1 n.2) (holds_br (B := kPD) (holds_br (B := kPD) (holds_leaf (kPD.h1 _)) (holds_leaf noneFlatD)) (holds_leaf noneFlatD)))

def suOD : SO D6 := ⟨belowP2, fld2, inP2, outP2⟩
theorem suT_okD : TabPOk PR (suTD suOD) := TabPOk.cons belowp2_ok (TabPOk.cons inp2_ok (TabPOk.cons second_ok (TabPOk.cons outp2_ok TabPOk.nil)))
def sumP1D : Ap D6 → W6 → Ap D6 × Int := sm1 zero2 suOD gath1D
def sumP2D : Ap D6 × Ap D6 → W6 × W6 → Ap D6 × Int := sm2 zero2 suOD gath2D
theorem su_entD : Enters PR 57 := enters_of (fn := Try.f57) (by kernel_rfl) (by kernel_rfl) (by kernel_rfl)
theorem su1_okD : HeapOk PR 57 (sl2 (.slc 1) (.slc 1) 64 47 aD c6 kPD sumP1D) :=
  sl2_ok (E := suE1D suOD gath1D) (envH_ok eqsT_ok suT_okD (TabHOk.cons ga_entD ga1_okD TabHOk.nil)) mixed (sym := [24]) (lf := 10) (fn := Try.f57) (c := bodyOf PR 57) (by kernel_rfl) (by kernel_rfl) (by kernel_rfl) (tabOk_none _)
    (fun p n => givesH (su1_runD suOD gath1D p n) (holds_br (B := kPD) (holds_leaf (kPD.h1 _)) (holds_leaf noneFlatD)))
theorem su2_okD : HeapOk PR 57 (sl2 (.slc 2) (.slc 2) 64 47 (CC.prod aD aD) (CC.prod c6 c6) kPD sumP2D) :=
  sl2_ok (E := suE2D suOD gath2D) (envH_ok eqsT_ok suT_okD (TabHOk.cons ga_entD ga2_okD TabHOk.nil)) mixed (sym := [24]) (lf := 10) (fn := Try.f57) (c := bodyOf PR 57) (by kernel_rfl) (by kernel_rfl) (by kernel_rfl) (tabOk_none _)
    (fun p n => givesH (su2_runD suOD gath2D p.1 p.2 n.1 n.2) (holds_br (B := kPD) (holds_br (B := kPD) (holds_leaf (kPD.h1 _)) (holds_leaf noneFlatD)) (holds_leaf noneFlatD)))

def addP2 (p q : Ap D6) : Ap D6 × Int := sumP2D (p, q) (ofW (bitW true), ofW (bitW true))
theorem adE_okD : EnvOk PR (adED sumP2D ofW) := envH_ok eqsT_ok (TabPOk.cons of_ok TabPOk.nil) (TabHOk.cons su_entD su2_okD TabHOk.nil)
theorem ad_ctxD : Ctx PR (adED sumP2D ofW) [] (fun _ => none) 10 49 :=
  ctx_of adE_okD mixed (fn := Try.f49) (by kernel_rfl) (by kernel_rfl) (by kernel_rfl) (tabOk_none _)
theorem addp2_ok : CallOk PR 49 (fn2 aD.agg aD.agg kPD addP2) :=
  .inl ⟨enters_of (fn := Try.f49) (by kernel_rfl) (by kernel_rfl) (by kernel_rfl), pure2 ad_ctxD (fun p q => leafVal (B := kPD) (y := addP2 p q) (ad_runD sumP2D ofW p q))⟩
theorem muE_okD : EnvOk PR (muED sumP1D) := envH_ok eqsT_ok TabPOk.nil (TabHOk.cons su_entD su1_okD TabHOk.nil)
theorem mu_ctxD : Ctx PR (muED sumP1D) [] (fun _ => none) 10 50 :=
  ctx_of muE_okD mixed (fn := Try.f50) (by kernel_rfl) (by kernel_rfl) (by kernel_rfl) (tabOk_none _)
theorem mulp2_ok : CallOk PR 50 (fn2 aD.agg c6.agg kPD sumP1D) :=
  .inl ⟨enters_of (fn := Try.f50) (by kernel_rfl) (by kernel_rfl) (by kernel_rfl), pure2 mu_ctxD (fun p n => leafVal (B := kPD) (y := sumP1D p n) (mu_runD sumP1D p n))⟩

end Go.Rq

/- The law CurveFirst, gone through: what is called left open. -/
namespace Go.Rq
open Go Go.Proofs

/-- What the law calls, left open. -/
structure LO (K : Type) where
  ck : Ap K → Bool
  ckP : Ap K → Bool
  ig : Ap K → Bool
  igP : Ap K → Bool
  ge : Ap K
  geP : Ap K
  ne : Ap K → Ap K
  neP : Ap K → Ap K × Int
  ad : Ap K → Ap K → Ap K
  adP : Ap K → Ap K → Ap K × Int
  mu : Ap K → W6 → Ap K
  muP : Ap K → W6 → Ap K × Int
  on : Ap K → Int → Bool → Ap K → Bool
def loT (t : LO W6) : PureTab := [(29, fn1 aW.agg kBool t.ck), (30, fn1 aW.agg kBool t.ckP), (32, fn1 aW.agg kBool t.ig), (31, fn1 aW.agg kBool t.igP),
  (34, fn0 aW.agg t.ge), (33, fn0 aW.agg t.geP), (40, fn1 aW.agg aW.agg t.ne), (35, fn1 aW.agg kPW t.neP),
  (39, fn2 aW.agg aW.agg aW.agg t.ad), (36, fn2 aW.agg aW.agg kPW t.adP), (41, fn2 aW.agg c6.agg aW.agg t.mu), (37, fn2 aW.agg c6.agg kPW t.muP),
  (38, fn4 aW.agg (kInt .i64) kBool aW.agg kBool t.on)]
noncomputable def loE (t : LO W6) : Env := envH eqsT (loT t) []

def loFalse : Tree AV := .leaf (.lit false)
def loEnd {K : Type} (t : LO K) (a _b : Ap K) (n : W6) (sum : Bool) : Tree AV :=
  .br (t.on (t.neP a).1 (t.neP a).2 true (t.ne a)) (.br sum (.leaf (kBool.enc (t.on (t.muP a n).1 (t.muP a n).2 true (t.mu a n)))) loFalse) loFalse
def loMain {K : Type} (t : LO K) (a b : Ap K) (n : W6) : Tree AV :=
  .br (!t.ck a)
    (.br (t.on (t.neP a).1 (t.neP a).2 false a) (.br (t.on (t.adP a b).1 (t.adP a b).2 false a) (.leaf (kBool.enc (t.on (t.muP a n).1 (t.muP a n).2 false a))) loFalse) loFalse)
    (.br (t.ck b) (loEnd t a b n (t.on (t.adP a b).1 (t.adP a b).2 true (t.ad a b))) (loEnd t a b n (t.on (t.adP a b).1 (t.adP a b).2 false a)))
def loTree {K : Type} (eqP : Ap K → Ap K → Bool) (t : LO K) (a b : Ap K) (n : W6) : Tree AV :=
  .br (!(t.ckP a == t.ck a)) loFalse
    (.br (t.ck a) (.br (!(t.igP a == t.ig a)) loFalse (.br (!(eqP t.geP t.ge)) loFalse (loMain t a b n)))
      (.br (!(t.igP a == false)) loFalse (.br (!(eqP t.geP t.ge)) loFalse (loMain t a b n))))
set_option maxRecDepth 1000000 in
theorem first_law (t : LO W6) (a b : Ap W6) (n : W6) : (afunR PR (loE t) [24, 28, 34, 38, 57, 62, 68, 78, 90, 93] (fun _ => none) 10 4 [aW.agg.enc a, aW.agg.enc b, c6.agg.enc n]).strict = loTree eqP13 t a b n := by kernel_rfl

/-- What makes the law true. -/
structure LOk {K : Type} (eqP : Ap K → Ap K → Bool) (none : Ap K) (t : LO K) : Prop where
  on : ∀ p e f w, t.on p e f w = bif !f then (bif eqP p none then e == 5 else false) else (bif eqP p w then e == 0 else false)
  refl : ∀ p, eqP p p = true
  ck : ∀ p, t.ckP p = t.ck p
  ig : ∀ p, t.igP p = bif t.ck p then t.ig p else false
  ge : t.geP = t.ge
  ne : ∀ p, t.neP p = bif t.ck p then (t.ne p, 0) else (none, 5)
  ad : ∀ p q, t.adP p q = bif t.ck p then (bif t.ck q then (t.ad p q, 0) else (none, 5)) else (none, 5)
  mu : ∀ p n, t.muP p n = bif t.ck p then (t.mu p n, 0) else (none, 5)

theorem loTree_true {K : Type} {eqP : Ap K → Ap K → Bool} {none : Ap K} {t : LO K} (h : LOk eqP none t) (a b : Ap K) (n : W6) : (loTree eqP t a b n).holds (fun q => flat q = some (.bool true)) := by
  have hmain : (loMain t a b n).holds (fun q => flat q = some (.bool true)) := by
    unfold loMain loEnd loFalse
    rw [h.ne, h.ad, h.mu]
    cases ha : t.ck a <;> cases hb : t.ck b <;> simp [Tree.holds, h.on, h.refl, kBool, flat, scal]
  unfold loTree
  rw [h.ck, h.ig, h.ge, h.refl]
  refine ⟨fun h1 => by simp at h1, fun _ => ⟨fun h2 => ⟨fun h3 => ?_, fun _ => ⟨fun h4 => by simp at h4, fun _ => hmain⟩⟩, fun h2 => ⟨fun h3 => ?_, fun _ => ⟨fun h4 => by simp at h4, fun _ => hmain⟩⟩⟩⟩
  · rw [h2] at h3; simp at h3
  · rw [h2] at h3; simp at h3
end Go.Rq

/- The law CurveSecond, gone through: what is called left open. -/
namespace Go.Rq
open Go Go.Proofs

def loT2 (t : LO D6) : PureTab := [(42, fn1 aD.agg kBool t.ck), (43, fn1 aD.agg kBool t.ckP), (45, fn1 aD.agg kBool t.ig), (44, fn1 aD.agg kBool t.igP),
  (47, fn0 aD.agg t.ge), (46, fn0 aD.agg t.geP), (53, fn1 aD.agg aD.agg t.ne), (48, fn1 aD.agg kPD t.neP),
  (52, fn2 aD.agg aD.agg aD.agg t.ad), (49, fn2 aD.agg aD.agg kPD t.adP), (54, fn2 aD.agg c6.agg aD.agg t.mu), (50, fn2 aD.agg c6.agg kPD t.muP),
  (51, fn4 aD.agg (kInt .i64) kBool aD.agg kBool t.on)]
noncomputable def loE2 (t : LO D6) : Env := envH eqsT (loT2 t) []

set_option maxRecDepth 1000000 in
theorem second_law (t : LO D6) (a b : Ap D6) (n : W6) : (afunR PR (loE2 t) [24, 28, 34, 38, 57, 62, 68, 78, 90, 93] (fun _ => none) 10 5 [aD.agg.enc a, aD.agg.enc b, c6.agg.enc n]).strict = loTree eqP25 t a b n := by kernel_rfl

end Go.Rq

/- The reference's sum and difference are the program's. -/
namespace Go.Rq
open Go Go.Proofs

theorem raC_eq (x y : BitVec 64) (c : Bool) : raC x y (bitW c) = bitW (add64 x y c).2 := by
  have hx := x.isLt
  have hy := y.isLt
  have hc := b2n_le c
  have e : (bif BitVec.ult (x + y + bitW c) (x + y) then true else BitVec.ult (x + y) x) = (add64 x y c).2 := by
    have e2 : (add64 x y c).2 = decide (18446744073709551616 ≤ x.toNat + y.toNat + b2n c) := rfl
    have e3 : (x + y + bitW c).toNat = ((x.toNat + y.toNat) % 18446744073709551616 + b2n c) % 18446744073709551616 := by rw [BitVec.toNat_add, BitVec.toNat_add, bitW_nat]
    have e4 : (x + y).toNat = (x.toNat + y.toNat) % 18446744073709551616 := BitVec.toNat_add x y
    rw [e2]
    unfold BitVec.ult
    rw [e3, e4]
    rw [Bool.eq_iff_iff, decide_eq_true_eq]
    by_cases h : ((x.toNat + y.toNat) % 18446744073709551616 + b2n c) % 18446744073709551616 < (x.toNat + y.toNat) % 18446744073709551616
    · rw [decide_eq_true h, cond_true]
      constructor
      · intro _; omega
      · intro _; rfl
    · rw [decide_eq_false h, cond_false, decide_eq_true_eq]
      omega
  unfold raC
  rw [e]
  cases (add64 x y c).2 <;> rfl

theorem rsC_eq (x y : BitVec 64) (c : Bool) : rsC x y (bitW c) = bitW (sub64 x y c).2 := by
  have hx := x.isLt
  have hy := y.isLt
  have hc := b2n_le c
  have e : (bif BitVec.ult (x - y) (bitW c) then true else BitVec.ult x y) = (sub64 x y c).2 := by
    have e2 : (sub64 x y c).2 = decide (x.toNat < y.toNat + b2n c) := rfl
    have e4 : (x - y).toNat = (18446744073709551616 - y.toNat + x.toNat) % 18446744073709551616 := BitVec.toNat_sub x y
    rw [e2]
    unfold BitVec.ult
    rw [e4, bitW_nat]
    rw [Bool.eq_iff_iff, decide_eq_true_eq]
    by_cases h : (18446744073709551616 - y.toNat + x.toNat) % 18446744073709551616 < b2n c
    · rw [decide_eq_true h, cond_true]
      constructor
      · intro _; omega
      · intro _; rfl
    · rw [decide_eq_false h, cond_false, decide_eq_true_eq]
      omega
  unfold rsC
  rw [e]
  cases (sub64 x y c).2 <;> rfl

theorem bitW_beq (c : Bool) : (bitW c == bitW true) = c := by cases c <;> rfl

theorem raddW_eq (a b : W6) : raddW a b = adds a b := by
  simp only [raddW, raC_eq, bitW_beq, adds]
  rfl

theorem rsubW_eq (a b : W6) : rsubW a b = subs a b := by
  simp only [rsubW, rsC_eq, bitW_beq, subs]
  rfl
end Go.Rq
