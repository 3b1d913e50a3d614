/- The great field's operations, and its square's, with the operations below left open. Written by a program of ours. -/
import Derived.Test.YtdbcjiggimppdaaRqBb
namespace Go.Rq
open Go Go.Proofs

def invT (Q : W6 → W6 → W6) : PureTab := [(174, fn2 c6.agg c6.agg c6.agg Q)]
theorem invT_ok : TabPOk PR (invT pow384) := TabPOk.cons pow_ok TabPOk.nil

set_option maxRecDepth 100000 in
theorem minv_run (Q : W6 → W6 → W6) (a : W6) : (afunR PR (envOf eqsT (invT Q)) [] (fun _ => none) 40 134 [c6.agg.enc a]).strict = .leaf (c6.agg.enc (Q a expInv)) := by kernel_rfl
theorem minv_ctx : Ctx PR (envOf eqsT (invT pow384)) [] (fun _ => none) 40 134 :=
  ctx_of (envOf_ok eqsT_ok invT_ok) mixed (fn := Try.f134) (by kernel_rfl) (by kernel_rfl) (by kernel_rfl) (tabOk_none _)
theorem minv_ok : CallOk PR 134 (fn1 c6.agg c6.agg invW) :=
  .inl ⟨enters_of (fn := Try.f134) (by kernel_rfl) (by kernel_rfl) (by kernel_rfl), pure1 minv_ctx (fun a => leafVal (B := c6.agg) (y := invW a) (minv_run pow384 a))⟩

/-- The great field, left open. -/
def T1 (o : FO W6) : PureTab := [(131, fn2 c6.agg c6.agg c6.agg o.add),
  (132, fn2 c6.agg c6.agg c6.agg o.sub),
  (133, fn2 c6.agg c6.agg c6.agg o.mul),
  (194, fn1 c6.agg c6.agg o.neg),
  (134, fn1 c6.agg c6.agg o.inv),
  (136, fn1 c6.agg c6.agg o.to),
  (141, fn1 c6.agg c6.agg o.back),
  (135, fn0 c6.agg o.one)]
theorem T1_eq : [(131, fn2 c6.agg c6.agg c6.agg addW), (132, fn2 c6.agg c6.agg c6.agg subW), (133, fn2 c6.agg c6.agg c6.agg mulW), (194, fn1 c6.agg c6.agg negW), (134, fn1 c6.agg c6.agg invW), (136, fn1 c6.agg c6.agg toW), (141, fn1 c6.agg c6.agg fromW), (135, fn0 c6.agg oneW)] = T1 fW := by kernel_rfl
theorem T1_ok : TabPOk PR (T1 fW) := Eq.subst (motive := TabPOk PR) T1_eq (TabPOk.cons madd_ok (TabPOk.cons msub_ok (TabPOk.cons mmul_ok (TabPOk.cons mneg_ok (TabPOk.cons minv_ok (TabPOk.cons mto_ok (TabPOk.cons mfrom_ok (TabPOk.cons one_ok (TabPOk.nil)))))))))

set_option maxRecDepth 100000 in
theorem add2_run (o : FO W6) (a : D6) (b : D6) : (afunR PR (envOf eqsT (T1 o)) [] (fun _ => none) 40 150 [c12.agg.enc a, c12.agg.enc b]).strict = .leaf (c12.agg.enc (add2 o a b)) := by kernel_rfl
theorem add2_ctx : Ctx PR (envOf eqsT (T1 fW)) [] (fun _ => none) 40 150 :=
  ctx_of (envOf_ok eqsT_ok T1_ok) mixed (fn := Try.f150) (by kernel_rfl) (by kernel_rfl) (by kernel_rfl) (tabOk_none _)
theorem add2_ok : CallOk PR 150 (fn2 c12.agg c12.agg c12.agg (add2 fW)) :=
  .inl ⟨enters_of (fn := Try.f150) (by kernel_rfl) (by kernel_rfl) (by kernel_rfl), pure2 add2_ctx (fun a b => leafVal (B := c12.agg) (y := (add2 fW) a b) (add2_run fW a b))⟩

set_option maxRecDepth 100000 in
theorem sub2_run (o : FO W6) (a : D6) (b : D6) : (afunR PR (envOf eqsT (T1 o)) [] (fun _ => none) 40 151 [c12.agg.enc a, c12.agg.enc b]).strict = .leaf (c12.agg.enc (sub2 o a b)) := by kernel_rfl
theorem sub2_ctx : Ctx PR (envOf eqsT (T1 fW)) [] (fun _ => none) 40 151 :=
  ctx_of (envOf_ok eqsT_ok T1_ok) mixed (fn := Try.f151) (by kernel_rfl) (by kernel_rfl) (by kernel_rfl) (tabOk_none _)
theorem sub2_ok : CallOk PR 151 (fn2 c12.agg c12.agg c12.agg (sub2 fW)) :=
  .inl ⟨enters_of (fn := Try.f151) (by kernel_rfl) (by kernel_rfl) (by kernel_rfl), pure2 sub2_ctx (fun a b => leafVal (B := c12.agg) (y := (sub2 fW) a b) (sub2_run fW a b))⟩

set_option maxRecDepth 100000 in
theorem mul2_run (o : FO W6) (a : D6) (b : D6) : (afunR PR (envOf eqsT (T1 o)) [] (fun _ => none) 40 152 [c12.agg.enc a, c12.agg.enc b]).strict = .leaf (c12.agg.enc (mul2 o a b)) := by kernel_rfl
theorem mul2_ctx : Ctx PR (envOf eqsT (T1 fW)) [] (fun _ => none) 40 152 :=
  ctx_of (envOf_ok eqsT_ok T1_ok) mixed (fn := Try.f152) (by kernel_rfl) (by kernel_rfl) (by kernel_rfl) (tabOk_none _)
theorem mul2_ok : CallOk PR 152 (fn2 c12.agg c12.agg c12.agg (mul2 fW)) :=
  .inl ⟨enters_of (fn := Try.f152) (by kernel_rfl) (by kernel_rfl) (by kernel_rfl), pure2 mul2_ctx (fun a b => leafVal (B := c12.agg) (y := (mul2 fW) a b) (mul2_run fW a b))⟩

set_option maxRecDepth 100000 in
theorem scale2_run (o : FO W6) (a : D6) (n : W6) : (afunR PR (envOf eqsT (T1 o)) [] (fun _ => none) 40 183 [c12.agg.enc a, c6.agg.enc n]).strict = .leaf (c12.agg.enc (scale2 o a n)) := by kernel_rfl
theorem scale2_ctx : Ctx PR (envOf eqsT (T1 fW)) [] (fun _ => none) 40 183 :=
  ctx_of (envOf_ok eqsT_ok T1_ok) mixed (fn := Try.f183) (by kernel_rfl) (by kernel_rfl) (by kernel_rfl) (tabOk_none _)
theorem scale2_ok : CallOk PR 183 (fn2 c12.agg c6.agg c12.agg (scale2 fW)) :=
  .inl ⟨enters_of (fn := Try.f183) (by kernel_rfl) (by kernel_rfl) (by kernel_rfl), pure2 scale2_ctx (fun a n => leafVal (B := c12.agg) (y := (scale2 fW) a n) (scale2_run fW a n))⟩

set_option maxRecDepth 100000 in
theorem conj2_run (o : FO W6) (a : D6) : (afunR PR (envOf eqsT (T1 o)) [] (fun _ => none) 40 184 [c12.agg.enc a]).strict = .leaf (c12.agg.enc (conj2 o a)) := by kernel_rfl
theorem conj2_ctx : Ctx PR (envOf eqsT (T1 fW)) [] (fun _ => none) 40 184 :=
  ctx_of (envOf_ok eqsT_ok T1_ok) mixed (fn := Try.f184) (by kernel_rfl) (by kernel_rfl) (by kernel_rfl) (tabOk_none _)
theorem conj2_ok : CallOk PR 184 (fn1 c12.agg c12.agg (conj2 fW)) :=
  .inl ⟨enters_of (fn := Try.f184) (by kernel_rfl) (by kernel_rfl) (by kernel_rfl), pure1 conj2_ctx (fun a => leafVal (B := c12.agg) (y := (conj2 fW) a) (conj2_run fW a))⟩

set_option maxRecDepth 100000 in
theorem norm2_run (o : FO W6) (a : D6) : (afunR PR (envOf eqsT (T1 o)) [] (fun _ => none) 40 185 [c12.agg.enc a]).strict = .leaf (c6.agg.enc (norm2 o a)) := by kernel_rfl
theorem norm2_ctx : Ctx PR (envOf eqsT (T1 fW)) [] (fun _ => none) 40 185 :=
  ctx_of (envOf_ok eqsT_ok T1_ok) mixed (fn := Try.f185) (by kernel_rfl) (by kernel_rfl) (by kernel_rfl) (tabOk_none _)
theorem norm2_ok : CallOk PR 185 (fn1 c12.agg c6.agg (norm2 fW)) :=
  .inl ⟨enters_of (fn := Try.f185) (by kernel_rfl) (by kernel_rfl) (by kernel_rfl), pure1 norm2_ctx (fun a => leafVal (B := c6.agg) (y := (norm2 fW) a) (norm2_run fW a))⟩

set_option maxRecDepth 100000 in
theorem to2_run (o : FO W6) (a : D6) : (afunR PR (envOf eqsT (T1 o)) [] (fun _ => none) 40 155 [c12.agg.enc a]).strict = .leaf (c12.agg.enc (to2 o a)) := by kernel_rfl
theorem to2_ctx : Ctx PR (envOf eqsT (T1 fW)) [] (fun _ => none) 40 155 :=
  ctx_of (envOf_ok eqsT_ok T1_ok) mixed (fn := Try.f155) (by kernel_rfl) (by kernel_rfl) (by kernel_rfl) (tabOk_none _)
theorem to2_ok : CallOk PR 155 (fn1 c12.agg c12.agg (to2 fW)) :=
  .inl ⟨enters_of (fn := Try.f155) (by kernel_rfl) (by kernel_rfl) (by kernel_rfl), pure1 to2_ctx (fun a => leafVal (B := c12.agg) (y := (to2 fW) a) (to2_run fW a))⟩

set_option maxRecDepth 100000 in
theorem back2_run (o : FO W6) (a : D6) : (afunR PR (envOf eqsT (T1 o)) [] (fun _ => none) 40 159 [c12.agg.enc a]).strict = .leaf (c12.agg.enc (back2 o a)) := by kernel_rfl
theorem back2_ctx : Ctx PR (envOf eqsT (T1 fW)) [] (fun _ => none) 40 159 :=
  ctx_of (envOf_ok eqsT_ok T1_ok) mixed (fn := Try.f159) (by kernel_rfl) (by kernel_rfl) (by kernel_rfl) (tabOk_none _)
theorem back2_ok : CallOk PR 159 (fn1 c12.agg c12.agg (back2 fW)) :=
  .inl ⟨enters_of (fn := Try.f159) (by kernel_rfl) (by kernel_rfl) (by kernel_rfl), pure1 back2_ctx (fun a => leafVal (B := c12.agg) (y := (back2 fW) a) (back2_run fW a))⟩

set_option maxRecDepth 100000 in
theorem one2_run   : (afunR PR (envOf eqsT (T1 fW)) [] (fun _ => none) 40 154 []).strict = .leaf (c12.agg.enc (one2)) := by kernel_rfl
theorem one2_ctx : Ctx PR (envOf eqsT (T1 fW)) [] (fun _ => none) 40 154 :=
  ctx_of (envOf_ok eqsT_ok T1_ok) mixed (fn := Try.f154) (by kernel_rfl) (by kernel_rfl) (by kernel_rfl) (tabOk_none _)
theorem one2_ok : CallOk PR 154 (fn0  c12.agg one2) :=
  .inl ⟨enters_of (fn := Try.f154) (by kernel_rfl) (by kernel_rfl) (by kernel_rfl), pure0 one2_ctx (leafVal (B := c12.agg) (y := one2 ) one2_run)⟩

def inv2T (cj : D6 → D6) (nm : D6 → W6) (iv : W6 → W6) (sc : D6 → W6 → D6) : PureTab := [(184, fn1 c12.agg c12.agg cj), (185, fn1 c12.agg c6.agg nm), (134, fn1 c6.agg c6.agg iv), (183, fn2 c12.agg c6.agg c12.agg sc)]
theorem inv2T_ok : TabPOk PR (inv2T (conj2 fW) (norm2 fW) invW (scale2 fW)) := TabPOk.cons conj2_ok (TabPOk.cons norm2_ok (TabPOk.cons minv_ok (TabPOk.cons scale2_ok TabPOk.nil)))

set_option maxRecDepth 100000 in
theorem inv2_run (cj : D6 → D6) (nm : D6 → W6) (iv : W6 → W6) (sc : D6 → W6 → D6) (a : D6) : (afunR PR (envOf eqsT (inv2T cj nm iv sc)) [] (fun _ => none) 40 153 [c12.agg.enc a]).strict = .leaf (c12.agg.enc (sc (cj a) (iv (nm a)))) := by kernel_rfl
theorem inv2_ctx : Ctx PR (envOf eqsT (inv2T (conj2 fW) (norm2 fW) invW (scale2 fW))) [] (fun _ => none) 40 153 :=
  ctx_of (envOf_ok eqsT_ok inv2T_ok) mixed (fn := Try.f153) (by kernel_rfl) (by kernel_rfl) (by kernel_rfl) (tabOk_none _)
theorem inv2_ok : CallOk PR 153 (fn1 c12.agg c12.agg (inv2 fW)) :=
  .inl ⟨enters_of (fn := Try.f153) (by kernel_rfl) (by kernel_rfl) (by kernel_rfl), pure1 inv2_ctx (fun a => leafVal (B := c12.agg) (y := (inv2 fW) a) ((inv2_run (conj2 fW) (norm2 fW) invW (scale2 fW) a).trans (by kernel_rfl)))⟩

end Go.Rq
