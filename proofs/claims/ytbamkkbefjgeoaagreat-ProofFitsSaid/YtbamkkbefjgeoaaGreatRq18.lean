import Derived.Test.YtbamkkbefjgeoaaGreatRq16
import Derived.Test.YtbamkkbefjgeoaaGreatRq17
import Derived.Test.YtbamkkbefjgeoaaGreatRq05
import Derived.Test.YtbamkkbefjgeoaaGreatRq11
import Derived.Test.YtbamkkbefjgeoaaGreatRq06
import Derived.Test.YtbamkkbefjgeoaaGreatRq07
import Derived.Test.YtbamkkbefjgeoaaGreatRq08
namespace Go.Rq
open Go Go.Proofs
theorem rcmp_ctx : Ctx PR (envOf eqsT []) [16, 23] (fun _ => none) 40 47 :=
 ctxB (envOf_ok eqsT_ok TabPOk.nil) mixed (by kernel_rfl)
theorem rcmp_run (a b : W6) : (afunR PR (envOf eqsT []) [16, 23] (fun _ => none) 40 47 [c6.agg.enc a, c6.agg.enc b]).strict = chain (kInt .i64) (cmpL a b) 0 := by kernel_rfl
theorem rcmp_ok : CallOk PR 47 (fn2 c6.agg c6.agg (kInt .i64) fun a b => chainV (cmpL a b) 0) :=
 .inl ⟨entersB (by kernel_rfl), pure2 rcmp_ctx (fun a b => chainVal (rcmp_run a b))⟩
def raC (x y c : BitVec 64) : BitVec 64 := bif (bif BitVec.ult (x + y + c) (x + y) then true else BitVec.ult (x + y) x) then bitW true else bitW false
def raddW (a b : W6) : W6 × Bool :=
 let c1 := raC a.w0 b.w0 (bitW false)
 let c2 := raC a.w1 b.w1 c1
 let c3 := raC a.w2 b.w2 c2
 let c4 := raC a.w3 b.w3 c3
 let c5 := raC a.w4 b.w4 c4
 let c6 := raC a.w5 b.w5 c5
 (⟨a.w0 + b.w0 + bitW false, a.w1 + b.w1 + c1, a.w2 + b.w2 + c2, a.w3 + b.w3 + c3, a.w4 + b.w4 + c4, a.w5 + b.w5 + c5⟩, c6 == bitW true)
noncomputable def raE : Env := envM eqsT [] [] [36, 37]
theorem raE_ok : EnvOk PR raE := envM_ok eqsT_ok TabPOk.nil TabHOk.nil
theorem radd_ctx : Ctx PR raE [] (fun _ => none) 40 169 :=
 ctxB raE_ok mixed (by kernel_rfl)
set_option maxRecDepth 100000 in
theorem radd_run (a b : W6) : (afunR PR raE [] (fun _ => none) 40 169 [c6.agg.enc a, c6.agg.enc b]).strict = .leaf (kWB.enc (raddW a b)) := by kernel_rfl
theorem radd_ok : CallOk PR 169 (fn2 c6.agg c6.agg kWB raddW) :=
 .inl ⟨entersB (by kernel_rfl), pure2 radd_ctx (fun a b => leafVal (B := kWB) (y := raddW a b) (radd_run a b))⟩
def rsC (x y c : BitVec 64) : BitVec 64 := bif (bif BitVec.ult (x - y) c then true else BitVec.ult x y) then bitW true else bitW false
def rsubW (a b : W6) : W6 × Bool :=
 let c1 := rsC a.w0 b.w0 (bitW false)
 let c2 := rsC a.w1 b.w1 c1
 let c3 := rsC a.w2 b.w2 c2
 let c4 := rsC a.w3 b.w3 c3
 let c5 := rsC a.w4 b.w4 c4
 let c6 := rsC a.w5 b.w5 c5
 (⟨a.w0 - b.w0 - bitW false, a.w1 - b.w1 - c1, a.w2 - b.w2 - c2, a.w3 - b.w3 - c3, a.w4 - b.w4 - c4, a.w5 - b.w5 - c5⟩, c6 == bitW true)
theorem rsub_ctx : Ctx PR raE [] (fun _ => none) 40 149 :=
 ctxB raE_ok mixed (by kernel_rfl)
set_option maxRecDepth 100000 in
theorem rsub_run (a b : W6) : (afunR PR raE [] (fun _ => none) 40 149 [c6.agg.enc a, c6.agg.enc b]).strict = .leaf (kWB.enc (rsubW a b)) := by kernel_rfl
theorem rsub_ok : CallOk PR 149 (fn2 c6.agg c6.agg kWB rsubW) :=
 .inl ⟨entersB (by kernel_rfl), pure2 rsub_ctx (fun a b => leafVal (B := kWB) (y := rsubW a b) (rsub_run a b))⟩
def cFa : CC (W6 × BitVec 64 × W6) := CC.prod c6 (CC.prod cU c6)
def c8 : CC (W6 × BitVec 64 × BitVec 64) := CC.prod c6 (CC.prod cU cU)
def rowG (M : BitVec 64 -> BitVec 64 -> BitVec 64 × BitVec 64) (S : BitVec 64 -> BitVec 64 -> Bool -> BitVec 64 × Bool) (t : W6 × BitVec 64 × BitVec 64) (a : BitVec 64) (b : W6) : W6 × BitVec 64 × BitVec 64 :=
 let mc := fun (y u c : BitVec 64) => let p := M a y; let s := S p.2 u false; let h := p.1 + bitW s.2; let r := S s.1 c false; ((r.1, h + bitW r.2) : BitVec 64 × BitVec 64)
 let r0 := mc b.w0 t.1.w0 (bitW false)
 let r1 := mc b.w1 t.1.w1 r0.2
 let r2 := mc b.w2 t.1.w2 r1.2
 let r3 := mc b.w3 t.1.w3 r2.2
 let r4 := mc b.w4 t.1.w4 r3.2
 let r5 := mc b.w5 t.1.w5 r4.2
 let s := S t.2.1 r5.2 false
 (⟨r0.1, r1.1, r2.1, r3.1, r4.1, r5.1⟩, s.1, t.2.2 + bitW s.2)
def rowT (M : BitVec 64 -> BitVec 64 -> BitVec 64 × BitVec 64) (S : BitVec 64 -> BitVec 64 -> Bool -> BitVec 64 × Bool) : PureTab := [(172, fn2 kU kU kUU M), (175, fn3 kU kU kBit kUB S)]
noncomputable def rowE (M : BitVec 64 -> BitVec 64 -> BitVec 64 × BitVec 64) (S : BitVec 64 -> BitVec 64 -> Bool -> BitVec 64 × Bool) : Env := envH eqsT (rowT M S) []
set_option maxRecDepth 100000 in
theorem row_run (M : BitVec 64 -> BitVec 64 -> BitVec 64 × BitVec 64) (S : BitVec 64 -> BitVec 64 -> Bool -> BitVec 64 × Bool) (f : W6 × BitVec 64 × W6) (t : W6 × BitVec 64 × BitVec 64) (a : BitVec 64) (b : W6) :
 (afunW PR (rowE M S) [] 10 195 223 [cFa.agg.enc f, .ptr 0 0, kU.enc a, c6.agg.enc b] (c8.enc t)).strict = .leaf (.tup [.tup [], .agg (c8.enc (rowG M S t a b))]) := by kernel_rfl
def rowW : W6 × BitVec 64 × BitVec 64 -> BitVec 64 -> W6 -> W6 × BitVec 64 × BitVec 64 := rowG mul64 add64
theorem row_ent : Enters PR 195 := entersB (by kernel_rfl)
theorem row_ok : HeapOk PR 195 (wr4 223 cFa.agg c8 kU c6.agg (fun _ => rowW)) :=
 wr4_ok (E := rowE mul64 add64) (envH_ok eqsT_ok (TabPOk.cons mul64_ok (TabPOk.cons add64_ok TabPOk.nil)) TabHOk.nil) mixed (sym := []) (lf := 10) (fn := Tryz.f195) (c := bodyOf PR 195) (by kernel_rfl) (by kernel_rfl) (by kernel_rfl)
  (fun f t a b => row_run mul64 add64 f t a b)
abbrev W8 : Type := W6 × BitVec 64 × BitVec 64
abbrev Fa : Type := W6 × BitVec 64 × W6
def mtRound (R : W8 -> BitVec 64 -> W6 -> W8) (f : Fa) (b : W6) (x : BitVec 64) (t : W8) : W8 :=
 let u := R t x b
 let v := R u (u.1.w0 * f.2.1) f.1
 (⟨v.1.w1, v.1.w2, v.1.w3, v.1.w4, v.1.w5, v.2.1⟩, v.2.2, bitW false)
def zero8 : W8 := (⟨0#64, 0#64, 0#64, 0#64, 0#64, 0#64⟩, 0#64, 0#64)
def mtRaw (R : W8 -> BitVec 64 -> W6 -> W8) (f : Fa) (a b : W6) : W8 :=
 mtRound R f b a.w5 (mtRound R f b a.w4 (mtRound R f b a.w3 (mtRound R f b a.w2 (mtRound R f b a.w1 (mtRound R f b a.w0 zero8)))))
def mtT (cm : W6 -> W6 -> Int) (sb : W6 -> W6 -> W6 × Bool) : PureTab := [(47, fn2 c6.agg c6.agg (kInt .i64) cm), (149, fn2 c6.agg c6.agg kWB sb)]
noncomputable def mtE (R : W8 -> BitVec 64 -> W6 -> W8) (cm : W6 -> W6 -> Int) (sb : W6 -> W6 -> W6 × Bool) : Env := envH eqsT (mtT cm sb) [(195, wr4 223 cFa.agg c8 kU c6.agg (fun _ => R))]
set_option maxRecDepth 1000000 in
theorem mont_run (R : W8 -> BitVec 64 -> W6 -> W8) (cm : W6 -> W6 -> Int) (sb : W6 -> W6 -> W6 × Bool) (f : Fa) (a b : W6) :
 (afunR PR (mtE R cm sb) [54, 60] (fun _ => none) 20 147 [cFa.agg.enc f, c6.agg.enc a, c6.agg.enc b]).strict =
 .br ((mtRaw R f a b).2.1 != bitW false) (.leaf (c6.agg.enc (sb (mtRaw R f a b).1 f.1).1)) (.br (decide (cm (mtRaw R f a b).1 f.1 >= 0)) (.leaf (c6.agg.enc (sb (mtRaw R f a b).1 f.1).1)) (.leaf (c6.agg.enc (mtRaw R f a b).1))) := by kernel_rfl
def cmW (a b : W6) : Int := chainV (cmpL a b) 0
def montW (f : Fa) (a b : W6) : W6 := bif (mtRaw rowW f a b).2.1 != bitW false then (rsubW (mtRaw rowW f a b).1 f.1).1 else bif decide (cmW (mtRaw rowW f a b).1 f.1 >= 0) then (rsubW (mtRaw rowW f a b).1 f.1).1 else (mtRaw rowW f a b).1
theorem mtE_ok : EnvOk PR (mtE rowW cmW rsubW) := envH_ok eqsT_ok (TabPOk.cons rcmp_ok (TabPOk.cons rsub_ok TabPOk.nil)) (TabHOk.cons row_ent row_ok TabHOk.nil)
theorem mont_ctx : Ctx PR (mtE rowW cmW rsubW) [54, 60] (fun _ => none) 20 147 :=
 ctxB mtE_ok mixed (by kernel_rfl)
theorem mont_ok : CallOk PR 147 (fn3 cFa.agg c6.agg c6.agg c6.agg montW) :=
 .inl ⟨entersB (by kernel_rfl), pure3 mont_ctx (fun f a b => givesOf (mont_run rowW cmW rsubW f a b) (holds_br (B := c6.agg) (holds_leaf (c6.agg.h1 _)) (holds_br (B := c6.agg) (holds_leaf (c6.agg.h1 _)) (holds_leaf (c6.agg.h1 _)))))⟩
def fastP : Fa := (primeW, 9940570264628428797#64, wideW)
theorem rbase_ctx : Ctx PR (envOf eqsT []) [] (fun _ => none) 10 168 :=
 ctxB (envOf_ok eqsT_ok TabPOk.nil) mixed (by kernel_rfl)
theorem rbase_run : (afunR PR (envOf eqsT []) [] (fun _ => none) 10 168 []).strict = .leaf (c6.agg.enc primeW) := by kernel_rfl
theorem rbase_ok : CallOk PR 168 (fn0 c6.agg primeW) :=
 .inl ⟨entersB (by kernel_rfl), pure0 rbase_ctx (leafVal (B := c6.agg) (y := primeW) rbase_run)⟩
theorem rorder_ctx : Ctx PR (envOf eqsT []) [] (fun _ => none) 10 92 :=
 ctxB (envOf_ok eqsT_ok TabPOk.nil) mixed (by kernel_rfl)
theorem rorder_run : (afunR PR (envOf eqsT []) [] (fun _ => none) 10 92 []).strict = .leaf (.agg [.u orderW.w0, .u orderW.w1, .u orderW.w2, .u orderW.w3, .bit false, .bit false]) := by kernel_rfl
theorem rorder_ok : CallOk PR 92 (fn0 c6.agg orderW) :=
 .inl ⟨entersB (by kernel_rfl), pure0 rorder_ctx (givesOf rorder_run (holds_leaf (by kernel_rfl)))⟩
def rpT : PureTab := [(168, fn0 c6.agg primeW)]
theorem rp_ctx : Ctx PR (envOf eqsT rpT) [] (fun _ => none) 10 114 :=
 ctxB (envOf_ok eqsT_ok (TabPOk.cons rbase_ok TabPOk.nil)) mixed (by kernel_rfl)
theorem rp_run : (afunR PR (envOf eqsT rpT) [] (fun _ => none) 10 114 []).strict = .leaf (cFa.agg.enc fastP) := by kernel_rfl
theorem rp_ok : CallOk PR 114 (fn0 cFa.agg fastP) :=
 .inl ⟨entersB (by kernel_rfl), pure0 rp_ctx (leafVal (B := cFa.agg) (y := fastP) rp_run)⟩
def rmG (M : Fa -> W6 -> W6 -> W6) (f : Fa) (a b : W6) : W6 := M f (M f a b) f.2.2
def rmT (M : Fa -> W6 -> W6 -> W6) : PureTab := [(147, fn3 cFa.agg c6.agg c6.agg c6.agg M)]
theorem rmul_run (M : Fa -> W6 -> W6 -> W6) (f : Fa) (a b : W6) : (afunR PR (envOf eqsT (rmT M)) [] (fun _ => none) 10 94 [cFa.agg.enc f, c6.agg.enc a, c6.agg.enc b]).strict = .leaf (c6.agg.enc (rmG M f a b)) := by kernel_rfl
theorem rmul_ctx : Ctx PR (envOf eqsT (rmT montW)) [] (fun _ => none) 10 94 :=
 ctxB (envOf_ok eqsT_ok (TabPOk.cons mont_ok TabPOk.nil)) mixed (by kernel_rfl)
def rmulW : Fa -> W6 -> W6 -> W6 := rmG montW
theorem rmul_ok : CallOk PR 94 (fn3 cFa.agg c6.agg c6.agg c6.agg rmulW) :=
 .inl ⟨entersB (by kernel_rfl), pure3 rmul_ctx (fun f a b => leafVal (B := c6.agg) (y := rmulW f a b) (rmul_run montW f a b))⟩
def rfT (ad : W6 -> W6 -> W6 × Bool) (cm : W6 -> W6 -> Int) (sb : W6 -> W6 -> W6 × Bool) : PureTab := [(169, fn2 c6.agg c6.agg kWB ad), (47, fn2 c6.agg c6.agg (kInt .i64) cm), (149, fn2 c6.agg c6.agg kWB sb)]
theorem rfT_ok : TabPOk PR (rfT raddW cmW rsubW) := TabPOk.cons radd_ok (TabPOk.cons rcmp_ok (TabPOk.cons rsub_ok TabPOk.nil))
def rfadd (f : Fa) (a b : W6) : W6 := bif decide (cmW (raddW a b).1 f.1 >= 0) then (rsubW (raddW a b).1 f.1).1 else (raddW a b).1
theorem rfadd_run (ad : W6 -> W6 -> W6 × Bool) (cm : W6 -> W6 -> Int) (sb : W6 -> W6 -> W6 × Bool) (f : Fa) (a b : W6) : (afunR PR (envOf eqsT (rfT ad cm sb)) [19] (fun _ => none) 10 115 [cFa.agg.enc f, c6.agg.enc a, c6.agg.enc b]).strict =
 .br (decide (cm (ad a b).1 f.1 >= 0)) (.leaf (c6.agg.enc (sb (ad a b).1 f.1).1)) (.leaf (c6.agg.enc (ad a b).1)) := by kernel_rfl
theorem rfadd_ctx : Ctx PR (envOf eqsT (rfT raddW cmW rsubW)) [19] (fun _ => none) 10 115 :=
 ctxB (envOf_ok eqsT_ok rfT_ok) mixed (by kernel_rfl)
theorem rfadd_ok : CallOk PR 115 (fn3 cFa.agg c6.agg c6.agg c6.agg rfadd) :=
 .inl ⟨entersB (by kernel_rfl), pure3 rfadd_ctx (fun f a b => givesOf (rfadd_run raddW cmW rsubW f a b) (holds_br (B := c6.agg) (holds_leaf (c6.agg.h1 _)) (holds_leaf (c6.agg.h1 _))))⟩
def rfneg (f : Fa) (a : W6) : W6 := bif eqW a zeroW then a else (rsubW f.1 a).1
theorem rfneg_run (ad : W6 -> W6 -> W6 × Bool) (cm : W6 -> W6 -> Int) (sb : W6 -> W6 -> W6 × Bool) (f : Fa) (a : W6) : (afunR PR (envOf eqsT (rfT ad cm sb)) [9] (fun _ => none) 10 143 [cFa.agg.enc f, c6.agg.enc a]).strict =
 .br (eqW a zeroW) (.leaf (c6.agg.enc a)) (.leaf (c6.agg.enc (sb f.1 a).1)) := by kernel_rfl
theorem rfneg_ctx : Ctx PR (envOf eqsT (rfT raddW cmW rsubW)) [9] (fun _ => none) 10 143 :=
 ctxB (envOf_ok eqsT_ok rfT_ok) mixed (by kernel_rfl)
theorem rfneg_ok : CallOk PR 143 (fn2 cFa.agg c6.agg c6.agg rfneg) :=
 .inl ⟨entersB (by kernel_rfl), pure2 rfneg_ctx (fun f a => givesOf (rfneg_run raddW cmW rsubW f a) (holds_br (B := c6.agg) (holds_leaf (c6.agg.h1 _)) (holds_leaf (c6.agg.h1 _))))⟩
def rfsub (f : Fa) (a b : W6) : W6 := rfadd f a (rfneg f b)
def rsT (A : Fa -> W6 -> W6 -> W6) (N : Fa -> W6 -> W6) : PureTab := [(115, fn3 cFa.agg c6.agg c6.agg c6.agg A), (143, fn2 cFa.agg c6.agg c6.agg N)]
theorem rfsub_run (A : Fa -> W6 -> W6 -> W6) (N : Fa -> W6 -> W6) (f : Fa) (a b : W6) : (afunR PR (envOf eqsT (rsT A N)) [] (fun _ => none) 10 116 [cFa.agg.enc f, c6.agg.enc a, c6.agg.enc b]).strict = .leaf (c6.agg.enc (A f a (N f b))) := by kernel_rfl
theorem rfsub_ctx : Ctx PR (envOf eqsT (rsT rfadd rfneg)) [] (fun _ => none) 10 116 :=
 ctxB (envOf_ok eqsT_ok (TabPOk.cons rfadd_ok (TabPOk.cons rfneg_ok TabPOk.nil))) mixed (by kernel_rfl)
theorem rfsub_ok : CallOk PR 116 (fn3 cFa.agg c6.agg c6.agg c6.agg rfsub) :=
 .inl ⟨entersB (by kernel_rfl), pure3 rfsub_ctx (fun f a b => leafVal (B := c6.agg) (y := rfsub f a b) (rfsub_run rfadd rfneg f a b))⟩
def rbitTree (a : W6) (i : Int) : Tree AV :=
 .br (decide (i < 0)) (.need true (.leaf (.v (.int .i64 0)))) (.br (decide (i > 383)) (.need true (.leaf (.v (.int .i64 0))))
  (.need (powCond i) (.leaf (.v (.int .i64 (IntKind.i64.wrap (Int.ofNat ((a.get (0 + (quo64 i).toNat * 1) >>> Nat.min (Int.tmod i 64).toNat 64) &&& bitW true).toNat)))))))
set_option maxRecDepth 100000 in
theorem rbit_run (a : W6) (i : Int) : Tree.but [2] 0 (afunR PR (envW eqsT []) [7, 10] (fun _ => none) 40 196 [c6.agg.enc a, (kInt .i64).enc i]) = rbitTree a i := by kernel_rfl
theorem rbit_gives (a : W6) (i : Int) : Gives (afunR PR (envW eqsT []) [7, 10] (fun _ => none) 40 196 [c6.agg.enc a, (kInt .i64).enc i]) ((kInt .i64).val (bitI a i)) := by
 refine ⟨Tree.holds_but (l := [2]) (i := 0) ?_⟩
 rw [rbit_run]
 unfold rbitTree bitI
 refine ⟨fun h1 => by rw [h1]; exact ⟨rfl, rfl⟩, fun h1 => ⟨fun h2 => ?_, fun h2 => ?_⟩⟩
 . rw [h1, show decide (i >= 384) = true from decide_eq_true (by have := of_decide_eq_true h2; omega)]; exact ⟨rfl, rfl⟩
 have h1' : ¬ i < 0 := of_decide_eq_false h1
 have h2' : ¬ i > 383 := of_decide_eq_false h2
 rw [h1, show decide (i >= 384) = false from decide_eq_false (by omega)]
 have hq := quo64_eq (z := i) (by omega) (by omega)
 have hm : Int.tmod i 64 = i % 64 := Int.tmod_eq_emod_of_nonneg (by omega)
 have e1 : 0 + (quo64 i).toNat * 1 = i.toNat / 64 := by rw [hq]; omega
 have e2 : Nat.min (Int.tmod i 64).toNat 64 = i.toNat % 64 := by rw [hm]; show min _ _ = _; omega
 refine ⟨?_, ?_⟩
 . unfold powCond
   rw [hq, hm]
   simp; omega
 . rw [e1, e2]
   show some (Value.int .i64 _) = some (Value.int .i64 _)
   congr 2
   unfold W6.bit
   generalize a.get (i.toNat / 64) >>> (i.toNat % 64) = y
   have hb : (y &&& 1#64).toNat < 2 := by
    rw [BitVec.toNat_and, show (1#64).toNat = 1 from rfl, Nat.and_one_is_mod]
    omega
   rw [show bitW true = 1#64 from rfl]
   cases hc : (y &&& 1#64) == 1#64 with
   | true =>
    rw [eq_of_beq hc]
    rfl
   | false =>
    have : (y &&& 1#64).toNat = 0 := by
     have hne : (y &&& 1#64) ≠ 1#64 := by simpa using hc
     have : (y &&& 1#64).toNat ≠ 1 := fun h => hne (BitVec.eq_of_toNat_eq (by rw [h]; rfl))
     omega
    rw [this]
    rfl
theorem rbit_ctx : Ctx PR (envW eqsT []) [7, 10] (fun _ => none) 40 196 :=
 ctxB (envW_ok eqsT_ok TabPOk.nil) mixed (by kernel_rfl)
theorem rbit_ok : CallOk PR 196 (fn2 c6.agg (kInt .i64) (kInt .i64) bitI) :=
 .inl ⟨entersB (by kernel_rfl), pure2 rbit_ctx rbit_gives⟩
def rlenL (B : W6 -> Int -> Int) (a : W6) : Nat -> List (Bool × Int)
 | 0 => []
 | k + 1 => (B a (k : Int) == 1, (k : Int) + 1) :: rlenL B a k
def rlenT (B : W6 -> Int -> Int) : PureTab := [(196, fn2 c6.agg (kInt .i64) (kInt .i64) B)]
set_option maxRecDepth 1000000 in
theorem rlen_run (B : W6 -> Int -> Int) (a : W6) : (afunR PR (envOf eqsT (rlenT B)) [11] (fun _ => none) 400 192 [c6.agg.enc a]).strict = chain (kInt .i64) (rlenL B a 384) 0 := by kernel_rfl
def rlenI (a : W6) : Int := chainV (rlenL bitI a 384) 0
theorem rlen_ctx : Ctx PR (envOf eqsT (rlenT bitI)) [11] (fun _ => none) 400 192 :=
 ctxB (envOf_ok eqsT_ok (TabPOk.cons rbit_ok TabPOk.nil)) mixed (by kernel_rfl)
theorem rlen_ok : CallOk PR 192 (fn1 c6.agg (kInt .i64) rlenI) :=
 .inl ⟨entersB (by kernel_rfl), pure1 rlen_ctx (fun a => chainVal (rlen_run bitI a))⟩
structure PO where
 mu : Fa -> W6 -> W6 -> W6
 ln : W6 -> Int
 bt : W6 -> Int -> Int
def numOne : W6 := ⟨bitW true, 0#64, 0#64, 0#64, 0#64, 0#64⟩
def ovP : Option W6 -> W6
 | none => numOne
 | some w => w
def ocP : Option W6 -> List AV
 | none => [.bit true, .u 0#64, .u 0#64, .u 0#64, .u 0#64, .u 0#64]
 | some w => c6.enc w
def rpoT (t : PO) : PureTab := [(94, fn3 cFa.agg c6.agg c6.agg c6.agg t.mu), (192, fn1 c6.agg (kInt .i64) t.ln), (196, fn2 c6.agg (kInt .i64) (kInt .i64) t.bt)]
noncomputable def rpoE (t : PO) : Env := envOf eqsT (rpoT t)
def rpoK : Keep := ⟨[3, 4, 5, 6, 7, 8], [0, 1, 2, 3, 5], 11⟩
@[irreducible] noncomputable def rpoX (t : PO) (f : Fa) (a e : W6) : XS := entryOf PR (rpoE t) [14, 24] (fun _ => none) 10 150 [cFa.agg.enc f, c6.agg.enc a, c6.agg.enc e] [] 0 0 rpoK
@[irreducible] noncomputable def rpoI (t : PO) (f : Fa) (a e : W6) (d : Int × Option W6) : XS := ((rpoX t f a e).setT 8 (.v (.int .i64 d.1))).setB 5 (ocP d.2)
@[irreducible] noncomputable def rpoC : Code := roundOf PR 150 0
def rpoR (t : PO) (f : Fa) (a e : W6) (I : Int × Option W6 -> XS) (z : Int) (o : Option W6) : Tree (AExit × XS) :=
 .br (decide (z >= 0))
  (.br (t.bt e z == 1)
   (.leaf (.normal, I (IntKind.i64.wrap (z - 1), some (t.mu f (t.mu f (ovP o) (ovP o)) a))))
   (.leaf (.normal, I (IntKind.i64.wrap (z - 1), some (t.mu f (ovP o) (ovP o))))))
  (.leaf (.exit 0, I (z, o)))
set_option maxRecDepth 100000 in
theorem rpo_round0 (t : PO) (f : Fa) (a e : W6) (z : Int) : (roundT PR (rpoE t) [14, 24] (fun _ => none) 10 rpoK rpoK rpoK rpoC (rpoI t f a e (z, none))).strict = rpoR t f a e (rpoI t f a e) z none := by kernel_rfl
set_option maxRecDepth 100000 in
theorem rpo_round1 (t : PO) (f : Fa) (a e : W6) (z : Int) (w : W6) : (roundT PR (rpoE t) [14, 24] (fun _ => none) 10 rpoK rpoK rpoK rpoC (rpoI t f a e (z, some w))).strict = rpoR t f a e (rpoI t f a e) z (some w) := by kernel_rfl
theorem rpo_round (t : PO) (f : Fa) (a e : W6) (z : Int) (o : Option W6) : (roundT PR (rpoE t) [14, 24] (fun _ => none) 10 rpoK rpoK rpoK rpoC (rpoI t f a e (z, o))).strict = rpoR t f a e (rpoI t f a e) z o := by
 cases o with
 | none => exact rpo_round0 t f a e z
 | some w => exact rpo_round1 t f a e z w
def powR (t : PO) (f : Fa) (a e : W6) : Nat -> Option W6 -> Option W6
 | 0, o => o
 | k + 1, o => powR t f a e k (some (bif t.bt e (k : Int) == 1 then t.mu f (t.mu f (ovP o) (ovP o)) a else t.mu f (ovP o) (ovP o)))
theorem rpo_law (t : PO) (f : Fa) (a e : W6) (rt : XS -> Tree (AExit × XS)) (I : Int × Option W6 -> XS) (hr : ∀ (z : Int) (o : Option W6), (rt (I (z, o))).strict = rpoR t f a e I z o)
 {R : Option W6} {Q : AExit -> XS -> Prop} (hK : Q .normal (I (-1, R))) :
 ∀ d : Int × Option W6, (-1 <= d.1 /\ d.1 <= 383 /\ powR t f a e (d.1 + 1).toNat d.2 = R) -> (rt (I d)).holds (fun r => match r.1 with
  | .normal => ∃ j : Int × Option W6, (-1 <= j.1 /\ j.1 <= 383 /\ powR t f a e (j.1 + 1).toNat j.2 = R) /\ (j.1 + 1).toNat < (d.1 + 1).toNat /\ r.2 = I j
  | .exit q => if q = 0 then Q .normal r.2 else Q (.exit q) r.2
  | .ret => Q .ret r.2) := by
 rintro ⟨z, o⟩ ⟨h0, h1, h2⟩
 apply Tree.holds_strict
 rw [hr]
 unfold rpoR
 refine ⟨fun hz => ?_, fun hz => ?_⟩
 . have hz : 0 <= z := by simpa using hz
   have hw : IntKind.i64.wrap (z - 1) = z - 1 := wrap_id (by omega) (by omega)
   have hk : (z + 1).toNat = z.toNat + 1 := by omega
   simp only at h2
   rw [hk] at h2
   simp only [powR] at h2
   rw [show ((z.toNat : Nat) : Int) = z by omega] at h2
   have hk' : (z - 1 + 1).toNat = z.toNat := by omega
   refine ⟨fun hb => ⟨⟨z - 1, some (t.mu f (t.mu f (ovP o) (ovP o)) a)⟩, ⟨by simp only; omega, by simp only; omega, ?_⟩, ?_, ?_⟩, fun hb => ⟨⟨z - 1, some (t.mu f (ovP o) (ovP o))⟩, ⟨by simp only; omega, by simp only; omega, ?_⟩, ?_, ?_⟩⟩
   . rw [hb] at h2
     simp only [hk']
     exact h2
   . show (z - 1 + 1).toNat < (z + 1).toNat
     omega
   . rw [hw]
   . rw [hb] at h2
     simp only [hk']
     exact h2
   . show (z - 1 + 1).toNat < (z + 1).toNat
     omega
   . rw [hw]
 . have hz : z = -1 := by
    have : ¬ 0 <= z := by simpa using hz
    omega
   subst hz
   have h2 : o = R := h2
   show (if (0 : Nat) = 0 then Q .normal (I (-1, o)) else Q (.exit 0) (I (-1, o)))
   rw [if_pos rfl, h2]
   exact hK
theorem rlenL_le (B : W6 -> Int -> Int) (a : W6) : ∀ (k : Nat), k <= 384 -> ∀ c x, (c, x) ∈ rlenL B a k -> 0 <= x /\ x <= 384
 | 0, _, c, x, h => by simp [rlenL] at h
 | k + 1, hk, c, x, h => by
  simp only [rlenL, List.mem_cons, Prod.mk.injEq] at h
  rcases h with ⟨-, rfl⟩ | h
  . omega
  . exact rlenL_le B a k (by omega) c x h
theorem rlenI_le (a : W6) : 0 <= rlenI a /\ rlenI a <= 384 := chainV_mem (Q := fun x => 0 <= x /\ x <= 384) (rlenL_le bitI a 384 (Nat.le_refl _)) (by omega)
@[irreducible] noncomputable def rpoB (t : PO) (f : Fa) (a e : W6) (r : Option W6) : BEnt := ⟨rpoK.tm, rpoK.ids, rpoK.n, rpoX t f a e, .leaf (.normal, rpoI t f a e (-1, r))⟩
set_option maxRecDepth 100000 in
theorem rpo_run (t : PO) (f : Fa) (a e : W6) (r : W6) : (afunR PR (rpoE t) [14, 24] (tabOf [(0, rpoB t f a e (some r))]) 10 150 [cFa.agg.enc f, c6.agg.enc a, c6.agg.enc e]).strict =
 .same (rpoX t f a e) (rpoX t f a e) (.leaf (c6.agg.enc r)) := by kernel_rfl
set_option maxRecDepth 100000 in
theorem rpo_run0 (t : PO) (f : Fa) (a e : W6) : (afunR PR (rpoE t) [14, 24] (tabOf [(0, rpoB t f a e none)]) 10 150 [cFa.agg.enc f, c6.agg.enc a, c6.agg.enc e]).strict =
 .same (rpoX t f a e) (rpoX t f a e) (.leaf (.agg (ocP none))) := by kernel_rfl
set_option maxRecDepth 100000 in
theorem rpo_head (t : PO) (f : Fa) (a e : W6) : rpoX t f a e = rpoI t f a e (IntKind.i64.wrap (t.ln e - 1), none) := by kernel_rfl
theorem rpo_blk : blkAll 0 (bodyOf PR 150) = [.loop rpoC] := by kernel_rfl
def rpoO : PO := ⟨rmulW, rlenI, bitI⟩
theorem rpoT_eq : [(94, fn3 cFa.agg c6.agg c6.agg c6.agg rmulW), (192, fn1 c6.agg (kInt .i64) rlenI), (196, fn2 c6.agg (kInt .i64) (kInt .i64) bitI)] = rpoT rpoO := by kernel_rfl
theorem rpoT_ok : TabPOk PR (rpoT rpoO) := Eq.subst (motive := TabPOk PR) rpoT_eq (TabPOk.cons rmul_ok (TabPOk.cons rlen_ok (TabPOk.cons rbit_ok TabPOk.nil)))
theorem rpoE_ok : EnvOk PR (rpoE rpoO) := envOf_ok eqsT_ok rpoT_ok
theorem rpo_codeOk : codeOk (rpoE rpoO) rpoC = true := by kernel_rfl
def rpowO (f : Fa) (a e : W6) : Option W6 := powR rpoO f a e (rlenI e).toNat none
def rpowW (f : Fa) (a e : W6) : W6 := ovP (rpowO f a e)
theorem rpo_start (f : Fa) (a e : W6) : ∀ d : Int × Option W6, d = (IntKind.i64.wrap (rpoO.ln e - 1), none) -> -1 <= d.1 /\ d.1 <= 383 /\ powR rpoO f a e (d.1 + 1).toNat d.2 = rpowO f a e := by
 rintro d rfl
 have hl := rlenI_le e
 have hw : IntKind.i64.wrap (rpoO.ln e - 1) = rlenI e - 1 := wrap_id (n := rlenI e - 1) (by omega) (by omega)
 rw [hw]
 refine ⟨?_, ?_, ?_⟩
 . show -1 <= rlenI e - 1
   omega
 . show rlenI e - 1 <= 383
   omega
 . show powR rpoO f a e (rlenI e - 1 + 1).toNat none = powR rpoO f a e (rlenI e).toNat none
   rw [show rlenI e - 1 + 1 = rlenI e by omega]
theorem rpo_loop (f : Fa) (a e : W6) {Fr0 : Fr} {ds : List Deferred} {Q : AExit -> XS -> Prop} (hK : Q .normal (rpoI rpoO f a e (-1, rpowO f a e))) :
 Tri PR Fr0 ds 0 (.block 0 (.loop rpoC)) (rpoX rpoO f a e) Q :=
 Eq.subst (motive := fun y => Tri PR Fr0 ds 0 (.block 0 (.loop rpoC)) y Q) (rpo_head rpoO f a e).symm <| blockLoop (m := 0) rpoE_ok mixed (sym := [14, 24]) (tab := fun _ => none) (lf := 10) (k := rpoK) (kx := rpoK) (kr := rpoK) (Nat.zero_le _) (Nat.zero_le _) (Nat.zero_le _) rpo_codeOk (tabOk_none _)
  (rpoI rpoO f a e) (fun d => -1 <= d.1 /\ d.1 <= 383 /\ powR rpoO f a e (d.1 + 1).toNat d.2 = rpowO f a e) (fun d => (d.1 + 1).toNat) _ (rpo_start f a e _ rfl)
  (rpo_law rpoO f a e _ (rpoI rpoO f a e) (rpo_round rpoO f a e) hK)
theorem rpoB_n (t : PO) (f : Fa) (a e : W6) (r : Option W6) : (rpoB t f a e r).n = 11 /\ (rpoB t f a e r).pre = rpoX t f a e /\ (rpoB t f a e r).post = .leaf (.normal, rpoI t f a e (-1, r)) := by
 unfold rpoB
 exact ⟨rfl, rfl, rfl⟩
theorem rpo_ctx (f : Fa) (a e : W6) : Ctx PR (rpoE rpoO) [14, 24] (tabOf [(0, rpoB rpoO f a e (rpowO f a e))]) 10 150 :=
 ctx_of rpoE_ok mixed (fn := Tryz.f150) (by kernel_rfl) (by kernel_rfl) (by kernel_rfl)
  (tabOk_one (Nat.zero_le _) rpo_blk fun Fr0 ds Q h => by
   obtain ⟨-, h2, h3⟩ := rpoB_n rpoO f a e (rpowO f a e)
   rw [h3] at h
   rw [h2]
   exact rpo_loop f a e h)
theorem sameOf {P : Program} {E : Env} {sym : List Tmp} {tab : BTab} {lf f : Nat} {ys : List AV} {x : XS} {a : AV} {v : Value} (h : (afunR P E sym tab lf f ys).strict = .same x x (.leaf a)) (hv : flat a = some v) : Gives (afunR P E sym tab lf f ys) v :=
 ⟨Tree.holds_strict (by rw [h]; exact ⟨rfl, hv⟩)⟩
theorem rpow_gives (f : Fa) (a e : W6) (o : Option W6) : Gives (afunR PR (rpoE rpoO) [14, 24] (tabOf [(0, rpoB rpoO f a e o)]) 10 150 [cFa.agg.enc f, c6.agg.enc a, c6.agg.enc e]) (c6.agg.val (ovP o)) := by
 cases o with
 | none => exact sameOf (rpo_run0 rpoO f a e) (by kernel_rfl)
 | some w => exact sameOf (rpo_run rpoO f a e w) (c6.agg.h1 w)
theorem rpow_ok : CallOk PR 150 (fn3 cFa.agg c6.agg c6.agg c6.agg rpowW) :=
 .inl ⟨entersB (by kernel_rfl),
  pure3X fun f a e => .of (rpo_ctx f a e) (rpow_gives f a e (rpowO f a e))⟩
def numTwo : W6 := ⟨2#64, 0#64, 0#64, 0#64, 0#64, 0#64⟩
def rinT (p : Fa -> W6 -> W6 -> W6) (sb : W6 -> W6 -> W6 × Bool) : PureTab := [(150, fn3 cFa.agg c6.agg c6.agg c6.agg p), (149, fn2 c6.agg c6.agg kWB sb)]
theorem rinv_run (p : Fa -> W6 -> W6 -> W6) (sb : W6 -> W6 -> W6 × Bool) (f : Fa) (a : W6) : (afunR PR (envOf eqsT (rinT p sb)) [] (fun _ => none) 10 98 [cFa.agg.enc f, c6.agg.enc a]).strict = .leaf (c6.agg.enc (p f a (sb f.1 numTwo).1)) := by kernel_rfl
def rinvW (f : Fa) (a : W6) : W6 := rpowW f a (rsubW f.1 numTwo).1
theorem rinv_ctx : Ctx PR (envOf eqsT (rinT rpowW rsubW)) [] (fun _ => none) 10 98 :=
 ctxB (envOf_ok eqsT_ok (TabPOk.cons rpow_ok (TabPOk.cons rsub_ok TabPOk.nil))) mixed (by kernel_rfl)
theorem rfinv_ok : CallOk PR 98 (fn2 cFa.agg c6.agg c6.agg rinvW) :=
 .inl ⟨entersB (by kernel_rfl), pure2 rinv_ctx (fun f a => leafVal (B := c6.agg) (y := rinvW f a) (rinv_run rpowW rsubW f a))⟩
theorem rbelow_run (c : W6 -> W6 -> Int) (n a : W6) : (afunR PR (envOf eqsT [(47, fn2 c6.agg c6.agg (kInt .i64) c), (168, fn0 c6.agg n)]) [] (fun _ => none) 40 187 [c6.agg.enc a]).strict = .leaf (kBool.enc (decide (c a n < 0))) := by kernel_rfl
theorem rbelow_ctx : Ctx PR (envOf eqsT [(47, fn2 c6.agg c6.agg (kInt .i64) fun a b => chainV (cmpL a b) 0), (168, fn0 c6.agg primeW)]) [] (fun _ => none) 40 187 :=
 ctxB (envOf_ok eqsT_ok (TabPOk.cons rcmp_ok (TabPOk.cons rbase_ok TabPOk.nil))) mixed (by kernel_rfl)
theorem rbelow_ok : CallOk PR 187 (fn1 c6.agg kBool belowI) :=
 .inl ⟨entersB (by kernel_rfl), pure1 rbelow_ctx (fun a => leafVal (B := kBool) (y := belowI a) (rbelow_run (fun a b => chainV (cmpL a b) 0) primeW a))⟩
structure RO where
 fp : Fa
 mu : Fa -> W6 -> W6 -> W6
 ad : Fa -> W6 -> W6 -> W6
 sb : Fa -> W6 -> W6 -> W6
 ne : Fa -> W6 -> W6
 iv : Fa -> W6 -> W6
def roT (t : RO) : PureTab := [(114, fn0 cFa.agg t.fp), (94, fn3 cFa.agg c6.agg c6.agg c6.agg t.mu), (115, fn3 cFa.agg c6.agg c6.agg c6.agg t.ad),
 (116, fn3 cFa.agg c6.agg c6.agg c6.agg t.sb), (143, fn2 cFa.agg c6.agg c6.agg t.ne), (98, fn2 cFa.agg c6.agg c6.agg t.iv)]
def roO : RO := ⟨fastP, rmulW, rfadd, rfsub, rfneg, rinvW⟩
theorem roT_eq : [(114, fn0 cFa.agg fastP), (94, fn3 cFa.agg c6.agg c6.agg c6.agg rmulW), (115, fn3 cFa.agg c6.agg c6.agg c6.agg rfadd),
 (116, fn3 cFa.agg c6.agg c6.agg c6.agg rfsub), (143, fn2 cFa.agg c6.agg c6.agg rfneg), (98, fn2 cFa.agg c6.agg c6.agg rinvW)] = roT roO := by kernel_rfl
theorem roT_ok : TabPOk PR (roT roO) := Eq.subst (motive := TabPOk PR) roT_eq (TabPOk.cons rp_ok (TabPOk.cons rmul_ok (TabPOk.cons rfadd_ok (TabPOk.cons rfsub_ok (TabPOk.cons rfneg_ok (TabPOk.cons rfinv_ok TabPOk.nil))))))
def rsideG (t : RO) (x : W6) : W6 := t.ad t.fp (t.mu t.fp (t.mu t.fp x x) x) (ofW 4#64)
theorem rside_run (t : RO) (x : W6) : (afunR PR (envOf eqsT (roT t)) [] (fun _ => none) 40 188 [c6.agg.enc x]).strict = .leaf (c6.agg.enc (rsideG t x)) := by kernel_rfl
theorem rside_ctx : Ctx PR (envOf eqsT (roT roO)) [] (fun _ => none) 40 188 :=
 ctxB (envOf_ok eqsT_ok roT_ok) mixed (by kernel_rfl)
theorem rside_ok : CallOk PR 188 (fn1 c6.agg c6.agg (rsideG roO)) :=
 .inl ⟨entersB (by kernel_rfl), pure1 rside_ctx (fun a => leafVal (B := c6.agg) (y := rsideG roO a) (rside_run roO a))⟩
def rckT (t : RO) (bl : W6 -> Bool) (sd : W6 -> W6) : PureTab := (187, fn1 c6.agg kBool bl) :: (188, fn1 c6.agg c6.agg sd) :: roT t
theorem rck_run (t : RO) (bl : W6 -> Bool) (sd : W6 -> W6) (p : Ap W6) : (afunR PR (envOf eqsT (rckT t bl sd)) [4, 9, 18, 23] (fun _ => none) 40 138 [aW.agg.enc p]).strict =
 .br p.zero (.br (eqW p.x zeroW) (.leaf (kBool.enc (eqW p.y zeroW))) (.leaf (.lit false)))
  (.br (bl p.x) (.br (bl p.y) (.leaf (kBool.enc (eqW (t.mu t.fp p.y p.y) (sd p.x)))) (.leaf (.lit false))) (.leaf (.lit false))) := by kernel_rfl
def rcheckG (t : RO) (bl : W6 -> Bool) (sd : W6 -> W6) (p : Ap W6) : Bool := bif p.zero then (bif eqW p.x zeroW then eqW p.y zeroW else false) else bif bl p.x then (bif bl p.y then eqW (t.mu t.fp p.y p.y) (sd p.x) else false) else false
theorem rck_gives (t : RO) (bl : W6 -> Bool) (sd : W6 -> W6) (p : Ap W6) : Gives (afunR PR (envOf eqsT (rckT t bl sd)) [4, 9, 18, 23] (fun _ => none) 40 138 [aW.agg.enc p]) (kBool.val (rcheckG t bl sd p)) :=
 givesOf (rck_run t bl sd p)
  (holds_br (B := kBool) (holds_br (B := kBool) (holds_leaf (kBool.h1 _)) (holds_leaf (a := .lit false) (v := kBool.val false) rfl)) (holds_br (B := kBool) (holds_br (B := kBool) (holds_leaf (kBool.h1 _)) (holds_leaf (a := .lit false) (v := kBool.val false) rfl)) (holds_leaf (a := .lit false) (v := kBool.val false) rfl)))
def rcheck1 : Ap W6 -> Bool := rcheckG roO belowI (rsideG roO)
theorem rck_ctx : Ctx PR (envOf eqsT (rckT roO belowI (rsideG roO))) [4, 9, 18, 23] (fun _ => none) 40 138 :=
 ctxB (envOf_ok eqsT_ok (TabPOk.cons rbelow_ok (TabPOk.cons rside_ok roT_ok))) mixed (by kernel_rfl)
theorem rck_ok : CallOk PR 138 (fn1 aW.agg kBool rcheck1) :=
 .inl ⟨entersB (by kernel_rfl), pure1 rck_ctx (fun p => rck_gives roO belowI (rsideG roO) p)⟩
def rneg1G (t : RO) (p : Ap W6) : Ap W6 := ⟨p.x, t.ne t.fp p.y, p.zero⟩
theorem rneg1_run (t : RO) (p : Ap W6) : (afunR PR (envOf eqsT (roT t)) [] (fun _ => none) 40 90 [aW.agg.enc p]).strict = .leaf (aW.agg.enc (rneg1G t p)) := by kernel_rfl
theorem rneg1_ctx : Ctx PR (envOf eqsT (roT roO)) [] (fun _ => none) 40 90 :=
 ctxB (envOf_ok eqsT_ok roT_ok) mixed (by kernel_rfl)
theorem rneg1_ok : CallOk PR 90 (fn1 aW.agg aW.agg (rneg1G roO)) :=
 .inl ⟨entersB (by kernel_rfl), pure1 rneg1_ctx (fun p => leafVal (B := aW.agg) (y := rneg1G roO p) (rneg1_run roO p))⟩
def eqP13 (a b : Ap W6) : Bool := (a.x.w0 == b.x.w0) && ((a.x.w1 == b.x.w1) && ((a.x.w2 == b.x.w2) && ((a.x.w3 == b.x.w3) && ((a.x.w4 == b.x.w4) && ((a.x.w5 == b.x.w5) &&
 ((a.y.w0 == b.y.w0) && ((a.y.w1 == b.y.w1) && ((a.y.w2 == b.y.w2) && ((a.y.w3 == b.y.w3) && ((a.y.w4 == b.y.w4) && ((a.y.w5 == b.y.w5) && ((a.zero == b.zero) && true))))))))))))
def rslope1 (t : RO) (a : Ap W6) : W6 := t.mu t.fp (t.ad t.fp (t.ad t.fp (t.mu t.fp a.x a.x) (t.mu t.fp a.x a.x)) (t.mu t.fp a.x a.x)) (t.iv t.fp (t.ad t.fp a.y a.y))
def rslope2 (t : RO) (a b : Ap W6) : W6 := t.mu t.fp (t.sb t.fp b.y a.y) (t.iv t.fp (t.sb t.fp b.x a.x))
def rchord (t : RO) (a b : Ap W6) (m : W6) : Ap W6 :=
 let x := t.sb t.fp (t.sb t.fp (t.mu t.fp m m) a.x) b.x
 ⟨x, t.sb t.fp (t.mu t.fp m (t.sb t.fp a.x x)) a.y, false⟩
def radT (t : RO) (N : Ap W6 -> Ap W6) : PureTab := (90, fn1 aW.agg aW.agg N) :: roT t
def apA (p : Ap W6) (z : Bool) : AV := .agg (c6.enc p.x ++ (c6.enc p.y ++ [.lit z]))
set_option maxRecDepth 100000 in
theorem radd1_run (t : RO) (N : Ap W6 -> Ap W6) (a b : Ap W6) : (afunR PR (envOf eqsT (radT t N)) [11, 14, 19, 23] (fun _ => none) 40 71 [aW.agg.enc a, aW.agg.enc b]).strict =
 .br a.zero (.leaf (aW.agg.enc b)) (.br b.zero (.leaf (aW.agg.enc a)) (.br (eqP13 a (N b)) (.leaf (apA ⟨zeroW, zeroW, true⟩ true))
  (.br (eqP13 a b) (.leaf (apA (rchord t a b (rslope1 t a)) false)) (.leaf (apA (rchord t a b (rslope2 t a b)) false))))) := by kernel_rfl
def radd1G (t : RO) (N : Ap W6 -> Ap W6) (a b : Ap W6) : Ap W6 := bif a.zero then b else bif b.zero then a else bif eqP13 a (N b) then ⟨zeroW, zeroW, true⟩ else bif eqP13 a b then rchord t a b (rslope1 t a) else rchord t a b (rslope2 t a b)
theorem apA_flat (p : Ap W6) (z : Bool) (h : p.zero = z) : flat (apA p z) = some (aW.agg.val p) := by
 obtain ⟨x, y, w⟩ := p
 simp at h; subst h
 exact apFlatW x y w
theorem radd1_gives (t : RO) (N : Ap W6 -> Ap W6) (a b : Ap W6) : Gives (afunR PR (envOf eqsT (radT t N)) [11, 14, 19, 23] (fun _ => none) 40 71 [aW.agg.enc a, aW.agg.enc b]) (aW.agg.val (radd1G t N a b)) :=
 givesOf (radd1_run t N a b) (holds_br (B := aW.agg) (holds_leaf (aW.agg.h1 _)) (holds_br (B := aW.agg) (holds_leaf (aW.agg.h1 _)) (holds_br (B := aW.agg) (holds_leaf (apA_flat _ _ rfl)) (holds_br (B := aW.agg) (holds_leaf (apA_flat _ _ rfl)) (holds_leaf (apA_flat _ _ rfl))))))
def radd1 : Ap W6 -> Ap W6 -> Ap W6 := radd1G roO (rneg1G roO)
theorem radd1_ctx : Ctx PR (envOf eqsT (radT roO (rneg1G roO))) [11, 14, 19, 23] (fun _ => none) 40 71 :=
 ctxB (envOf_ok eqsT_ok (TabPOk.cons rneg1_ok roT_ok)) mixed (by kernel_rfl)
theorem radd1_ok : CallOk PR 71 (fn2 aW.agg aW.agg aW.agg radd1) :=
 .inl ⟨entersB (by kernel_rfl), pure2 radd1_ctx (fun a b => radd1_gives roO (rneg1G roO) a b)⟩
theorem raC_eq (x y : BitVec 64) (c : Bool) : raC x y (bitW c) = bitW (add64 x y c).2 := by
 have hx := x.isLt
 have hy := y.isLt
 have hc := b2n_le c
 have e : (bif BitVec.ult (x + y + bitW c) (x + y) then true else BitVec.ult (x + y) x) = (add64 x y c).2 := by
  have e2 : (add64 x y c).2 = decide (18446744073709551616 <= x.toNat + y.toNat + b2n c) := rfl
  have e3 : (x + y + bitW c).toNat = ((x.toNat + y.toNat) % 18446744073709551616 + b2n c) % 18446744073709551616 := by rw [BitVec.toNat_add, BitVec.toNat_add, bitW_nat]
  have e4 : (x + y).toNat = (x.toNat + y.toNat) % 18446744073709551616 := BitVec.toNat_add x y
  rw [e2]
  unfold BitVec.ult
  rw [e3, e4]
  rw [Bool.eq_iff_iff, decide_eq_true_eq]
  by_cases h : ((x.toNat + y.toNat) % 18446744073709551616 + b2n c) % 18446744073709551616 < (x.toNat + y.toNat) % 18446744073709551616
  . rw [decide_eq_true h, cond_true]
    constructor
    . intro _; omega
    . intro _; rfl
  . rw [decide_eq_false h, cond_false, decide_eq_true_eq]
    omega
 unfold raC
 rw [e]
 cases (add64 x y c).2 <;> rfl
theorem rsC_eq (x y : BitVec 64) (c : Bool) : rsC x y (bitW c) = bitW (sub64 x y c).2 := by
 have hx := x.isLt
 have hy := y.isLt
 have hc := b2n_le c
 have e : (bif BitVec.ult (x - y) (bitW c) then true else BitVec.ult x y) = (sub64 x y c).2 := by
  have e2 : (sub64 x y c).2 = decide (x.toNat < y.toNat + b2n c) := rfl
  have e4 : (x - y).toNat = (18446744073709551616 - y.toNat + x.toNat) % 18446744073709551616 := BitVec.toNat_sub x y
  rw [e2]
  unfold BitVec.ult
  rw [e4, bitW_nat]
  rw [Bool.eq_iff_iff, decide_eq_true_eq]
  by_cases h : (18446744073709551616 - y.toNat + x.toNat) % 18446744073709551616 < b2n c
  . rw [decide_eq_true h, cond_true]
    constructor
    . intro _; omega
    . intro _; rfl
  . rw [decide_eq_false h, cond_false, decide_eq_true_eq]
    omega
 unfold rsC
 rw [e]
 cases (sub64 x y c).2 <;> rfl
theorem bitW_beq (c : Bool) : (bitW c == bitW true) = c := by cases c <;> rfl
theorem raddW_eq (a b : W6) : raddW a b = adds a b := by
 simp only [raddW, raC_eq, bitW_beq, adds]
 rfl
theorem rsubW_eq (a b : W6) : rsubW a b = subs a b := by
 simp only [rsubW, rsC_eq, bitW_beq, subs]
 rfl
theorem rowW_eq {t : W8} {a : BitVec 64} {b : W6} {r0 r1 r2 r3 r4 r5 : BitVec 64 × BitVec 64} {s : BitVec 64 × Bool}
 (h0 : mac a b.w0 t.1.w0 (bitW false) = r0) (h1 : mac a b.w1 t.1.w1 r0.2 = r1) (h2 : mac a b.w2 t.1.w2 r1.2 = r2) (h3 : mac a b.w3 t.1.w3 r2.2 = r3) (h4 : mac a b.w4 t.1.w4 r3.2 = r4) (h5 : mac a b.w5 t.1.w5 r4.2 = r5)
 (hs : add64 t.2.1 r5.2 false = s) : rowW t a b = (⟨r0.1, r1.1, r2.1, r3.1, r4.1, r5.1⟩, s.1, t.2.2 + bitW s.2) := by
 subst h0 h1 h2 h3 h4 h5 hs
 rfl
theorem row_sum {p0 t0 r0 c0 p1 t1 r1 c1 p2 t2 r2 c2 p3 t3 r3 c3 p4 t4 r4 c4 p5 t5 r5 c5 w s k : Nat} (e0 : r0 + 18446744073709551616 * c0 = p0 + t0) (e1 : r1 + 18446744073709551616 * c1 = p1 + t1 + c0) (e2 : r2 + 18446744073709551616 * c2 = p2 + t2 + c1) (e3 : r3 + 18446744073709551616 * c3 = p3 + t3 + c2) (e4 : r4 + 18446744073709551616 * c4 = p4 + t4 + c3) (e5 : r5 + 18446744073709551616 * c5 = p5 + t5 + c4) (e6 : s + 18446744073709551616 * k = w + c5) :
 (r0 + 18446744073709551616 * r1 + 340282366920938463463374607431768211456 * r2 + 6277101735386680763835789423207666416102355444464034512896 * r3 + 115792089237316195423570985008687907853269984665640564039457584007913129639936 * r4 + 2135987035920910082395021706169552114602704522356652769947041607822219725780640550022962086936576 * r5) + 39402006196394479212279040100143613805079739270465446667948293404245721771497210611414266254884915640806627990306816 * s + 726838724295606890549323807888004534353641360687318060281490199180639288113397923326191050713763565560762521606266177933534601628614656 * k =
 (t0 + 18446744073709551616 * t1 + 340282366920938463463374607431768211456 * t2 + 6277101735386680763835789423207666416102355444464034512896 * t3 + 115792089237316195423570985008687907853269984665640564039457584007913129639936 * t4 + 2135987035920910082395021706169552114602704522356652769947041607822219725780640550022962086936576 * t5) + 39402006196394479212279040100143613805079739270465446667948293404245721771497210611414266254884915640806627990306816 * w +
 (p0 + 18446744073709551616 * p1 + 340282366920938463463374607431768211456 * p2 + 6277101735386680763835789423207666416102355444464034512896 * p3 + 115792089237316195423570985008687907853269984665640564039457584007913129639936 * p4 + 2135987035920910082395021706169552114602704522356652769947041607822219725780640550022962086936576 * p5) := by
 omega
theorem row_nat (t : W8) (a : BitVec 64) (b : W6) : ∃ c : Bool,
 (rowW t a b).1.val + 39402006196394479212279040100143613805079739270465446667948293404245721771497210611414266254884915640806627990306816 * (rowW t a b).2.1.toNat + 726838724295606890549323807888004534353641360687318060281490199180639288113397923326191050713763565560762521606266177933534601628614656 * b2n c =
  t.1.val + 39402006196394479212279040100143613805079739270465446667948293404245721771497210611414266254884915640806627990306816 * t.2.1.toNat + a.toNat * b.val /\
 (rowW t a b).2.2 = t.2.2 + bitW c /\ ∃ k, (rowW t a b).1.w0.toNat + 18446744073709551616 * k = a.toNat * b.w0.toNat + t.1.w0.toNat := by
 obtain ⟨r0, hr0⟩ : ∃ r, mac a b.w0 t.1.w0 (bitW false) = r := ⟨_, rfl⟩
 obtain ⟨r1, hr1⟩ : ∃ r, mac a b.w1 t.1.w1 r0.2 = r := ⟨_, rfl⟩
 obtain ⟨r2, hr2⟩ : ∃ r, mac a b.w2 t.1.w2 r1.2 = r := ⟨_, rfl⟩
 obtain ⟨r3, hr3⟩ : ∃ r, mac a b.w3 t.1.w3 r2.2 = r := ⟨_, rfl⟩
 obtain ⟨r4, hr4⟩ : ∃ r, mac a b.w4 t.1.w4 r3.2 = r := ⟨_, rfl⟩
 obtain ⟨r5, hr5⟩ : ∃ r, mac a b.w5 t.1.w5 r4.2 = r := ⟨_, rfl⟩
 obtain ⟨s, hs⟩ : ∃ s, add64 t.2.1 r5.2 false = s := ⟨_, rfl⟩
 have hres := rowW_eq hr0 hr1 hr2 hr3 hr4 hr5 hs
 have e0 := mac_nat a b.w0 t.1.w0 (bitW false)
 rw [hr0, show (bitW false).toNat = 0 from rfl, Nat.add_zero] at e0
 have e1 := mac_nat a b.w1 t.1.w1 r0.2
 rw [hr1] at e1
 have e2 := mac_nat a b.w2 t.1.w2 r1.2
 rw [hr2] at e2
 have e3 := mac_nat a b.w3 t.1.w3 r2.2
 rw [hr3] at e3
 have e4 := mac_nat a b.w4 t.1.w4 r3.2
 rw [hr4] at e4
 have e5 := mac_nat a b.w5 t.1.w5 r4.2
 rw [hr5] at e5
 have e6 := add64_nat t.2.1 r5.2 false
 rw [hs, show b2n false = 0 from rfl, Nat.add_zero] at e6
 have sum := row_sum e0 e1 e2 e3 e4 e5 e6
 rw [<- val_mul a.toNat b] at sum
 refine ⟨s.2, ?_, ?_, r0.2.toNat, ?_⟩
 . rw [hres]; exact sum
 . rw [hres]
 . rw [hres]; exact e0
theorem mt_low {u q p k v0 : Nat} (hq : q * p % 18446744073709551616 = u * 18446744073709551615 % 18446744073709551616) (hv : v0 < 18446744073709551616) (h : v0 + 18446744073709551616 * k = q * p + u) : v0 = 0 := by
 generalize q * p = x at hq h
 omega
theorem mt_end {B T xB U u6 c Q V v6 d : Nat} (hb : B < 4002409555221667393417789825735904156556882819939007885332058136124031650490837864442687629129015664037894272559787) (ht : T < B + 4002409555221667393417789825735904156556882819939007885332058136124031650490837864442687629129015664037894272559787)
 (hx : xB <= 18446744073709551615 * B) (hq : Q < 18446744073709551616)
 (hu : U + 39402006196394479212279040100143613805079739270465446667948293404245721771497210611414266254884915640806627990306816 * u6 + 726838724295606890549323807888004534353641360687318060281490199180639288113397923326191050713763565560762521606266177933534601628614656 * c = T + xB)
 (hv : V + 39402006196394479212279040100143613805079739270465446667948293404245721771497210611414266254884915640806627990306816 * v6 + 726838724295606890549323807888004534353641360687318060281490199180639288113397923326191050713763565560762521606266177933534601628614656 * d = U + 39402006196394479212279040100143613805079739270465446667948293404245721771497210611414266254884915640806627990306816 * u6 + Q * 4002409555221667393417789825735904156556882819939007885332058136124031650490837864442687629129015664037894272559787) :
 c = 0 /\ d = 0 /\ V + 39402006196394479212279040100143613805079739270465446667948293404245721771497210611414266254884915640806627990306816 * v6 = xB + T + Q * 4002409555221667393417789825735904156556882819939007885332058136124031650490837864442687629129015664037894272559787 /\
  V + 39402006196394479212279040100143613805079739270465446667948293404245721771497210611414266254884915640806627990306816 * v6 < 18446744073709551616 * (B + 4002409555221667393417789825735904156556882819939007885332058136124031650490837864442687629129015664037894272559787) := by
 have hc : c = 0 := by omega
 subst hc
 have hd : d = 0 := by omega
 subst hd
 refine ⟨rfl, rfl, ?_, ?_⟩ <;> omega
theorem b2n_zero {c : Bool} (h : b2n c = 0) : c = false := by cases c with
 | false => rfl
 | true => cases h
theorem mt_round (b : W6) (x : BitVec 64) (t : W8) (h1 : t.2.1 = 0#64) (h2 : t.2.2 = 0#64) (hb : b.val < pN) (ht : t.1.val < b.val + pN) :
 ∃ q : Nat, (mtRound rowW fastP b x t).2.1 = 0#64 /\ (mtRound rowW fastP b x t).2.2 = 0#64 /\ (mtRound rowW fastP b x t).1.val < b.val + pN /\ 18446744073709551616 * (mtRound rowW fastP b x t).1.val = x.toNat * b.val + t.1.val + q * pN := by
 obtain ⟨u, hue⟩ : ∃ u, rowW t x b = u := ⟨_, rfl⟩
 obtain ⟨v, hve⟩ : ∃ v, rowW u (u.1.w0 * 9940570264628428797#64) primeW = v := ⟨_, rfl⟩
 have hres : mtRound rowW fastP b x t = (⟨v.1.w1, v.1.w2, v.1.w3, v.1.w4, v.1.w5, v.2.1⟩, v.2.2, bitW false) := by
  subst hve hue
  rfl
 obtain ⟨c, hu, hc, -⟩ := row_nat t x b
 obtain ⟨d, hv, hd, k, hl⟩ := row_nat u (u.1.w0 * 9940570264628428797#64) primeW
 rw [hue] at hu hc
 rw [hve] at hv hd hl
 have hq := neg_inv u.1.w0
 rw [BitVec.toNat_mul] at hq
 have z := mt_low hq v.1.w0.isLt hl
 rw [prime_val] at hv
 rw [h1, show (0#64).toNat = 0 from rfl, Nat.mul_zero, Nat.add_zero] at hu
 have xB : x.toNat * b.val <= 18446744073709551615 * b.val := Nat.mul_le_mul_right _ (Nat.le_of_lt_succ x.isLt)
 obtain ⟨c0, d0, e1, e2⟩ := mt_end (c := b2n c) (d := b2n d) hb ht xB (u.1.w0 * 9940570264628428797#64).isLt hu hv
 have c0 := b2n_zero c0
 have d0 := b2n_zero d0
 subst c0 d0
 rw [h2] at hc
 rw [hc] at hd
 refine ⟨(u.1.w0 * 9940570264628428797#64).toNat, ?_, ?_, ?_⟩
 . rw [hres]
   show v.2.2 = 0#64
   rw [hd]; rfl
 . rw [hres]; rfl
 . rw [hres]
   have hp : pN = 4002409555221667393417789825735904156556882819939007885332058136124031650490837864442687629129015664037894272559787 := rfl
   rw [hp]
   show (W6.mk v.1.w1 v.1.w2 v.1.w3 v.1.w4 v.1.w5 v.2.1).val < _ /\ 18446744073709551616 * (W6.mk v.1.w1 v.1.w2 v.1.w3 v.1.w4 v.1.w5 v.2.1).val = _
   have hval : 18446744073709551616 * (W6.mk v.1.w1 v.1.w2 v.1.w3 v.1.w4 v.1.w5 v.2.1).val = v.1.val + 39402006196394479212279040100143613805079739270465446667948293404245721771497210611414266254884915640806627990306816 * v.2.1.toNat := by
    simp only [W6.val]
    omega
   rw [hval]
   refine ⟨?_, e1⟩
   rw [<- hval] at e2
   exact Nat.lt_of_mul_lt_mul_left e2
theorem mtRaw_nat (a b : W6) (hb : b.val < pN) : (mtRaw rowW fastP a b).2.1 = 0#64 /\ (mtRaw rowW fastP a b).1.val < b.val + pN /\ ∃ Q, 39402006196394479212279040100143613805079739270465446667948293404245721771497210611414266254884915640806627990306816 * (mtRaw rowW fastP a b).1.val = a.val * b.val + Q * pN := by
 have zv : zero8.1.val = 0 := rfl
 have hp : pN = 4002409555221667393417789825735904156556882819939007885332058136124031650490837864442687629129015664037894272559787 := rfl
 unfold mtRaw
 obtain ⟨q1, y1, w1, l1, h1⟩ := mt_round b a.w0 zero8 rfl rfl hb (by rw [zv]; exact Nat.lt_of_lt_of_le (by decide +kernel : 0 < pN) (Nat.le_add_left _ _))
 generalize mtRound rowW fastP b a.w0 zero8 = t1 at y1 w1 l1 h1 ⊢
 obtain ⟨q2, y2, w2, l2, h2⟩ := mt_round b a.w1 t1 y1 w1 hb l1
 generalize mtRound rowW fastP b a.w1 t1 = t2 at y2 w2 l2 h2 ⊢
 obtain ⟨q3, y3, w3, l3, h3⟩ := mt_round b a.w2 t2 y2 w2 hb l2
 generalize mtRound rowW fastP b a.w2 t2 = t3 at y3 w3 l3 h3 ⊢
 obtain ⟨q4, y4, w4, l4, h4⟩ := mt_round b a.w3 t3 y3 w3 hb l3
 generalize mtRound rowW fastP b a.w3 t3 = t4 at y4 w4 l4 h4 ⊢
 obtain ⟨q5, y5, w5, l5, h5⟩ := mt_round b a.w4 t4 y4 w4 hb l4
 generalize mtRound rowW fastP b a.w4 t4 = t5 at y5 w5 l5 h5 ⊢
 obtain ⟨q6, y6, w6, l6, h6⟩ := mt_round b a.w5 t5 y5 w5 hb l5
 generalize mtRound rowW fastP b a.w5 t5 = t6 at y6 w6 l6 h6 ⊢
 refine ⟨y6, l6, q1 + 18446744073709551616 * q2 + 340282366920938463463374607431768211456 * q3 + 6277101735386680763835789423207666416102355444464034512896 * q4 + 115792089237316195423570985008687907853269984665640564039457584007913129639936 * q5 + 2135987035920910082395021706169552114602704522356652769947041607822219725780640550022962086936576 * q6, ?_⟩
 rw [zv, Nat.add_zero] at h1
 rw [hp] at h1 h2 h3 h4 h5 h6 ⊢
 have hb : a.val * b.val = (a.w0.toNat * b.val) + 18446744073709551616 * (a.w1.toNat * b.val) + 340282366920938463463374607431768211456 * (a.w2.toNat * b.val) + 6277101735386680763835789423207666416102355444464034512896 * (a.w3.toNat * b.val) + 115792089237316195423570985008687907853269984665640564039457584007913129639936 * (a.w4.toNat * b.val) + 2135987035920910082395021706169552114602704522356652769947041607822219725780640550022962086936576 * (a.w5.toNat * b.val) := by
  rw [Nat.mul_comm, val_mul]
  simp only [Nat.mul_comm b.val]
 rw [hb]
 exact raw_sum h1 h2 h3 h4 h5 h6
theorem lex_step {M a b x y : Nat} {c : Int} (hx : x < M) (hy : y < M) (h : c < 0 ↔ x < y) : (if a < b then -1 else if b < a then 1 else c) < 0 ↔ x + M * a < y + M * b := by
 rcases Nat.lt_trichotomy a b with h1 | h1 | h1
 . have h2 : M * (a + 1) <= M * b := Nat.mul_le_mul_left M h1
   rw [Nat.mul_add, Nat.mul_one] at h2
   rw [if_pos h1]
   generalize M * a = u at *
   generalize M * b = v at *
   omega
 . subst h1
   rw [if_neg (Nat.lt_irrefl _), if_neg (Nat.lt_irrefl _), h]
   generalize M * a = u at *
   omega
 . have h2 : M * (b + 1) <= M * a := Nat.mul_le_mul_left M h1
   rw [Nat.mul_add, Nat.mul_one] at h2
   rw [if_neg (Nat.lt_asymm h1), if_pos h1]
   generalize M * a = u at *
   generalize M * b = v at *
   omega
theorem lex_first {a b : Nat} : (if a < b then (-1 : Int) else if b < a then 1 else 0) < 0 ↔ a < b := by
 split
 . omega
 . split <;> omega
theorem cmW_ite (a b : W6) : cmW a b = if a.w5.toNat < b.w5.toNat then -1 else if b.w5.toNat < a.w5.toNat then 1 else if a.w4.toNat < b.w4.toNat then -1 else if b.w4.toNat < a.w4.toNat then 1 else
 if a.w3.toNat < b.w3.toNat then -1 else if b.w3.toNat < a.w3.toNat then 1 else if a.w2.toNat < b.w2.toNat then -1 else if b.w2.toNat < a.w2.toNat then 1 else
 if a.w1.toNat < b.w1.toNat then -1 else if b.w1.toNat < a.w1.toNat then 1 else if a.w0.toNat < b.w0.toNat then -1 else if b.w0.toNat < a.w0.toNat then 1 else 0 := by
 simp only [cmW, cmpL, chainV, BitVec.ult, Bool.cond_decide]
theorem low_words (a0 a1 a2 a3 a4 : BitVec 64) : a0.toNat < 18446744073709551616 /\ a0.toNat + 18446744073709551616 * a1.toNat < 340282366920938463463374607431768211456 /\
 a0.toNat + 18446744073709551616 * a1.toNat + 340282366920938463463374607431768211456 * a2.toNat < 6277101735386680763835789423207666416102355444464034512896 /\
 a0.toNat + 18446744073709551616 * a1.toNat + 340282366920938463463374607431768211456 * a2.toNat + 6277101735386680763835789423207666416102355444464034512896 * a3.toNat < 115792089237316195423570985008687907853269984665640564039457584007913129639936 /\
 a0.toNat + 18446744073709551616 * a1.toNat + 340282366920938463463374607431768211456 * a2.toNat + 6277101735386680763835789423207666416102355444464034512896 * a3.toNat + 115792089237316195423570985008687907853269984665640564039457584007913129639936 * a4.toNat < 2135987035920910082395021706169552114602704522356652769947041607822219725780640550022962086936576 := by
 have g0 := a0.isLt; have g1 := a1.isLt; have g2 := a2.isLt; have g3 := a3.isLt; have g4 := a4.isLt
 refine ⟨?_, ?_, ?_, ?_, ?_⟩ <;> omega
theorem cmW_nat (a b : W6) : cmW a b < 0 ↔ a.val < b.val := by
 obtain ⟨f0, f1, f2, f3, f4⟩ := low_words a.w0 a.w1 a.w2 a.w3 a.w4
 obtain ⟨g0, g1, g2, g3, g4⟩ := low_words b.w0 b.w1 b.w2 b.w3 b.w4
 rw [cmW_ite]
 exact lex_step f4 g4 (lex_step f3 g3 (lex_step f2 g2 (lex_step f1 g1 (lex_step f0 g0 lex_first))))
theorem subs_lt (m : W6) : (subs m primeW).2 = decide (m.val < pN) := by
 have h1 := subs_nat m primeW
 rw [prime_val] at h1
 have hl := (subs m primeW).1.val_lt
 have hm := m.val_lt
 have hp : pN = 4002409555221667393417789825735904156556882819939007885332058136124031650490837864442687629129015664037894272559787 := rfl
 rw [hp] at h1 ⊢
 cases hb : (subs m primeW).2 with
 | true =>
  rw [hb, show b2n true = 1 from rfl] at h1
  exact (decide_eq_true (by omega)).symm
 | false =>
  rw [hb, show b2n false = 0 from rfl] at h1
  exact (decide_eq_false (by omega)).symm
theorem less_cm (m : W6) : (bif decide (cmW m primeW >= 0) then (rsubW m primeW).1 else m) = lessW m := by
 unfold lessW
 rw [subs_lt, rsubW_eq]
 have h := cmW_nat m primeW
 rw [prime_val] at h
 by_cases hm : m.val < pN
 . rw [decide_eq_true hm, decide_eq_false (by have := h.2 hm; omega)]; rfl
 . rw [decide_eq_false hm, decide_eq_true (by have := mt h.1 hm; omega)]; rfl
theorem belowI_nat (a : W6) : belowI a = decide (a.val < pN) := by
 have h := cmW_nat a primeW
 rw [prime_val] at h
 unfold belowI
 rw [show chainV (cmpL a primeW) 0 = cmW a primeW from rfl]
 exact decide_eq_decide.2 h
theorem less_mod (m : W6) (h : m.val < 2 * pN) : (lessW m).val = m.val % pN := by
 rw [lessW_nat m h]
 split
 . rename_i hl; exact (Nat.mod_eq_of_lt hl).symm
 . rename_i hn
   generalize pN = p at h hn ⊢
   rw [Nat.mod_eq_sub_mod (by omega), Nat.mod_eq_of_lt (by omega)]
theorem wide_mul {m x Q p R r : Nat} (hr : R * r % p = 1) (h : R * m = x + Q * p) : m % p = x * r % p := by
 have h4 : R * m % p = x % p := by rw [h, Nat.add_mul_mod_self_right]
 have : m * (R * r) % p = m % p := by rw [Nat.mul_mod, hr, Nat.mul_one, Nat.mod_mod]
 rw [<- this, show m * (R * r) = R * m * r by rw [<- Nat.mul_assoc, Nat.mul_comm m], Nat.mul_mod, h4, <- Nat.mul_mod]
theorem mont_less {R : W8} {f : W6} (h : R.2.1 = 0#64) : (bif R.2.1 != bitW false then (rsubW R.1 f).1 else bif decide (cmW R.1 f >= 0) then (rsubW R.1 f).1 else R.1) = (bif decide (cmW R.1 f >= 0) then (rsubW R.1 f).1 else R.1) := by
 rw [h]; rfl
theorem montW_nat (a b : W6) (hb : b.val < pN) : (montW fastP a b).val = mulN a.val b.val := by
 obtain ⟨h0, h1, Q, h2⟩ := mtRaw_nat a b hb
 have hm : montW fastP a b = lessW (mtRaw rowW fastP a b).1 := by
  unfold montW
  rw [show fastP.1 = primeW from rfl, mont_less h0, less_cm]
 rw [hm, less_mod _ (Nat.lt_of_lt_of_le h1 (by rw [Nat.two_mul]; exact Nat.add_le_add_right (Nat.le_of_lt hb) _))]
 unfold mulN
 exact wide_mul rinv_ok h2
theorem wide_twice : wideN * rinvN * rinvN % pN = 1 := by decide +kernel
theorem mul_twice {a b r w p : Nat} (h : w * r * r % p = 1) : (a * b * r % p) * w * r % p = a * b % p := by
 rw [Nat.mul_assoc, Nat.mul_mod, Nat.mod_mod, <- Nat.mul_mod, show a * b * r * (w * r) = a * b * (w * r * r) by simp only [Nat.mul_comm, Nat.mul_left_comm], Nat.mul_mod, h, Nat.mul_one, Nat.mod_mod]
theorem rmG_eq (M : Fa -> W6 -> W6 -> W6) (f : Fa) (a b w : W6) (h : f.2.2 = w) : rmG M f a b = M f (M f a b) w := by rw [<- h]; rfl
theorem rmulW_two (a b : W6) : rmulW fastP a b = montW fastP (montW fastP a b) wideW := rmG_eq montW fastP a b wideW rfl
theorem rmulW_nat (a b : W6) (hb : b.val < pN) : (rmulW fastP a b).val = a.val * b.val % pN := by
 have h1 := montW_nat a b hb
 have h2 : wideW.val < pN := Nat.lt_of_le_of_lt (Nat.le_of_eq wide_val) wideN_lt
 have h3 := montW_nat (montW fastP a b) wideW h2
 rw [rmulW_two, h3, h1, wide_val]
 unfold mulN
 exact mul_twice wide_twice
theorem rfadd_eq (a b : W6) : rfadd fastP a b = addW a b := by
 unfold rfadd addW
 rw [show fastP.1 = primeW from rfl, less_cm, raddW_eq]
theorem rfadd_nat {a b : W6} (ha : a.val < pN) (hb : b.val < pN) : (rfadd fastP a b).val = (a.val + b.val) % pN := by
 rw [rfadd_eq]
 exact (rep_add ⟨rfl, ha⟩ ⟨rfl, hb⟩).val
theorem rfneg_nat {a : W6} (ha : a.val < pN) : (rfneg fastP a).val = (pN - a.val) % pN := by
 have e : rfneg fastP a = bif eqW a zeroW then a else (rsubW primeW a).1 := rfl
 rw [e]
 cases hz : eqW a zeroW with
 | true =>
  have hz := (eqW_iff a zeroW).1 hz
  subst hz
  rw [cond_true, zero_val, Nat.sub_zero, Nat.mod_self]
 | false =>
  rw [cond_false, rsubW_eq]
  have h1 := subs_nat primeW a
  rw [prime_val] at h1
  have hl := (subs primeW a).1.val_lt
  have hb := b2n_le (subs primeW a).2
  have h0 : a.val ≠ 0 := by
   intro h
   have : a = zeroW := W6.val_inj (by rw [h, zero_val])
   rw [(eqW_iff a zeroW).2 this] at hz
   cases hz
  have hp : pN = 4002409555221667393417789825735904156556882819939007885332058136124031650490837864442687629129015664037894272559787 := rfl
  rw [hp] at h1 ha ⊢
  rw [Nat.mod_eq_of_lt (by omega)]
  generalize b2n (subs primeW a).2 = c at *
  omega
theorem rfsub_nat {a b : W6} (ha : a.val < pN) (hb : b.val < pN) : (rfsub fastP a b).val = (a.val + (pN - b.val) % pN) % pN := by
 unfold rfsub
 have h := rfneg_nat hb
 rw [rfadd_nat ha (by rw [h]; exact Nat.mod_lt _ pN_pos), h]
end Go.Rq

namespace Go.Rq
open Go Go.Proofs
def radd2G (t : RO) (a b : D6) : D6 := ⟨t.ad t.fp a.a b.a, t.ad t.fp a.b b.b⟩
def rneg2G (t : RO) (a : D6) : D6 := ⟨t.ne t.fp a.a, t.ne t.fp a.b⟩
def rmul2G (t : RO) (a b : D6) : D6 := ⟨t.sb t.fp (t.mu t.fp a.a b.a) (t.mu t.fp a.b b.b), t.ad t.fp (t.mu t.fp a.a b.b) (t.mu t.fp a.b b.a)⟩
def rinv2G (t : RO) (a : D6) : D6 :=
 let n := t.iv t.fp (t.ad t.fp (t.mu t.fp a.a a.a) (t.mu t.fp a.b a.b))
 ⟨t.mu t.fp a.a n, t.ne t.fp (t.mu t.fp a.b n)⟩
set_option maxRecDepth 100000
theorem radd2_run (t : RO) (a b : D6) : (afunR PR (envOf eqsT (roT t)) [] (fun _ => none) 40 263 [c12.agg.enc a, c12.agg.enc b]).strict = .leaf (c12.agg.enc (radd2G t a b)) := by kernel_rfl
theorem radd2_ctx : Ctx PR (envOf eqsT (roT roO)) [] (fun _ => none) 40 263 :=
 ctxB (envOf_ok eqsT_ok (roT_ok)) mixed (by kernel_rfl)
theorem radd2_ok : CallOk PR 263 (fn2 c12.agg c12.agg c12.agg (radd2G roO)) :=
 .inl ⟨entersB (by kernel_rfl), pure2 radd2_ctx (fun a b => leafVal (B := c12.agg) (y := radd2G roO a b) (radd2_run roO a b))⟩
theorem rneg2_run (t : RO) (a : D6) : (afunR PR (envOf eqsT (roT t)) [] (fun _ => none) 40 264 [c12.agg.enc a]).strict = .leaf (c12.agg.enc (rneg2G t a)) := by kernel_rfl
theorem rneg2_ctx : Ctx PR (envOf eqsT (roT roO)) [] (fun _ => none) 40 264 :=
 ctxB (envOf_ok eqsT_ok (roT_ok)) mixed (by kernel_rfl)
theorem rneg2_ok : CallOk PR 264 (fn1 c12.agg c12.agg (rneg2G roO)) :=
 .inl ⟨entersB (by kernel_rfl), pure1 rneg2_ctx (fun a => leafVal (B := c12.agg) (y := rneg2G roO a) (rneg2_run roO a))⟩
theorem rmul2_run (t : RO) (a b : D6) : (afunR PR (envOf eqsT (roT t)) [] (fun _ => none) 40 251 [c12.agg.enc a, c12.agg.enc b]).strict = .leaf (c12.agg.enc (rmul2G t a b)) := by kernel_rfl
theorem rmul2_ctx : Ctx PR (envOf eqsT (roT roO)) [] (fun _ => none) 40 251 :=
 ctxB (envOf_ok eqsT_ok (roT_ok)) mixed (by kernel_rfl)
theorem rmul2_ok : CallOk PR 251 (fn2 c12.agg c12.agg c12.agg (rmul2G roO)) :=
 .inl ⟨entersB (by kernel_rfl), pure2 rmul2_ctx (fun a b => leafVal (B := c12.agg) (y := rmul2G roO a b) (rmul2_run roO a b))⟩
theorem rinv2_run (t : RO) (a : D6) : (afunR PR (envOf eqsT (roT t)) [] (fun _ => none) 40 224 [c12.agg.enc a]).strict = .leaf (c12.agg.enc (rinv2G t a)) := by kernel_rfl
theorem rinv2_ctx : Ctx PR (envOf eqsT (roT roO)) [] (fun _ => none) 40 224 :=
 ctxB (envOf_ok eqsT_ok (roT_ok)) mixed (by kernel_rfl)
theorem rinv2_ok : CallOk PR 224 (fn1 c12.agg c12.agg (rinv2G roO)) :=
 .inl ⟨entersB (by kernel_rfl), pure1 rinv2_ctx (fun a => leafVal (B := c12.agg) (y := rinv2G roO a) (rinv2_run roO a))⟩
def rs2T (ad : D6 -> D6 -> D6) (ne : D6 -> D6) : PureTab := [(263, fn2 c12.agg c12.agg c12.agg ad), (264, fn1 c12.agg c12.agg ne)]
theorem rsub2_run (ad : D6 -> D6 -> D6) (ne : D6 -> D6) (a b : D6) : (afunR PR (envOf eqsT (rs2T ad ne)) [] (fun _ => none) 40 250 [c12.agg.enc a, c12.agg.enc b]).strict = .leaf (c12.agg.enc (ad a (ne b))) := by kernel_rfl
def rsub2G (t : RO) (a b : D6) : D6 := radd2G t a (rneg2G t b)
theorem rsub2_ctx : Ctx PR (envOf eqsT (rs2T (radd2G roO) (rneg2G roO))) [] (fun _ => none) 40 250 :=
 ctxB (envOf_ok eqsT_ok (TabPOk.cons radd2_ok (TabPOk.cons rneg2_ok TabPOk.nil))) mixed (by kernel_rfl)
theorem rsub2_ok : CallOk PR 250 (fn2 c12.agg c12.agg c12.agg (rsub2G roO)) :=
 .inl ⟨entersB (by kernel_rfl), pure2 rsub2_ctx (fun a b => leafVal (B := c12.agg) (y := rsub2G roO a b) (rsub2_run (radd2G roO) (rneg2G roO) a b))⟩
structure Th where
 x : D6
 y : D6
 z : D6
 one : Bool
def cTh : CC Th := (CC.prod c12 (CC.prod c12 (CC.prod c12 cBool))).iso (fun x => ⟨x.1, x.2.1, x.2.2.1, x.2.2.2⟩) (fun y => (y.x, y.y, y.z, y.one)) (fun _ => rfl)
def thmG (t : RO) (M2 : D6 -> D6 -> D6) (p : Th) (a b : D6) : D6 := bif p.one then ⟨t.mu t.fp a.a b.a, zeroW⟩ else M2 a b
def thT (t : RO) (M2 : D6 -> D6 -> D6) : PureTab := (251, fn2 c12.agg c12.agg c12.agg M2) :: roT t
theorem thm_run (t : RO) (M2 : D6 -> D6 -> D6) (p : Th) (a b : D6) : (afunR PR (envOf eqsT (thT t M2)) [8] (fun _ => none) 40 225 [cTh.agg.enc p, c12.agg.enc a, c12.agg.enc b]).strict =
 .br p.one (.leaf (c12.agg.enc ⟨t.mu t.fp a.a b.a, zeroW⟩)) (.leaf (c12.agg.enc (M2 a b))) := by kernel_rfl
theorem thm_gives (t : RO) (M2 : D6 -> D6 -> D6) (p : Th) (a b : D6) : Gives (afunR PR (envOf eqsT (thT t M2)) [8] (fun _ => none) 40 225 [cTh.agg.enc p, c12.agg.enc a, c12.agg.enc b]) (c12.agg.val (thmG t M2 p a b)) :=
 givesOf (thm_run t M2 p a b) (holds_br (B := c12.agg) (holds_leaf (c12.agg.h1 _)) (holds_leaf (c12.agg.h1 _)))
theorem thm_ctx : Ctx PR (envOf eqsT (thT roO (rmul2G roO))) [8] (fun _ => none) 40 225 :=
 ctxB (envOf_ok eqsT_ok (TabPOk.cons rmul2_ok roT_ok)) mixed (by kernel_rfl)
def thmW : Th -> D6 -> D6 -> D6 := thmG roO (rmul2G roO)
theorem thm_ok : CallOk PR 225 (fn3 cTh.agg c12.agg c12.agg c12.agg thmW) :=
 .inl ⟨entersB (by kernel_rfl), pure3 thm_ctx (fun p a b => thm_gives roO (rmul2G roO) p a b)⟩
inductive Sm where | n2 | n3 | n4 | n8
def Sm.i : Sm -> Int | .n2 => 2 | .n3 => 3 | .n4 => 4 | .n8 => 8
def Sm.n : Sm -> Nat | .n2 => 2 | .n3 => 3 | .n4 => 4 | .n8 => 8
def smOf (k : IntKind) (n : Int) : Option Sm := match decide (k = .i64) with
 | false => none
 | true => match decide (n = 2) with
  | true => some .n2
  | false => match decide (n = 3) with
   | true => some .n3
   | false => match decide (n = 4) with
    | true => some .n4
    | false => match decide (n = 8) with
     | true => some .n8
     | false => none
def kSm : Cod Sm where
 enc s := .v (.int .i64 s.i)
 dec a := match a with
  | .v (.int k n) => smOf k n
  | _ => none
 val s := .int .i64 s.i
 h1 _ := rfl
 h2 ρ a v x h r := by
  split at h
  . rename_i k n
    cases r
    unfold smOf at h
    split at h
    . cases h
    . rename_i hk
      have hk := of_decide_eq_true hk
      subst hk
      split at h
      . rename_i e; simp at h; subst h; rw [of_decide_eq_true e]; rfl
      . split at h
        . rename_i e; simp at h; subst h; rw [of_decide_eq_true e]; rfl
        . split at h
          . rename_i e; simp at h; subst h; rw [of_decide_eq_true e]; rfl
          . split at h
            . rename_i e; simp at h; subst h; rw [of_decide_eq_true e]; rfl
            . cases h
  . cases h
def timesA (A : D6 -> D6 -> D6) (a : D6) : Nat -> D6
 | 0 => ⟨zeroW, zeroW⟩
 | k + 1 => A (timesA A a k) a
theorem rtm_run (A : D6 -> D6 -> D6) (a : D6) (s : Sm) : (afunR PR (envOf eqsT [(263, fn2 c12.agg c12.agg c12.agg A)]) [] (fun _ => none) 40 249 [c12.agg.enc a, kSm.enc s]).strict = .leaf (c12.agg.enc (timesA A a s.n)) := by
 cases s <;> kernel_rfl
theorem rtm_ctx : Ctx PR (envOf eqsT ([(263, fn2 c12.agg c12.agg c12.agg (radd2G roO))])) [] (fun _ => none) 40 249 :=
 ctxB (envOf_ok eqsT_ok (TabPOk.cons radd2_ok TabPOk.nil)) mixed (by kernel_rfl)
def rtmW (a : D6) (s : Sm) : D6 := timesA (radd2G roO) a s.n
theorem rtm_ok : CallOk PR 249 (fn2 c12.agg kSm c12.agg rtmW) :=
 .inl ⟨entersB (by kernel_rfl), pure2 rtm_ctx (fun a s => leafVal (B := c12.agg) (y := rtmW a s) (rtm_run (radd2G roO) a s))⟩
structure TH where
 mu : Th -> D6 -> D6 -> D6
 tm : D6 -> Sm -> D6
 sb : D6 -> D6 -> D6
def thO : TH := ⟨thmW, rtmW, rsub2G roO⟩
def tdT (t : TH) : PureTab := [(225, fn3 cTh.agg c12.agg c12.agg c12.agg t.mu), (249, fn2 c12.agg kSm c12.agg t.tm), (250, fn2 c12.agg c12.agg c12.agg t.sb)]
theorem tdT_eq : [(225, fn3 cTh.agg c12.agg c12.agg c12.agg thmW), (249, fn2 c12.agg kSm c12.agg rtmW), (250, fn2 c12.agg c12.agg c12.agg (rsub2G roO))] = tdT thO := by kernel_rfl
theorem tdT_ok : TabPOk PR (tdT thO) := Eq.subst (motive := TabPOk PR) tdT_eq (TabPOk.cons thm_ok (TabPOk.cons rtm_ok (TabPOk.cons rsub2_ok TabPOk.nil)))
def zeroD : D6 := ⟨zeroW, zeroW⟩
def dblP (t : TH) (p : Th) : Th :=
 let yy := t.mu p p.y p.y
 let s := t.tm (t.mu p p.x yy) .n4
 let m := t.tm (t.mu p p.x p.x) .n3
 let x := t.sb (t.mu p m m) (t.tm s .n2)
 ⟨x, t.sb (t.mu p m (t.sb s x)) (t.tm (t.mu p yy yy) .n8), t.tm (t.mu p p.y p.z) .n2, p.one⟩
def noneT (o : Bool) : Th := ⟨zeroD, zeroD, zeroD, o⟩
def dblG (t : TH) (p : Th) : Th := bif eqD p.z zeroD then noneT p.one else bif eqD p.y zeroD then noneT p.one else dblP t p
theorem dbl_run (t : TH) (p : Th) : (afunR PR (envOf eqsT (tdT t)) [12, 17] (fun _ => none) 40 222 [cTh.agg.enc p]).strict =
 .br (eqD p.z zeroD) (.leaf (cTh.agg.enc (noneT p.one))) (.br (eqD p.y zeroD) (.leaf (cTh.agg.enc (noneT p.one))) (.leaf (cTh.agg.enc (dblP t p)))) := by kernel_rfl
theorem dbl_gives (t : TH) (p : Th) : Gives (afunR PR (envOf eqsT (tdT t)) [12, 17] (fun _ => none) 40 222 [cTh.agg.enc p]) (cTh.agg.val (dblG t p)) :=
 givesOf (dbl_run t p) (holds_br (B := cTh.agg) (holds_leaf (cTh.agg.h1 _)) (holds_br (B := cTh.agg) (holds_leaf (cTh.agg.h1 _)) (holds_leaf (cTh.agg.h1 _))))
theorem dbl_ctx : Ctx PR (envOf eqsT (tdT thO)) [12, 17] (fun _ => none) 40 222 :=
 ctxB (envOf_ok eqsT_ok (tdT_ok)) mixed (by kernel_rfl)
def dblW : Th -> Th := dblG thO
theorem dbl_ok : CallOk PR 222 (fn1 cTh.agg cTh.agg dblW) :=
 .inl ⟨entersB (by kernel_rfl), pure1 dbl_ctx (fun p => dbl_gives thO p)⟩
def addP (t : TH) (_D : Th -> Th) (p u : Th) : Th :=
 let zz := t.mu p p.z p.z
 let ux := t.mu p u.x zz
 let uy := t.mu p u.y (t.mu p zz p.z)
 let h := t.sb ux p.x
 let k := t.sb uy p.y
 let hh := t.mu p h h
 let hhh := t.mu p hh h
 let v := t.mu p p.x hh
 let x := t.sb (t.sb (t.mu p k k) hhh) (t.tm v .n2)
 ⟨x, t.sb (t.mu p k (t.sb v x)) (t.mu p p.y hhh), t.mu p p.z h, p.one⟩
def tAddH (t : TH) (p u : Th) : D6 := t.sb (t.mu p u.x (t.mu p p.z p.z)) p.x
def tAddK (t : TH) (p u : Th) : D6 := t.sb (t.mu p u.y (t.mu p (t.mu p p.z p.z) p.z)) p.y
def addG (t : TH) (D : Th -> Th) (p u : Th) : Th := bif eqD p.z zeroD then u else bif eqD (tAddH t p u) zeroD then (bif eqD (tAddK t p u) zeroD then D p else noneT p.one) else addP t D p u
def taT (t : TH) (D : Th -> Th) : PureTab := (222, fn1 cTh.agg cTh.agg D) :: tdT t
theorem tadd_run (t : TH) (D : Th -> Th) (p u : Th) : (afunR PR (envOf eqsT (taT t D)) [18, 50, 53] (fun _ => none) 40 223 [cTh.agg.enc p, cTh.agg.enc u]).strict =
 .br (eqD p.z zeroD) (.leaf (cTh.agg.enc u)) (.br (eqD (tAddH t p u) zeroD) (.br (eqD (tAddK t p u) zeroD) (.leaf (cTh.agg.enc (D p))) (.leaf (cTh.agg.enc (noneT p.one)))) (.leaf (cTh.agg.enc (addP t D p u)))) := by kernel_rfl
theorem tadd_gives (t : TH) (D : Th -> Th) (p u : Th) : Gives (afunR PR (envOf eqsT (taT t D)) [18, 50, 53] (fun _ => none) 40 223 [cTh.agg.enc p, cTh.agg.enc u]) (cTh.agg.val (addG t D p u)) :=
 givesOf (tadd_run t D p u) (holds_br (B := cTh.agg) (holds_leaf (cTh.agg.h1 _)) (holds_br (B := cTh.agg) (holds_br (B := cTh.agg) (holds_leaf (cTh.agg.h1 _)) (holds_leaf (cTh.agg.h1 _))) (holds_leaf (cTh.agg.h1 _))))
theorem tadd_ctx : Ctx PR (envOf eqsT (taT thO dblW)) [18, 50, 53] (fun _ => none) 40 223 :=
 ctxB (envOf_ok eqsT_ok (TabPOk.cons dbl_ok tdT_ok)) mixed (by kernel_rfl)
def taddW : Th -> Th -> Th := addG thO dblW
theorem tadd_ok : CallOk PR 223 (fn2 cTh.agg cTh.agg cTh.agg taddW) :=
 .inl ⟨entersB (by kernel_rfl), pure2 tadd_ctx (fun p u => tadd_gives thO dblW p u)⟩
end Go.Rq

namespace Go.Rq
open Go Go.Proofs
def kTup3 {α β γ : Type} (A : Cod α) (B : Cod β) (C : Cod γ) (hA : ∀ x, flatA (A.enc x) = some (A.val x)) (hB : ∀ x, flatA (B.enc x) = some (B.val x)) (hC : ∀ x, flatA (C.enc x) = some (C.val x)) : Cod (α × β × γ) where
 enc x := .tup [A.enc x.1, B.enc x.2.1, C.enc x.2.2]
 dec a := match a with
  | .tup [a, b, c] => match A.dec a, B.dec b, C.dec c with
   | some x, some y, some z => some (x, y, z)
   | _, _, _ => none
  | _ => none
 val x := .tuple #[A.val x.1, B.val x.2.1, C.val x.2.2]
 h1 x := by simp [flat, flatsA, hA, hB, hC]
 h2 ρ a v x h r := by
  split at h
  . split at h
    . rename_i p q s hp hq hs
      simp at h; subst h
      obtain ⟨xs, rfl, hx⟩ := r.tup_iff
      obtain ⟨v0, y0, e0, h0, r0⟩ := hx.uncons
      obtain ⟨v1, y1, e1, h1, r1⟩ := r0.uncons
      obtain ⟨v2, y2, e2, h2, r2⟩ := r1.uncons
      have e3 := r2.unnil
      subst e3; subst e2; subst e1
      rw [A.h2 ρ _ _ _ hp h0, B.h2 ρ _ _ _ hq h1, C.h2 ρ _ _ _ hs h2] at e0
      have : xs = #[A.val p, B.val q, C.val s] := by apply Array.ext'; simpa using e0
      rw [this]
    . cases h
  . cases h
def kT3 : Cod (D6 × D6 × Bool) := kTup3 c12.agg c12.agg kBool (fun _ => by kernel_rfl) (fun _ => by kernel_rfl) (fun _ => rfl)
theorem twoFlat (a b : D6) (o : Bool) : flat (.tup [c12.agg.enc a, c12.agg.enc b, .lit o]) = some (kT3.val (a, b, o)) := by kernel_rfl
def twT (t : RO) (i2 : D6 -> D6) (mu : Th -> D6 -> D6 -> D6) : PureTab := (225, fn3 cTh.agg c12.agg c12.agg c12.agg mu) :: (224, fn1 c12.agg c12.agg i2) :: roT t
def twP (mu : Th -> D6 -> D6 -> D6) (p : Th) (z : D6) : D6 × D6 × Bool := (mu p p.x (mu p z z), mu p p.y (mu p (mu p z z) z), true)
def twA (mu : Th -> D6 -> D6 -> D6) (p : Th) (z : D6) : AV := .tup [c12.agg.enc (twP mu p z).1, c12.agg.enc (twP mu p z).2.1, .lit true]
theorem two_run (t : RO) (i2 : D6 -> D6) (mu : Th -> D6 -> D6 -> D6) (p : Th) : (afunR PR (envOf eqsT (twT t i2 mu)) [10, 14] (fun _ => none) 40 191 [cTh.agg.enc p]).strict =
 .br (eqD p.z zeroD) (.leaf (.tup [c12.agg.enc zeroD, c12.agg.enc zeroD, .lit false])) (.br p.one (.leaf (twA mu p ⟨t.iv t.fp p.z.a, zeroW⟩)) (.leaf (twA mu p (i2 p.z)))) := by kernel_rfl
def twG (t : RO) (i2 : D6 -> D6) (mu : Th -> D6 -> D6 -> D6) (p : Th) : D6 × D6 × Bool := bif eqD p.z zeroD then (zeroD, zeroD, false) else bif p.one then twP mu p ⟨t.iv t.fp p.z.a, zeroW⟩ else twP mu p (i2 p.z)
theorem two_gives (t : RO) (i2 : D6 -> D6) (mu : Th -> D6 -> D6 -> D6) (p : Th) : Gives (afunR PR (envOf eqsT (twT t i2 mu)) [10, 14] (fun _ => none) 40 191 [cTh.agg.enc p]) (kT3.val (twG t i2 mu p)) :=
 givesOf (two_run t i2 mu p) (holds_br (B := kT3) (holds_leaf (twoFlat zeroD zeroD false)) (holds_br (B := kT3) (holds_leaf (twoFlat _ _ true)) (holds_leaf (twoFlat _ _ true))))
theorem two_ctx : Ctx PR (envOf eqsT (twT roO (rinv2G roO) thmW)) [10, 14] (fun _ => none) 40 191 :=
 ctxB (envOf_ok eqsT_ok (TabPOk.cons thm_ok (TabPOk.cons rinv2_ok roT_ok))) mixed (by kernel_rfl)
def twW : Th -> D6 × D6 × Bool := twG roO (rinv2G roO) thmW
theorem two_ok : CallOk PR 191 (fn1 cTh.agg kT3 twW) :=
 .inl ⟨entersB (by kernel_rfl), pure1 two_ctx (fun p => two_gives roO (rinv2G roO) thmW p)⟩
structure MO where
 dbl : Th -> Th
 ad : Th -> Th -> Th
def moT (t : MO) : PureTab := [(222, fn1 cTh.agg cTh.agg t.dbl), (223, fn2 cTh.agg cTh.agg cTh.agg t.ad)]
def moO : MO := ⟨dblW, taddW⟩
theorem moT_eq : [(222, fn1 cTh.agg cTh.agg dblW), (223, fn2 cTh.agg cTh.agg cTh.agg taddW)] = moT moO := by kernel_rfl
theorem moT_ok : TabPOk PR (moT moO) := Eq.subst (motive := TabPOk PR) moT_eq (TabPOk.cons dbl_ok (TabPOk.cons tadd_ok TabPOk.nil))
noncomputable def muE (t : MO) : Env := envL eqsT (moT t) [] [] true
theorem muE_ok : EnvOk PR (muE moO) := envL_ok eqsT_ok moT_ok TabHOk.nil TabLOk.nil
def muK : Keep := ⟨[1, 2, 4, 5, 6], [0, 1, 2, 6], 13⟩
@[irreducible] noncomputable def muX (t : MO) (p : Th) (w : W6) (len cap : Nat) : XS := entryOf PR (muE t) [15, 29] (fun _ => none) 10 190 [cTh.agg.enc p, .slc 0 0 len cap] (oneAH c6 36 w) 1 0 muK
@[irreducible] noncomputable def muI (t : MO) (p : Th) (w : W6) (len cap : Nat) (d : Int × Th) : XS := ((muX t p w len cap).setT 6 (.v (.int .i64 d.1))).setB 6 (cTh.enc d.2)
@[irreducible] noncomputable def muC : Code := roundOf PR 190 0
def muCond (z : Int) (len : Nat) : Bool := decide (0 <= Int.tmod z 64) && (decide (0 + (quo64 z).toNat * 1 < 6) && (decide (0 <= quo64 z /\ quo64 z < (len : Int)) && true))
def muR (t : MO) (p : Th) (w : W6) (len : Nat) (I : Int × Th -> XS) (z : Int) (o : Th) : Tree (AExit × XS) :=
 .br (decide (z >= 0))
  (.br (((w.get (0 + (quo64 z).toNat * 1) >>> Nat.min (Int.tmod z 64).toNat 64) &&& bitW true) == bitW true)
   (.need (muCond z len) (.leaf (.normal, I (IntKind.i64.wrap (z - 1), t.ad (t.dbl o) p))))
   (.need (muCond z len) (.leaf (.normal, I (IntKind.i64.wrap (z - 1), t.dbl o)))))
  (.leaf (.exit 0, I (z, o)))
set_option maxRecDepth 100000 in
theorem mu_round (t : MO) (p o : Th) (w : W6) (len cap : Nat) (z : Int) : Tree.but [2] 0 (roundT PR (muE t) [15, 29] (fun _ => none) 10 muK muK muK muC (muI t p w len cap (z, o))) = muR t p w len (muI t p w len cap) z o := by kernel_rfl
def multG (t : MO) (p : Th) (w : W6) : Nat -> Th -> Th
 | 0, o => o
 | k + 1, o => multG t p w k (bif w.bit k then t.ad (t.dbl o) p else t.dbl o)
def multW (p : Th) (w : W6) (len : Nat) : Th := multG moO p w (64 * len) (noneT p.one)
theorem mu_law (t : MO) (p : Th) (w : W6) (len : Nat) (hlen : len <= 6) (rt : XS -> Tree (AExit × XS)) (I : Int × Th -> XS) (hr : ∀ (z : Int) (o : Th), Tree.but [2] 0 (rt (I (z, o))) = muR t p w len I z o)
 {R : Th} {Q : AExit -> XS -> Prop} (hK : Q .normal (I (-1, R))) :
 ∀ d : Int × Th, (-1 <= d.1 /\ d.1 < 64 * (len : Int) /\ multG t p w (d.1 + 1).toNat d.2 = R) -> (rt (I d)).holds (fun r => match r.1 with
  | .normal => ∃ j : Int × Th, (-1 <= j.1 /\ j.1 < 64 * (len : Int) /\ multG t p w (j.1 + 1).toNat j.2 = R) /\ (j.1 + 1).toNat < (d.1 + 1).toNat /\ r.2 = I j
  | .exit q => if q = 0 then Q .normal r.2 else Q (.exit q) r.2
  | .ret => Q .ret r.2) := by
 rintro ⟨z, o⟩ ⟨h0, h1, h2⟩
 simp only at h0 h1
 apply Tree.holds_but (l := [2]) (i := 0)
 rw [hr]
 unfold muR
 refine ⟨fun hz => ?_, fun hz => ?_⟩
 . have hz : 0 <= z := by simpa using hz
   have hq := quo64_eq (z := z) hz (by omega)
   have hm : Int.tmod z 64 = z % 64 := Int.tmod_eq_emod_of_nonneg hz
   have hw : IntKind.i64.wrap (z - 1) = z - 1 := wrap_id (by omega) (by omega)
   have hc : muCond z len = true := by
    unfold muCond
    rw [hq, hm]
    simp
    omega
   have hk : (z + 1).toNat = z.toNat + 1 := by omega
   have hg : (((w.get (0 + (quo64 z).toNat * 1) >>> Nat.min (Int.tmod z 64).toNat 64) &&& bitW true) == bitW true) = w.bit z.toNat := by
    have e1 : 0 + (quo64 z).toNat * 1 = z.toNat / 64 := by rw [hq]; omega
    have e2 : Nat.min (Int.tmod z 64).toNat 64 = z.toNat % 64 := by rw [hm]; show min _ _ = _; omega
    rw [e1, e2]
    rfl
   rw [hg]
   simp only at h2
   rw [hk] at h2
   simp only [multG] at h2
   have hk' : (z - 1 + 1).toNat = z.toNat := by omega
   refine ⟨fun hb => ⟨hc, ⟨z - 1, t.ad (t.dbl o) p⟩, ⟨by simp only; omega, by simp only; omega, ?_⟩, ?_, ?_⟩, fun hb => ⟨hc, ⟨z - 1, t.dbl o⟩, ⟨by simp only; omega, by simp only; omega, ?_⟩, ?_, ?_⟩⟩
   . rw [hb] at h2
     simp only [hk']
     exact h2
   . show (z - 1 + 1).toNat < (z + 1).toNat
     omega
   . rw [hw]
   . rw [hb] at h2
     simp only [hk']
     exact h2
   . show (z - 1 + 1).toNat < (z + 1).toNat
     omega
   . rw [hw]
 . have hz : z = -1 := by
    have : ¬ 0 <= z := by simpa using hz
    omega
   subst hz
   have h2 : o = R := h2
   show (if (0 : Nat) = 0 then Q .normal (I (-1, o)) else Q (.exit 0) (I (-1, o)))
   rw [if_pos rfl, h2]
   exact hK
@[irreducible] noncomputable def muB (t : MO) (p : Th) (w : W6) (len cap : Nat) (r : Th) : BEnt := ⟨muK.tm, muK.ids, muK.n, muX t p w len cap, .leaf (.normal, muI t p w len cap (-1, r))⟩
theorem muB_n (t : MO) (p : Th) (w : W6) (len cap : Nat) (r : Th) : (muB t p w len cap r).n = 13 /\ (muB t p w len cap r).pre = muX t p w len cap /\ (muB t p w len cap r).post = .leaf (.normal, muI t p w len cap (-1, r)) := by
 unfold muB
 exact ⟨rfl, rfl, rfl⟩
def afunT (P : Program) (E : Env) (sym : List Tmp) (tab : BTab) (lf f : Nat) (args : List AV) (h : AH) (n : Nat) : Tree AV := (afun P E sym tab lf f args h n).bind fun q => .leaf q.1
theorem givesT {P : Program} {E : Env} {sym : List Tmp} {tab : BTab} {lf f : Nat} {args : List AV} {h : AH} {n : Nat} {u : Tree AV} {v : Value} (e : (afunT P E sym tab lf f args h n).strict = u) (hu : u.holds (fun q => flat q = some v)) :
 GivesH (afun P E sym tab lf f args h n) v := ⟨Tree.holds_bind (Tree.holds_strict (by rw [show ((afun P E sym tab lf f args h n).bind fun q => Tree.leaf q.1).strict = u from e]; exact hu))⟩
set_option maxRecDepth 100000 in
theorem mu_run (t : MO) (p : Th) (w : W6) (len cap : Nat) (r : Th) : (afunT PR (muE t) [15, 29] (tabOf [(0, muB t p w len cap r)]) 10 190 [cTh.agg.enc p, .slc 0 0 len cap] (oneAH c6 36 w) 1).strict =
 .same (muX t p w len cap) (muX t p w len cap) (.leaf (cTh.agg.enc r)) := by kernel_rfl
set_option maxRecDepth 100000 in
theorem mu_head (t : MO) (p : Th) (w : W6) (len cap : Nat) : muX t p w len cap = muI t p w len cap (IntKind.i64.wrap (IntKind.i64.wrap (64 * (len : Int)) - 1), noneT p.one) := by kernel_rfl
theorem mu_blk : blkAll 0 (bodyOf PR 190) = [.loop muC] := by kernel_rfl
theorem mu_codeOk : codeOk (muE moO) muC = true := by kernel_rfl
theorem mu_start (p : Th) (w : W6) (len : Nat) (hlen : len <= 6) : ∀ d : Int × Th, d = (IntKind.i64.wrap (IntKind.i64.wrap (64 * (len : Int)) - 1), noneT p.one) -> -1 <= d.1 /\ d.1 < 64 * (len : Int) /\ multG moO p w (d.1 + 1).toNat d.2 = multW p w len := by
 rintro d rfl
 have e1 : IntKind.i64.wrap (64 * (len : Int)) = 64 * (len : Int) := wrap_id (by omega) (by omega)
 have e2 : IntKind.i64.wrap (64 * (len : Int) - 1) = 64 * (len : Int) - 1 := wrap_id (by omega) (by omega)
 rw [e1, e2]
 refine ⟨by simp only; omega, by simp only; omega, ?_⟩
 show multG moO p w (64 * (len : Int) - 1 + 1).toNat (noneT p.one) = multG moO p w (64 * len) (noneT p.one)
 rw [show (64 * (len : Int) - 1 + 1).toNat = 64 * len by omega]
theorem mu_loop (p : Th) (w : W6) (len cap : Nat) (hlen : len <= 6) {Fr0 : Fr} {ds : List Deferred} {Q : AExit -> XS -> Prop} (hK : Q .normal (muI moO p w len cap (-1, multW p w len))) :
 Tri PR Fr0 ds 1 (.block 0 (.loop muC)) (muX moO p w len cap) Q :=
 Eq.subst (motive := fun y => Tri PR Fr0 ds 1 (.block 0 (.loop muC)) y Q) (mu_head moO p w len cap).symm <| blockLoop (m := 1) muE_ok mixed (sym := [15, 29]) (tab := fun _ => none) (lf := 10) (k := muK) (kx := muK) (kr := muK) (by decide) (by decide) (by decide) mu_codeOk (tabOk_none _)
  (muI moO p w len cap) (fun d => -1 <= d.1 /\ d.1 < 64 * (len : Int) /\ multG moO p w (d.1 + 1).toNat d.2 = multW p w len) (fun d => (d.1 + 1).toNat) _ (mu_start p w len hlen _ rfl)
  (mu_law moO p w len hlen _ (muI moO p w len cap) (fun z o => mu_round moO p o w len cap z) hK)
set_option maxRecDepth 100000
def le6 (n : Nat) : Bool := Nat.ble n 6
theorem mu_okH : HeapOk PR 190 (slv 36 cTh.agg c6 cTh.agg le6 multW) :=
 slv_ok (E := muE moO) (sym := [15, 29]) (lf := 10) (tab := fun p w len cap => tabOf [(0, muB moO p w len cap (multW p w len))]) muE_ok mixed (fn := Tryz.f190) (c := bodyOf PR 190) (by kernel_rfl) (by kernel_rfl) (by kernel_rfl)
  (fun p w len cap hk => tabOk_one (by rw [(muB_n moO p w len cap (multW p w len)).1]; decide) mu_blk fun Fr0 ds Q h => by
   obtain ⟨-, h2, h3⟩ := muB_n moO p w len cap (multW p w len)
   rw [h3] at h
   rw [h2]
   exact mu_loop p w len cap (Nat.le_of_ble_eq_true hk) h)
  (fun p w len cap _ => givesT (mu_run moO p w len cap (multW p w len)) ⟨rfl, cTh.agg.h1 _⟩)
theorem mu_ent : Enters PR 190 := entersB (by kernel_rfl)
end Go.Rq

namespace Go.Rq
open Go Go.Proofs
def wdK (ln : W6 -> Int) (n : W6) : Int := quo64 (IntKind.i64.wrap (ln n + 63))
def wdL (ln : W6 -> Int) (n : W6) : Nat := (wdK ln n).toNat - 0
def wdCond (k : Int) : Bool := (decide (0 <= k /\ k <= ((6 : Nat) : Int)) && decide ((0 : Int) <= 0 /\ (0 : Int) <= k)) && true
def wdT (ln : W6 -> Int) : PureTab := [(192, fn1 c6.agg (kInt .i64) ln)]
theorem words_run (ln : W6 -> Int) (n : W6) : Tree.but [2] 0 (afunS PR (envOf eqsT (wdT ln)) [] 40 141 36 [c6.agg.enc n]) =
 .need (wdCond (wdK ln n)) (.leaf (.tup [.slc 0 0 (wdL ln n) 6, .agg (c6.enc n)])) := by kernel_rfl
theorem words_ctx : Ctx PR (envOf eqsT (wdT rlenI)) [] (fun _ => none) 40 141 :=
 ctxB (envOf_ok eqsT_ok (TabPOk.cons rlen_ok TabPOk.nil)) mixed (by kernel_rfl)
theorem wdK_eq (n : W6) : wdK rlenI n = (rlenI n + 63) / 64 := by
 have h := rlenI_le n
 unfold wdK quo64
 rw [wrap_id (n := rlenI n + 63) (by omega) (by omega), Int.tdiv_eq_ediv_of_nonneg (by omega), wrap_id (by omega) (by omega)]
theorem wdL_le (n : W6) : wdL rlenI n <= 6 /\ (rlenI n).toNat <= 64 * wdL rlenI n := by
 have h := rlenI_le n
 unfold wdL
 rw [wdK_eq]
 omega
theorem words_okL : LayOk PR 141 (layS c6.agg 36 c6 (wdL rlenI) 6 (fun n => n)) :=
 layS_ok words_ctx fun n => Tree.holds_but (l := [2]) (i := 0) (by
  rw [words_run]
  refine ⟨?_, rfl⟩
  have h := rlenI_le n
  unfold wdCond
  rw [wdK_eq]
  simp
  omega)
theorem words_ent : Enters PR 141 := entersB (by kernel_rfl)
def thOf (p : Ap W6) : Th := ⟨⟨p.x, zeroW⟩, ⟨p.y, zeroW⟩, ⟨numOne, zeroW⟩, true⟩
def maT (tw : Th -> D6 × D6 × Bool) : PureTab := [(191, fn1 cTh.agg kT3 tw)]
noncomputable def maE (tw : Th -> D6 × D6 × Bool) (ok : Nat -> Bool) (mu : Th -> W6 -> Nat -> Th) : Env := envL eqsT (maT tw) [(190, slv 36 cTh.agg c6 cTh.agg ok mu)] [] false
set_option maxRecDepth 100000 in
theorem many_run (tw : Th -> D6 × D6 × Bool) (ok : Nat -> Bool) (mu : Th -> W6 -> Nat -> Th) (p : Ap W6) (w : W6) (len cap : Nat) : Tree.but [3] 0 (afunT PR (maE tw ok mu) [10, 33] (fun _ => none) 40 140 [aW.agg.enc p, .slc 0 0 len cap] (oneAH c6 36 w) 1) =
 .br p.zero (.leaf (aW.agg.enc p)) (.need (ok len && true) (.br (!(tw (mu (thOf p) w len)).2.2) (.leaf (apA ⟨zeroW, zeroW, true⟩ true)) (.leaf (apA ⟨(tw (mu (thOf p) w len)).1.a, (tw (mu (thOf p) w len)).2.1.a, false⟩ false)))) := by kernel_rfl
def manyG (tw : Th -> D6 × D6 × Bool) (mu : Th -> W6 -> Nat -> Th) (p : Ap W6) (w : W6) (len : Nat) : Ap W6 :=
 bif p.zero then p else bif !(tw (mu (thOf p) w len)).2.2 then ⟨zeroW, zeroW, true⟩ else ⟨(tw (mu (thOf p) w len)).1.a, (tw (mu (thOf p) w len)).2.1.a, false⟩
theorem givesU {P : Program} {E : Env} {sym : List Tmp} {tab : BTab} {lf f : Nat} {args : List AV} {h : AH} {n : Nat} {l : List Nat} {u : Tree AV} {v : Value} (e : Tree.but l 0 (afunT P E sym tab lf f args h n) = u) (hu : u.holds (fun q => flat q = some v)) :
 GivesH (afun P E sym tab lf f args h n) v := ⟨Tree.holds_bind (Tree.holds_but (l := l) (i := 0) (by rw [show Tree.but l 0 ((afun P E sym tab lf f args h n).bind fun q => Tree.leaf q.1) = u from e]; exact hu))⟩
theorem many_gives (tw : Th -> D6 × D6 × Bool) (ok : Nat -> Bool) (mu : Th -> W6 -> Nat -> Th) (p : Ap W6) (w : W6) (len cap : Nat) (hk : ok len = true) :
 GivesH (afun PR (maE tw ok mu) [10, 33] (fun _ => none) 40 140 [aW.agg.enc p, .slc 0 0 len cap] (oneAH c6 36 w) 1) (aW.agg.val (manyG tw mu p w len)) :=
 givesU (many_run tw ok mu p w len cap) (holds_br (B := aW.agg) (holds_leaf (aW.agg.h1 _)) ⟨by rw [hk]; rfl, holds_br (B := aW.agg) (holds_leaf (apA_flat _ _ rfl)) (holds_leaf (apA_flat _ _ rfl))⟩)
theorem maE_ok : EnvOk PR (maE twW le6 multW) := envL_ok eqsT_ok (TabPOk.cons two_ok TabPOk.nil) (TabHOk.cons mu_ent mu_okH TabHOk.nil) TabLOk.nil
def manyW : Ap W6 -> W6 -> Nat -> Ap W6 := manyG twW multW
theorem many_okH : HeapOk PR 140 (slv 36 aW.agg c6 aW.agg le6 manyW) :=
 slv_ok (E := maE twW le6 multW) (sym := [10, 33]) (lf := 40) (tab := fun _ _ _ _ => fun _ => none) maE_ok mixed (fn := Tryz.f140) (c := bodyOf PR 140) (by kernel_rfl) (by kernel_rfl) (by kernel_rfl)
  (fun _ _ _ _ _ => tabOk_none _) (fun p w len cap hk => many_gives twW le6 multW p w len cap hk)
theorem many_ent : Enters PR 140 := entersB (by kernel_rfl)
noncomputable def mlE (ok : Nat -> Bool) (ma : Ap W6 -> W6 -> Nat -> Ap W6) (L : W6 -> Nat) : Env :=
 envL eqsT [] [(140, slv 36 aW.agg c6 aW.agg ok ma)] [(141, layS c6.agg 36 c6 L 6 (fun n => n))] false
theorem mul1_run (ok : Nat -> Bool) (ma : Ap W6 -> W6 -> Nat -> Ap W6) (L : W6 -> Nat) (p : Ap W6) (n : W6) : Tree.but [1] 0 (afunR PR (mlE ok ma L) [] (fun _ => none) 40 88 [aW.agg.enc p, c6.agg.enc n]) =
 .need (ok (L n) && true) (.leaf (aW.agg.enc (ma p n (L n)))) := by kernel_rfl
theorem mlE_ok : EnvOk PR (mlE le6 manyW (wdL rlenI)) := envL_ok eqsT_ok TabPOk.nil (TabHOk.cons many_ent many_okH TabHOk.nil) (TabLOk.cons words_ent words_okL TabLOk.nil)
theorem mul1_ctx : Ctx PR (mlE le6 manyW (wdL rlenI)) [] (fun _ => none) 40 88 :=
 ctxB mlE_ok mixed (by kernel_rfl)
theorem givesB {t u : Tree AV} {v : Value} {l : List Nat} (e : Tree.but l 0 t = u) (hu : u.holds (fun q => flat q = some v)) : Gives t v := ⟨Tree.holds_but (l := l) (i := 0) (by rw [e]; exact hu)⟩
theorem mul1_gives (ok : Nat -> Bool) (ma : Ap W6 -> W6 -> Nat -> Ap W6) (L : W6 -> Nat) (p : Ap W6) (n : W6) (h : ok (L n) = true) : Gives (afunR PR (mlE ok ma L) [] (fun _ => none) 40 88 [aW.agg.enc p, c6.agg.enc n]) (aW.agg.val (ma p n (L n))) :=
 givesB (mul1_run ok ma L p n) ⟨by rw [h]; rfl, aW.agg.h1 _⟩
def rmul1 (p : Ap W6) (n : W6) : Ap W6 := manyW p n (wdL rlenI n)
theorem rmul1_ok : CallOk PR 88 (fn2 aW.agg c6.agg aW.agg rmul1) :=
 .inl ⟨entersB (by kernel_rfl), pure2 mul1_ctx (fun p n => mul1_gives le6 manyW (wdL rlenI) p n (Nat.ble_eq_true_of_le (wdL_le n).1))⟩
def rinT1 (ck : Ap W6 -> Bool) (od : W6) (ml : Ap W6 -> W6 -> Ap W6) : PureTab := [(138, fn1 aW.agg kBool ck), (92, fn0 c6.agg od), (88, fn2 aW.agg c6.agg aW.agg ml)]
theorem rin1_run (ck : Ap W6 -> Bool) (od : W6) (ml : Ap W6 -> W6 -> Ap W6) (p : Ap W6) : (afunR PR (envOf eqsT (rinT1 ck od ml)) [5] (fun _ => none) 40 86 [aW.agg.enc p]).strict =
 .br (ck p) (.leaf (kBool.enc (ml p od).zero)) (.leaf (.lit false)) := by kernel_rfl
def rin1G (ck : Ap W6 -> Bool) (od : W6) (ml : Ap W6 -> W6 -> Ap W6) (p : Ap W6) : Bool := bif ck p then (ml p od).zero else false
theorem rin1_gives (ck : Ap W6 -> Bool) (od : W6) (ml : Ap W6 -> W6 -> Ap W6) (p : Ap W6) : Gives (afunR PR (envOf eqsT (rinT1 ck od ml)) [5] (fun _ => none) 40 86 [aW.agg.enc p]) (kBool.val (rin1G ck od ml p)) :=
 givesOf (rin1_run ck od ml p) (holds_br (B := kBool) (holds_leaf (kBool.h1 _)) (holds_leaf (a := .lit false) (v := kBool.val false) rfl))
def rin1 : Ap W6 -> Bool := rin1G rcheck1 orderW rmul1
theorem rin1_ctx : Ctx PR (envOf eqsT (rinT1 rcheck1 orderW rmul1)) [5] (fun _ => none) 40 86 :=
 ctxB (envOf_ok eqsT_ok (TabPOk.cons rck_ok (TabPOk.cons rorder_ok (TabPOk.cons rmul1_ok TabPOk.nil)))) mixed (by kernel_rfl)
theorem rin1_ok : CallOk PR 86 (fn1 aW.agg kBool rin1) :=
 .inl ⟨entersB (by kernel_rfl), pure1 rin1_ctx (fun p => rin1_gives rcheck1 orderW rmul1 p)⟩
def noneP : Ap W6 := ⟨zeroW, zeroW, false⟩
section
variable {K : Type} [Rg K] {iv : K -> K} {e : K -> K -> Bool}
structure TRel (S : K -> D6 -> Prop) (o : Bool) (e : K -> K -> Bool) (t : TH) : Prop where
 mu : ∀ {p : Th} {x y : K} {a b : D6}, p.one = o -> S x a -> S y b -> S (x * y) (t.mu p a b)
 tm : ∀ {x : K} {a : D6} (s : Sm), S x a -> S (tmK x s.n) (t.tm a s)
 sb : ∀ {x y : K} {a b : D6}, S x a -> S y b -> S (x - y) (t.sb a b)
 zero : S 0 zeroD
 eq : ∀ {x y : K} {a b : D6}, S x a -> S y b -> e x y = eqD a b
structure TJ (S : K -> D6 -> Prop) (o : Bool) (p : Jp K) (q : Th) : Prop where
 x : S p.x q.x
 y : S p.y q.y
 z : S p.z q.z
 one : q.one = o
variable {S : K -> D6 -> Prop} {o : Bool} {t : TH}
theorem noneT_rel (h : TRel S o e t) {b : Bool} (hq : b = o) : TJ S o noneJ (noneT b) := ⟨h.zero, h.zero, h.zero, hq⟩
theorem dblF_rel (h : TRel S o e t) {p : Jp K} {q : Th} (hp : TJ S o p q) : TJ S o (dblF p) (dblP t q) := by
 have yy := h.mu hp.one hp.y hp.y
 have s := h.tm .n4 (h.mu hp.one hp.x yy)
 have m := h.tm .n3 (h.mu hp.one hp.x hp.x)
 have x := h.sb (h.mu hp.one m m) (h.tm .n2 s)
 exact ⟨x, h.sb (h.mu hp.one m (h.sb s x)) (h.tm .n8 (h.mu hp.one yy yy)), h.tm .n2 (h.mu hp.one hp.y hp.z), hp.one⟩
theorem dbl_rel (h : TRel S o e t) {p : Jp K} {q : Th} (hp : TJ S o p q) : TJ S o (dblK e p) (dblG t q) := by
 unfold dblK dblG
 rw [h.eq hp.z h.zero, h.eq hp.y h.zero]
 cases eqD q.z zeroD
 . cases eqD q.y zeroD
   . exact dblF_rel h hp
   . exact noneT_rel h hp.one
 . exact noneT_rel h hp.one
theorem hK_rel (h : TRel S o e t) {p u : Jp K} {q v : Th} (hp : TJ S o p q) (hu : TJ S o u v) : S (hK p u) (tAddH t q v) := h.sb (h.mu hp.one hu.x (h.mu hp.one hp.z hp.z)) hp.x
theorem kK_rel (h : TRel S o e t) {p u : Jp K} {q v : Th} (hp : TJ S o p q) (hu : TJ S o u v) : S (kK p u) (tAddK t q v) := h.sb (h.mu hp.one hu.y (h.mu hp.one (h.mu hp.one hp.z hp.z) hp.z)) hp.y
theorem addF_rel (h : TRel S o e t) {p u : Jp K} {q v : Th} (hp : TJ S o p q) (hu : TJ S o u v) (D : Th -> Th) : TJ S o (addF p u) (addP t D q v) := by
 have hh := hK_rel h hp hu
 have k := kK_rel h hp hu
 have h2 := h.mu hp.one hh hh
 have h3 := h.mu hp.one h2 hh
 have w := h.mu hp.one hp.x h2
 have x := h.sb (h.sb (h.mu hp.one k k) h3) (h.tm .n2 w)
 exact ⟨x, h.sb (h.mu hp.one k (h.sb w x)) (h.mu hp.one hp.y h3), h.mu hp.one hp.z hh, hp.one⟩
theorem add_rel (h : TRel S o e t) {p u : Jp K} {q v : Th} (hp : TJ S o p q) (hu : TJ S o u v) : TJ S o (addK e p u) (addG t (dblG t) q v) := by
 unfold addK addG
 rw [h.eq hp.z h.zero, h.eq (hK_rel h hp hu) h.zero, h.eq (kK_rel h hp hu) h.zero]
 cases eqD q.z zeroD
 . cases eqD (tAddH t q v) zeroD
   . exact addF_rel h hp hu (dblG t)
   . cases eqD (tAddK t q v) zeroD
     . exact noneT_rel h hp.one
     . exact dbl_rel h hp
 . exact hu
theorem mult_rel (h : TRel S o e t) {p : Jp K} {q : Th} (hp : TJ S o p q) (w : W6) : ∀ (k : Nat) {u : Jp K} {v : Th}, TJ S o u v -> TJ S o (multK e w.bit p k u) (multG ⟨dblG t, addG t (dblG t)⟩ q w k v)
 | 0, u, v, hu => hu
 | k + 1, u, v, hu => by
  simp only [multK, multG]
  apply mult_rel h hp w k
  cases w.bit k
  . exact dbl_rel h hu
  . exact add_rel h (dbl_rel h hu) hp
theorem two_rel (h : TRel S o e t) {r : RO} {i2 : D6 -> D6} (hi : ∀ {x : K} {a : D6}, S x a -> S (iv x) (bif o then ⟨r.iv r.fp a.a, zeroW⟩ else i2 a)) {p : Jp K} {q : Th} (hp : TJ S o p q) :
 (twG r i2 t.mu q).2.2 = !(lowK iv e p).zero /\ S (lowK iv e p).x (twG r i2 t.mu q).1 /\ S (lowK iv e p).y (twG r i2 t.mu q).2.1 := by
 have low : ∀ {d : D6}, S (iv p.z) d -> S (p.x * (iv p.z * iv p.z)) (twP t.mu q d).1 /\ S (p.y * ((iv p.z * iv p.z) * iv p.z)) (twP t.mu q d).2.1 := fun {d} hd =>
  ⟨h.mu hp.one hp.x (h.mu hp.one hd hd), h.mu hp.one hp.y (h.mu hp.one (h.mu hp.one hd hd) hd)⟩
 unfold twG lowK
 rw [h.eq hp.z h.zero]
 cases eqD q.z zeroD
 . have hz := hi hp.z
   rw [hp.one]
   cases ho : o
   . rw [ho, cond_false] at hz
     exact ⟨rfl, low hz⟩
   . rw [ho, cond_true] at hz
     exact ⟨rfl, low hz⟩
 . exact ⟨rfl, h.zero, h.zero⟩
end
theorem bit_out (n : W6) {i : Nat} (h : 384 <= i) : n.bit i = false := by
 unfold W6.bit
 have : n.get (i / 64) = 0#64 := by
  unfold W6.get
  rw [List.getD_eq_getElem?_getD, List.getElem?_eq_none (by simp; omega)]
  rfl
 rw [this, BitVec.zero_ushiftRight]
 rfl
theorem bitI_bit (n : W6) (i : Nat) : (bitI n (i : Int) == 1) = n.bit i := by
 unfold bitI
 rw [show decide ((i : Int) < 0) = false from decide_eq_false (by omega)]
 by_cases h : 384 <= i
 . rw [show decide ((i : Int) >= 384) = true from decide_eq_true (by omega), bit_out n h]; rfl
 . rw [show decide ((i : Int) >= 384) = false from decide_eq_false (by omega)]
   rw [show ((i : Int)).toNat = i from rfl]
   cases n.bit i <;> rfl
theorem rlenL_zero (B : W6 -> Int -> Int) (n : W6) : ∀ (k i : Nat), i < k -> chainV (rlenL B n k) 0 <= (i : Int) -> (B n (i : Int) == 1) = false
 | 0, i, h, _ => by omega
 | k + 1, i, h, hc => by
  simp only [rlenL, chainV] at hc
  cases hb : B n (k : Int) == 1 with
  | true =>
   rw [hb, cond_true] at hc
   omega
  | false =>
   rw [hb, cond_false] at hc
   by_cases he : i = k
   . subst he; exact hb
   . exact rlenL_zero B n k i (by omega) hc
theorem rlen_bits (n : W6) {i : Nat} (h : (rlenI n).toNat <= i) : n.bit i = false := by
 by_cases hi : 384 <= i
 . exact bit_out n hi
 . rw [<- bitI_bit]
   refine rlenL_zero bitI n 384 i (by omega) ?_
   have := (rlenI_le n).1
   show rlenI n <= (i : Int)
   omega
theorem word_bit (w : BitVec 64) {j : Nat} (h : w.toNat < 2 ^ j) : (((w >>> j) &&& 1#64) == 1#64) = false := by
 have : w >>> j = 0#64 := by
  apply BitVec.eq_of_toNat_eq
  rw [BitVec.toNat_ushiftRight, Nat.shiftRight_eq_div_pow, Nat.div_eq_of_lt h]
  rfl
 rw [this]
 rfl
theorem bl_bits {w : BitVec 64} {j : Nat} (h : bl w.toNat <= j) : (((w >>> j) &&& 1#64) == 1#64) = false := word_bit w (bl_spec.1 h)
theorem bl_le (x : BitVec 64) : bl x.toNat <= 64 := bl_spec.2 x.isLt
theorem len_step {w : BitVec 64} {k : Int} {l : List (Bool × Int)} {i : Nat} (h0 : 0 <= k) (h1 : k <= 320) (h : chainV ((w != 0#64, IntKind.i64.wrap (k + ((bl w.toNat : Nat) : Int))) :: l) 0 <= (i : Int)) :
 k + ((bl w.toNat : Nat) : Int) <= (i : Int) \/ (w = 0#64 /\ chainV l 0 <= (i : Int)) := by
 have hb := bl_le w
 simp only [chainV] at h
 cases hc : w != 0#64 with
 | true =>
  rw [hc, cond_true, wrap_id (by omega) (by omega)] at h
  exact .inl h
 | false =>
  rw [hc, cond_false] at h
  exact .inr ⟨by simpa using hc, h⟩
theorem len_bits (n : W6) {i : Nat} (h : (lenI n).toNat <= i) : n.bit i = false := by
 by_cases hi : 384 <= i
 . exact bit_out n hi
 have h0 := (lenI_le n).1
 have h' : lenI n <= (i : Int) := by omega
 have z : ∀ j, (((0#64 >>> j) &&& 1#64) == 1#64) = false := fun j => word_bit 0#64 (by simp; exact Nat.two_pow_pos j)
 have hcases : i / 64 = 0 \/ i / 64 = 1 \/ i / 64 = 2 \/ i / 64 = 3 \/ i / 64 = 4 \/ i / 64 = 5 := by omega
 have gb : ∀ {w : BitVec 64} {k : Nat}, n.get (i / 64) = w -> i / 64 = k -> 64 * (k : Int) + ((bl w.toNat : Nat) : Int) <= (i : Int) -> n.bit i = false := fun {w k} hw hk hl => by
  unfold W6.bit
  rw [hw]
  exact bl_bits (by omega)
 have gz : n.get (i / 64) = 0#64 -> n.bit i = false := fun hw => by
  unfold W6.bit
  rw [hw]
  exact z _
 have b0 := bl_le n.w0; have b1 := bl_le n.w1; have b2 := bl_le n.w2; have b3 := bl_le n.w3; have b4 := bl_le n.w4; have b5 := bl_le n.w5
 have up : ∀ {m : Nat} {x : Nat}, i / 64 < m -> (64 * m + x : Int) <= (i : Int) -> False := fun {m x} h1 h2 => by omega
 unfold lenI lenL at h'
 rcases len_step (by omega) (by omega) h' with h5 | ⟨z5, h'⟩
 . rcases hcases with c | c | c | c | c | c
   . exact (up (m := 5) (by omega) h5).elim
   . exact (up (m := 5) (by omega) h5).elim
   . exact (up (m := 5) (by omega) h5).elim
   . exact (up (m := 5) (by omega) h5).elim
   . exact (up (m := 5) (by omega) h5).elim
   . exact gb (by rw [c]; rfl) c h5
 rcases len_step (by omega) (by omega) h' with h4 | ⟨z4, h'⟩
 . rcases hcases with c | c | c | c | c | c
   . exact (up (m := 4) (by omega) h4).elim
   . exact (up (m := 4) (by omega) h4).elim
   . exact (up (m := 4) (by omega) h4).elim
   . exact (up (m := 4) (by omega) h4).elim
   . exact gb (by rw [c]; rfl) c h4
   . exact gz (by rw [c]; exact z5)
 rcases len_step (by omega) (by omega) h' with h3 | ⟨z3, h'⟩
 . rcases hcases with c | c | c | c | c | c
   . exact (up (m := 3) (by omega) h3).elim
   . exact (up (m := 3) (by omega) h3).elim
   . exact (up (m := 3) (by omega) h3).elim
   . exact gb (by rw [c]; rfl) c h3
   . exact gz (by rw [c]; exact z4)
   . exact gz (by rw [c]; exact z5)
 rcases len_step (by omega) (by omega) h' with h2 | ⟨z2, h'⟩
 . rcases hcases with c | c | c | c | c | c
   . exact (up (m := 2) (by omega) h2).elim
   . exact (up (m := 2) (by omega) h2).elim
   . exact gb (by rw [c]; rfl) c h2
   . exact gz (by rw [c]; exact z3)
   . exact gz (by rw [c]; exact z4)
   . exact gz (by rw [c]; exact z5)
 rcases len_step (by omega) (by omega) h' with h1 | ⟨z1, h'⟩
 . rcases hcases with c | c | c | c | c | c
   . exact (up (m := 1) (by omega) h1).elim
   . exact gb (by rw [c]; rfl) c h1
   . exact gz (by rw [c]; exact z2)
   . exact gz (by rw [c]; exact z3)
   . exact gz (by rw [c]; exact z4)
   . exact gz (by rw [c]; exact z5)
 rcases len_step (by omega) (by omega) h' with h0 | ⟨z0, h'⟩
 . rcases hcases with c | c | c | c | c | c
   . exact gb (by rw [c]; rfl) c h0
   . exact gz (by rw [c]; exact z1)
   . exact gz (by rw [c]; exact z2)
   . exact gz (by rw [c]; exact z3)
   . exact gz (by rw [c]; exact z4)
   . exact gz (by rw [c]; exact z5)
 . rcases hcases with c | c | c | c | c | c
   . exact gz (by rw [c]; exact z0)
   . exact gz (by rw [c]; exact z1)
   . exact gz (by rw [c]; exact z2)
   . exact gz (by rw [c]; exact z3)
   . exact gz (by rw [c]; exact z4)
   . exact gz (by rw [c]; exact z5)
section
variable {K : Type} [Rg K] {iv : K -> K} {e : K -> K -> Bool}
theorem times_run (f : Fl K) (p : Jp K) (n : W6) : ∀ (k : Nat) (u : Jp K), timesG (tOf (foK iv) e) f p n k u = runK iv e f n.bit p k u
 | 0, u => rfl
 | k + 1, u => by
  show timesG (tOf (foK iv) e) f p n k (bif bitI n (k : Int) == 1 then sumE (foK iv) e f (twiceJ (foK iv) u) p else twiceJ (foK iv) u) = _
  rw [bitI_bit, times_run f p n k]
  rfl
def timesF (iv : K -> K) (e : K -> K -> Bool) (f : Fl K) (p : Jp K) (n : W6) : Jp K := timesG (tOf (foK iv) e) f p n (lenI n).toNat ⟨f.one, f.one, 0⟩
def gaF (iv : K -> K) (e : K -> K -> Bool) : GO K := gOf (foK iv) e (timesF iv e)
theorem twice_none {u : Jp K} (hu : u.z = 0) : (twiceJ (foK iv) u).z = 0 := by rw [twice_z, hu]; exact rg [u.y]
theorem run_none (F : Fd K iv e) {f : Fl K} {b : Nat -> Bool} {p : Jp K} (hp : p.z = 0) : ∀ (k : Nat) {u : Jp K}, u.z = 0 -> (runK iv e f b p k u).z = 0
 | 0, u, hu => hu
 | k + 1, u, hu => by
  simp only [runK]
  apply run_none F hp k
  cases b k
  . exact twice_none hu
  . show (sumE (foK iv) e f (twiceJ (foK iv) u) p).z = 0
    unfold sumE
    rw [show (foK iv).zero = (0 : K) from rfl, F.eq.2 (twice_none hu)]
    exact hp
theorem low_none (F : Fd K iv e) {u : Jp K} (hu : u.z = 0) : lowerE (foK iv) e u = ⟨0, 0, true⟩ := by
 unfold lowerE
 rw [show (foK iv).zero = (0 : K) from rfl, F.eq.2 hu]
 rfl
theorem sum_none (F : Fd K iv e) (f : Fl K) {u v : Jp K} (hu : u.z = 0) : sumE (foK iv) e f u v = v := by
 unfold sumE
 rw [show (foK iv).zero = (0 : K) from rfl, F.eq.2 hu]
 rfl
theorem times_low (F : Fd K iv e) {f : Fl K} (hf : f.one = 1) {p : Ap K} (hp : p.zero = true -> p = ⟨0, 0, true⟩) (n : W6) {l : Nat} (hl : (rlenI n).toNat <= l) :
 lowerE (foK iv) e (timesF iv e f (raiseJ (foK iv) f p) n) = bif p.zero then p else lowK iv e (multK e n.bit ⟨p.x, p.y, 1⟩ l noneJ) := by
 unfold timesF
 rw [times_run]
 cases hz : p.zero with
 | true =>
  have hr : (raiseJ (foK iv) f p).z = 0 := by unfold raiseJ; rw [hz]; rfl
  rw [low_none F (run_none F hr _ rfl), cond_true]
  exact (hp hz).symm
 | false =>
  have hr : raiseJ (foK iv) f p = ⟨p.x, p.y, 1⟩ := by unfold raiseJ; rw [hz, hf]; rfl
  rw [hr, cond_false]
  exact low_eq F (run_mult2 F rfl (fun i hi => len_bits n hi) (fun i hi => rlen_bits n (Nat.le_trans hl hi)) rfl rfl)
theorem ga1_low (F : Fd K iv e) {f : Fl K} (hf : f.one = 1) {p : Ap K} (hp : p.zero = true -> p = ⟨0, 0, true⟩) (hon : onE (foK iv) e f p = true) (n : W6) {l : Nat} (hl : (rlenI n).toNat <= l) :
 ga1 (gaF iv e) 0 f p n = (bif p.zero then p else lowK iv e (multK e n.bit ⟨p.x, p.y, 1⟩ l noneJ), 0) := by
 have h : ga1 (gaF iv e) 0 f p n = bif onE (foK iv) e f p then (lowerE (foK iv) e (sumE (foK iv) e f ⟨f.one, f.one, 0⟩ (timesF iv e f (raiseJ (foK iv) f p) n)), 0) else (⟨0, 0, false⟩, 5) := rfl
 rw [h, hon, cond_true, sum_none F f rfl, times_low F hf hp n hl]
theorem one_len : (lenI (ofW (bitW true))).toNat = 1 := by decide +kernel
theorem one_bit : (ofW (bitW true)).bit 0 = true := by decide +kernel
theorem times_one (F : Fd K iv e) (f : Fl K) (p : Jp K) : timesF iv e f p (ofW (bitW true)) = p := by
 unfold timesF
 rw [times_run, one_len]
 simp only [runK]
 rw [one_bit, cond_true, sum_none F f (twice_none rfl)]
theorem ga2_low (F : Fd K iv e) {f : Fl K} (hf : f.one = 1) {p q : Ap K} (hp : p.zero = true -> p = ⟨0, 0, true⟩) (hq : q.zero = true -> q = ⟨0, 0, true⟩) (hon : onE (foK iv) e f p = true) (hoq : onE (foK iv) e f q = true) :
 ga2 (gaF iv e) 0 f (p, q) (ofW (bitW true), ofW (bitW true)) = (sumA iv e p q, 0) := by
 have h : ga2 (gaF iv e) 0 f (p, q) (ofW (bitW true), ofW (bitW true)) = bif onE (foK iv) e f p then (bif onE (foK iv) e f q then (lowerE (foK iv) e (sumE (foK iv) e f (sumE (foK iv) e f ⟨f.one, f.one, 0⟩ (timesF iv e f (raiseJ (foK iv) f p) (ofW (bitW true)))) (timesF iv e f (raiseJ (foK iv) f q) (ofW (bitW true)))), 0) else (⟨0, 0, false⟩, 5)) else (⟨0, 0, false⟩, 5) := rfl
 have eqn : ∀ {p : Ap K}, onE (foK iv) e f p = true -> p.zero = false -> p.y * p.y = p.x * p.x * p.x + f.b := fun {p} h1 h2 => by
  unfold onE at h1
  rw [h2, cond_false] at h1
  exact F.eq.1 h1
 rw [h, hon, hoq, cond_true, cond_true, times_one F, times_one F, sum_none F f (u := ⟨f.one, f.one, 0⟩) rfl, sum_slope F hf hp hq (eqn hon) (eqn hoq)]
end
end Go.Rq
