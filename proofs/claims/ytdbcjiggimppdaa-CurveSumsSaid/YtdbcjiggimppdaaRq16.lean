/- Numbers out of text: gone through where they are called. -/
import Derived.Test.YtdbcjiggimppdaaRq13
import Derived.Test.YtdbcjiggimppdaaRq06
import Derived.Test.YtdbcjiggimppdaaRq07
import Derived.Test.YtdbcjiggimppdaaRq15
import Derived.Test.YtdbcjiggimppdaaRq14
import Derived.Test.YtdbcjiggimppdaaRq08
import Derived.Test.YtdbcjiggimppdaaRq09
namespace Go.Rq
open Go Go.Proofs

theorem ibs_ok : CallOk PR 197 (fn2 kStr (kInt .u8) (kInt .i64) idxByte) :=
  .inr (ext2 (fn := Try.f197) (by kernel_rfl) (by kernel_rfl) (by kernel_rfl) (by kernel_rfl) (r := Extern.BytealgIndexByte.indexByte) (by kernel_rfl) idxByte_run)
def ibT (X : ByteArray → Int → Int) : PureTab := [(197, fn2 kStr (kInt .u8) (kInt .i64) X), (192, fn2 kStr (kInt .u8) (kInt .i64) X)]
theorem ib1_run (X : ByteArray → Int → Int) (s : ByteArray) (b : Int) : (afunR PR (envOf eqsT [(197, fn2 kStr (kInt .u8) (kInt .i64) X)]) [] (fun _ => none) 40 192 [kStr.enc s, (kInt .u8).enc b]).strict = .leaf ((kInt .i64).enc (X s b)) := by kernel_rfl
theorem ib2_run (X : ByteArray → Int → Int) (s : ByteArray) (b : Int) : (afunR PR (envOf eqsT [(192, fn2 kStr (kInt .u8) (kInt .i64) X)]) [] (fun _ => none) 40 178 [kStr.enc s, (kInt .u8).enc b]).strict = .leaf ((kInt .i64).enc (X s b)) := by kernel_rfl
def ib1T : PureTab := [(197, fn2 kStr (kInt .u8) (kInt .i64) idxByte)]
theorem ib1T_ok : TabPOk PR ib1T := TabPOk.cons ibs_ok TabPOk.nil
theorem ib1_ctx : Ctx PR (envOf eqsT ib1T) [] (fun _ => none) 40 192 :=
  ctx_of (envOf_ok eqsT_ok ib1T_ok) mixed (fn := Try.f192) (by kernel_rfl) (by kernel_rfl) (by kernel_rfl) (tabOk_none _)
theorem ib1_ok : CallOk PR 192 (fn2 kStr (kInt .u8) (kInt .i64) idxByte) :=
  .inl ⟨enters_of (fn := Try.f192) (by kernel_rfl) (by kernel_rfl) (by kernel_rfl), pure2 ib1_ctx (fun s b => leafVal (B := kInt .i64) (y := idxByte s b) (ib1_run idxByte s b))⟩
def ib2T : PureTab := [(192, fn2 kStr (kInt .u8) (kInt .i64) idxByte)]
theorem ib2T_ok : TabPOk PR ib2T := TabPOk.cons ib1_ok TabPOk.nil
theorem ib2_ctx : Ctx PR (envOf eqsT ib2T) [] (fun _ => none) 40 178 :=
  ctx_of (envOf_ok eqsT_ok ib2T_ok) mixed (fn := Try.f178) (by kernel_rfl) (by kernel_rfl) (by kernel_rfl) (tabOk_none _)
theorem ib2_ok : CallOk PR 178 (fn2 kStr (kInt .u8) (kInt .i64) idxByte) :=
  .inl ⟨enters_of (fn := Try.f178) (by kernel_rfl) (by kernel_rfl) (by kernel_rfl), pure2 ib2_ctx (fun s b => leafVal (B := kInt .i64) (y := idxByte s b) (ib2_run idxByte s b))⟩
end Go.Rq

/- Numbers out of text: shift by four; the text's digits; a generator's number is gone through where it is told. -/
namespace Go.Rq
open Go Go.Proofs
def shift4 (a : W6) : W6 := ⟨a.w0 <<< 4, a.w1 <<< 4 ||| a.w0 >>> 60, a.w2 <<< 4 ||| a.w1 >>> 60, a.w3 <<< 4 ||| a.w2 >>> 60, a.w4 <<< 4 ||| a.w3 >>> 60, a.w5 <<< 4 ||| a.w4 >>> 60⟩
set_option maxRecDepth 100000 in
theorem shift4_run (a : W6) : (afunR PR (envOf eqsT []) [] (fun _ => none) 40 60 [c6.agg.enc a, (kInt .i64).enc 4]).strict = .leaf (c6.agg.enc (shift4 a)) := by kernel_rfl

/-- One number alone. -/
def kAt (k : IntKind) (n : Int) : Cod Unit where
  enc _ := .v (.int k n)
  dec a := match a with
    | .v (.int k' m) => match decide (k' = k ∧ m = n) with
      | true => some ()
      | false => none
    | _ => none
  val _ := .int k n
  h1 _ := rfl
  h2 ρ a v x h r := by
    split at h
    · rename_i k' m
      split at h
      · rename_i e
        obtain ⟨rfl, rfl⟩ := of_decide_eq_true e
        cases r
        rfl
      · cases h
    · cases h

theorem shift_ctx : Ctx PR (envOf eqsT []) [] (fun _ => none) 40 60 :=
  ctx_of (envOf_ok eqsT_ok TabPOk.nil) mixed (fn := Try.f60) (by kernel_rfl) (by kernel_rfl) (by kernel_rfl) (tabOk_none _)
theorem shift_ok : CallOk PR 60 (fn2 c6.agg (kAt .i64 4) c6.agg (fun a _ => shift4 a)) :=
  .inl ⟨enters_of (fn := Try.f60) (by kernel_rfl) (by kernel_rfl) (by kernel_rfl), pure2 (C := kAt .i64 4) shift_ctx (fun a _ => leafVal (B := c6.agg) (y := shift4 a) (shift4_run a))⟩

def parseT : PureTab := [(60, fn2 c6.agg (kAt .i64 4) c6.agg (fun a _ => shift4 a)), (178, fn2 kStr (kInt .u8) (kInt .i64) idxByte)]
theorem parseT_ok : TabPOk PR parseT := TabPOk.cons shift_ok (TabPOk.cons ib2_ok TabPOk.nil)
theorem parse_ctx : Ctx PR (envOf eqsT parseT) [] (fun _ => none) 110 140 :=
  ctx_of (envOf_ok eqsT_ok parseT_ok) mixed (fn := Try.f140) (by kernel_rfl) (by kernel_rfl) (by kernel_rfl) (tabOk_none _)
end Go.Rq

/- The generators' numbers, gone through out of their texts. -/
namespace Go.Rq
open Go Go.Proofs

def genS0 : ByteArray := ⟨#[49, 55, 102, 49, 100, 51, 97, 55, 51, 49, 57, 55, 100, 55, 57, 52, 50, 54, 57, 53, 54, 51, 56, 99, 52, 102, 97, 57, 97, 99, 48, 102, 99, 51, 54, 56, 56, 99, 52, 102, 57, 55, 55, 52, 98, 57, 48, 53, 97, 49, 52, 101, 51, 97, 51, 102, 49, 55, 49, 98, 97, 99, 53, 56, 54, 99, 53, 53, 101, 56, 51, 102, 102, 57, 55, 97, 49, 97, 101, 102, 102, 98, 51, 97, 102, 48, 48, 97, 100, 98, 50, 50, 99, 54, 98, 98]⟩
def genN0 : W6 := ⟨0xfb3af00adb22c6bb#64, 0x6c55e83ff97a1aef#64, 0xa14e3a3f171bac58#64, 0xc3688c4f9774b905#64, 0x2695638c4fa9ac0f#64, 0x17f1d3a73197d794#64⟩
def genS1 : ByteArray := ⟨#[56, 98, 51, 102, 52, 56, 49, 101, 51, 97, 97, 97, 48, 102, 49, 97, 48, 57, 101, 51, 48, 101, 100, 55, 52, 49, 100, 56, 97, 101, 52, 102, 99, 102, 53, 101, 48, 57, 53, 100, 53, 100, 48, 48, 97, 102, 54, 48, 48, 100, 98, 49, 56, 99, 98, 50, 99, 48, 52, 98, 51, 101, 100, 100, 48, 51, 99, 99, 55, 52, 52, 97, 50, 56, 56, 56, 97, 101, 52, 48, 99, 97, 97, 50, 51, 50, 57, 52, 54, 99, 53, 101, 55, 101, 49]⟩
def genN1 : W6 := ⟨0xcaa232946c5e7e1#64, 0xd03cc744a2888ae4#64, 0xdb18cb2c04b3ed#64, 0xfcf5e095d5d00af6#64, 0xa09e30ed741d8ae4#64, 0x8b3f481e3aaa0f1#64⟩
def genS2 : ByteArray := ⟨#[50, 52, 97, 97, 50, 98, 50, 102, 48, 56, 102, 48, 97, 57, 49, 50, 54, 48, 56, 48, 53, 50, 55, 50, 100, 99, 53, 49, 48, 53, 49, 99, 54, 101, 52, 55, 97, 100, 52, 102, 97, 52, 48, 51, 98, 48, 50, 98, 52, 53, 49, 48, 98, 54, 52, 55, 97, 101, 51, 100, 49, 55, 55, 48, 98, 97, 99, 48, 51, 50, 54, 97, 56, 48, 53, 98, 98, 101, 102, 100, 52, 56, 48, 53, 54, 99, 56, 99, 49, 50, 49, 98, 100, 98, 56]⟩
def genN2 : W6 := ⟨0xd48056c8c121bdb8#64, 0xbac0326a805bbef#64, 0xb4510b647ae3d177#64, 0xc6e47ad4fa403b02#64, 0x260805272dc51051#64, 0x24aa2b2f08f0a91#64⟩
def genS3 : ByteArray := ⟨#[49, 51, 101, 48, 50, 98, 54, 48, 53, 50, 55, 49, 57, 102, 54, 48, 55, 100, 97, 99, 100, 51, 97, 48, 56, 56, 50, 55, 52, 102, 54, 53, 53, 57, 54, 98, 100, 48, 100, 48, 57, 57, 50, 48, 98, 54, 49, 97, 98, 53, 100, 97, 54, 49, 98, 98, 100, 99, 55, 102, 53, 48, 52, 57, 51, 51, 52, 99, 102, 49, 49, 50, 49, 51, 57, 52, 53, 100, 53, 55, 101, 53, 97, 99, 55, 100, 48, 53, 53, 100, 48, 52, 50, 98, 55, 101]⟩
def genN3 : W6 := ⟨0xe5ac7d055d042b7e#64, 0x334cf11213945d57#64, 0xb5da61bbdc7f5049#64, 0x596bd0d09920b61a#64, 0x7dacd3a088274f65#64, 0x13e02b6052719f60#64⟩
def genS4 : ByteArray := ⟨#[99, 101, 53, 100, 53, 50, 55, 55, 50, 55, 100, 54, 101, 49, 49, 56, 99, 99, 57, 99, 100, 99, 54, 100, 97, 50, 101, 51, 53, 49, 97, 97, 100, 102, 100, 57, 98, 97, 97, 56, 99, 98, 100, 100, 51, 97, 55, 54, 100, 52, 50, 57, 97, 54, 57, 53, 49, 54, 48, 100, 49, 50, 99, 57, 50, 51, 97, 99, 57, 99, 99, 51, 98, 97, 99, 97, 50, 56, 57, 101, 49, 57, 51, 53, 52, 56, 54, 48, 56, 98, 56, 50, 56, 48, 49]⟩
def genN4 : W6 := ⟨0xe193548608b82801#64, 0x923ac9cc3baca289#64, 0x6d429a695160d12c#64, 0xadfd9baa8cbdd3a7#64, 0x8cc9cdc6da2e351a#64, 0xce5d527727d6e11#64⟩
def genS5 : ByteArray := ⟨#[54, 48, 54, 99, 52, 97, 48, 50, 101, 97, 55, 51, 52, 99, 99, 51, 50, 97, 99, 100, 50, 98, 48, 50, 98, 99, 50, 56, 98, 57, 57, 99, 98, 51, 101, 50, 56, 55, 101, 56, 53, 97, 55, 54, 51, 97, 102, 50, 54, 55, 52, 57, 50, 97, 98, 53, 55, 50, 101, 57, 57, 97, 98, 51, 102, 51, 55, 48, 100, 50, 55, 53, 99, 101, 99, 49, 100, 97, 49, 97, 97, 97, 57, 48, 55, 53, 102, 102, 48, 53, 102, 55, 57, 98, 101]⟩
def genN5 : W6 := ⟨0xaaa9075ff05f79be#64, 0x3f370d275cec1da1#64, 0x267492ab572e99ab#64, 0xcb3e287e85a763af#64, 0x32acd2b02bc28b99#64, 0x606c4a02ea734cc#64⟩
def kNE : Cod (W6 × Int) := kTup c6.agg (kInt .i64) (fun _ => rfl) (fun _ => rfl)
set_option maxRecDepth 1000000 in
theorem genP0 : (afunR PR (envOf eqsT parseT) [] (fun _ => none) 110 140 [kStr.enc genS0]).strict = .leaf (kNE.enc (genN0, 0)) := by kernel_rfl
set_option maxRecDepth 1000000 in
theorem genP1 : (afunR PR (envOf eqsT parseT) [] (fun _ => none) 110 140 [kStr.enc genS1]).strict = .leaf (kNE.enc (genN1, 0)) := by kernel_rfl
set_option maxRecDepth 1000000 in
theorem genP2 : (afunR PR (envOf eqsT parseT) [] (fun _ => none) 110 140 [kStr.enc genS2]).strict = .leaf (kNE.enc (genN2, 0)) := by kernel_rfl
set_option maxRecDepth 1000000 in
theorem genP3 : (afunR PR (envOf eqsT parseT) [] (fun _ => none) 110 140 [kStr.enc genS3]).strict = .leaf (kNE.enc (genN3, 0)) := by kernel_rfl
set_option maxRecDepth 1000000 in
theorem genP4 : (afunR PR (envOf eqsT parseT) [] (fun _ => none) 110 140 [kStr.enc genS4]).strict = .leaf (kNE.enc (genN4, 0)) := by kernel_rfl
set_option maxRecDepth 1000000 in
theorem genP5 : (afunR PR (envOf eqsT parseT) [] (fun _ => none) 110 140 [kStr.enc genS5]).strict = .leaf (kNE.enc (genN5, 0)) := by kernel_rfl

def eqStr (a b : ByteArray) : Bool := a.data.toList == b.data.toList
theorem eqStr_ok (a b : ByteArray) (h : eqStr a b = true) : a = b := by
  have h := eq_of_beq h
  cases a; cases b
  simp at h
  rw [h]
def genT : List (ByteArray × (W6 × Int)) := [(genS0, (genN0, 0)), (genS1, (genN1, 0)), (genS2, (genN2, 0)), (genS3, (genN3, 0)), (genS4, (genN4, 0)), (genS5, (genN5, 0))]
theorem parse_ok : CallOk PR 140 (fnT1 kStr kNE eqStr genT) :=
  .inl ⟨enters_of (fn := Try.f140) (by kernel_rfl) (by kernel_rfl) (by kernel_rfl), tabT1 (B := kNE) parse_ctx eqStr_ok (fun p hp => by
    simp only [genT, List.mem_cons, List.not_mem_nil, or_false] at hp
    rcases hp with rfl | rfl | rfl | rfl | rfl | rfl
    · exact leafVal (B := kNE) genP0
    · exact leafVal (B := kNE) genP1
    · exact leafVal (B := kNE) genP2
    · exact leafVal (B := kNE) genP3
    · exact leafVal (B := kNE) genP4
    · exact leafVal (B := kNE) genP5)⟩

def numT : PureTab := [(140, fnT1 kStr kNE eqStr genT)]
theorem numT_ok : TabPOk PR numT := TabPOk.cons parse_ok TabPOk.nil
theorem num_ctx : Ctx PR (envOf eqsT numT) [] (fun _ => none) 40 90 :=
  ctx_of (envOf_ok eqsT_ok numT_ok) mixed (fn := Try.f90) (by kernel_rfl) (by kernel_rfl) (by kernel_rfl) (tabOk_none _)
def genU : List (ByteArray × W6) := [(genS0, genN0), (genS1, genN1), (genS2, genN2), (genS3, genN3), (genS4, genN4), (genS5, genN5)]
theorem genQ0 : (afunR PR (envOf eqsT numT) [] (fun _ => none) 40 90 [kStr.enc genS0]).strict = .leaf (c6.agg.enc genN0) := by kernel_rfl
theorem genQ1 : (afunR PR (envOf eqsT numT) [] (fun _ => none) 40 90 [kStr.enc genS1]).strict = .leaf (c6.agg.enc genN1) := by kernel_rfl
theorem genQ2 : (afunR PR (envOf eqsT numT) [] (fun _ => none) 40 90 [kStr.enc genS2]).strict = .leaf (c6.agg.enc genN2) := by kernel_rfl
theorem genQ3 : (afunR PR (envOf eqsT numT) [] (fun _ => none) 40 90 [kStr.enc genS3]).strict = .leaf (c6.agg.enc genN3) := by kernel_rfl
theorem genQ4 : (afunR PR (envOf eqsT numT) [] (fun _ => none) 40 90 [kStr.enc genS4]).strict = .leaf (c6.agg.enc genN4) := by kernel_rfl
theorem genQ5 : (afunR PR (envOf eqsT numT) [] (fun _ => none) 40 90 [kStr.enc genS5]).strict = .leaf (c6.agg.enc genN5) := by kernel_rfl
theorem num_ok : CallOk PR 90 (fnT1 kStr c6.agg eqStr genU) :=
  .inl ⟨enters_of (fn := Try.f90) (by kernel_rfl) (by kernel_rfl) (by kernel_rfl), tabT1 (B := c6.agg) num_ctx eqStr_ok (fun p hp => by
    simp only [genU, List.mem_cons, List.not_mem_nil, or_false] at hp
    rcases hp with rfl | rfl | rfl | rfl | rfl | rfl
    · exact leafVal (B := c6.agg) genQ0
    · exact leafVal (B := c6.agg) genQ1
    · exact leafVal (B := c6.agg) genQ2
    · exact leafVal (B := c6.agg) genQ3
    · exact leafVal (B := c6.agg) genQ4
    · exact leafVal (B := c6.agg) genQ5)⟩

def genT1 : PureTab := [(90, fnT1 kStr c6.agg eqStr genU)]
theorem genT1_ok : TabPOk PR genT1 := TabPOk.cons num_ok TabPOk.nil
def gen1P : Ap W6 := ⟨genN0, genN1, false⟩
def gen2P : Ap D6 := ⟨⟨genN2, genN3⟩, ⟨genN4, genN5⟩, false⟩
theorem gen1_ctx : Ctx PR (envOf eqsT genT1) [] (fun _ => none) 40 33 :=
  ctx_of (envOf_ok eqsT_ok genT1_ok) mixed (fn := Try.f33) (by kernel_rfl) (by kernel_rfl) (by kernel_rfl) (tabOk_none _)
theorem gen1_run : (afunR PR (envOf eqsT genT1) [] (fun _ => none) 40 33 []).strict = .leaf (.agg (c6.enc genN0 ++ (c6.enc genN1 ++ [.lit false]))) := by kernel_rfl
theorem gen1_ok : CallOk PR 33 (fn0 (cAp c6).agg gen1P) :=
  .inl ⟨enters_of (fn := Try.f33) (by kernel_rfl) (by kernel_rfl) (by kernel_rfl), pure0 gen1_ctx (givesOf gen1_run (holds_leaf (apFlatW _ _ _)))⟩
theorem gen2_ctx : Ctx PR (envOf eqsT genT1) [] (fun _ => none) 40 46 :=
  ctx_of (envOf_ok eqsT_ok genT1_ok) mixed (fn := Try.f46) (by kernel_rfl) (by kernel_rfl) (by kernel_rfl) (tabOk_none _)
theorem gen2_run : (afunR PR (envOf eqsT genT1) [] (fun _ => none) 40 46 []).strict = .leaf (.agg (c12.enc ⟨genN2, genN3⟩ ++ (c12.enc ⟨genN4, genN5⟩ ++ [.lit false]))) := by kernel_rfl
theorem gen2_ok : CallOk PR 46 (fn0 (cAp c12).agg gen2P) :=
  .inl ⟨enters_of (fn := Try.f46) (by kernel_rfl) (by kernel_rfl) (by kernel_rfl), pure0 gen2_ctx (givesOf gen2_run (holds_leaf (apFlatD _ _ _)))⟩
end Go.Rq

/- What the functions on points answer at the chapter's examples. -/
namespace Go.Rq
open Go Go.Proofs

def zeroP : Ap W6 := ⟨zeroW, zeroW, true⟩
def errP : Ap W6 := ⟨zeroW, zeroW, false⟩
def oddP : Ap W6 := ⟨zeroW, ofW 2#64, false⟩
def badP : Ap W6 := ⟨ofW 1#64, zeroW, true⟩
def offP : Ap W6 := ⟨ofW 1#64, ofW 1#64, false⟩
def ngP : Ap W6 := ⟨⟨0xfb3af00adb22c6bb#64, 0x6c55e83ff97a1aef#64, 0xa14e3a3f171bac58#64, 0xc3688c4f9774b905#64, 0x2695638c4fa9ac0f#64, 0x17f1d3a73197d794#64⟩, ⟨0xad54dcd6b939c2ca#64, 0x4e6f38ba0ecb751b#64, 0x6655b9d5caac4236#64, 0x67816aef1db507c9#64, 0xaa7d76c8cf2e21f2#64, 0x114d1d6855d545a8#64⟩, false⟩
def dbP : Ap W6 := ⟨⟨0xc39a8c5529bf0f4e#64, 0xe28f75bb8f1c7c42#64, 0x43902d0ac358a62a#64, 0x9721db3091280125#64, 0x8808c8eb50a9450c#64, 0x572cbea904d6746#64⟩, ⟨0xba86881979749d28#64, 0x4c56d9d4cd16bd1b#64, 0xf73bb9021d5fd76a#64, 0x22ba3ecb8670e461#64, 0x22fda673779d8e38#64, 0x166a9d8cabc673a3#64⟩, false⟩
def moreW : W6 := ⟨0xffffffff00000002#64, 0x53bda402fffe5bfe#64, 0x3339d80809a1d805#64, 0x73eda753299d7d48#64, 0x0#64, 0x0#64⟩
set_option maxRecDepth 1000000 in
theorem below_gen : belowP1 gen1P = true := by kernel_rfl
set_option maxRecDepth 1000000 in
theorem check_gen : checkP1 gen1P = true := by
  rw [check1_of]; kernel_rfl
set_option maxRecDepth 1000000 in
theorem below_zero : belowP1 zeroP = true := by kernel_rfl
set_option maxRecDepth 1000000 in
theorem check_zero : checkP1 zeroP = true := by
  rw [check1_of]; kernel_rfl
set_option maxRecDepth 1000000 in
theorem below_odd : belowP1 oddP = true := by kernel_rfl
set_option maxRecDepth 1000000 in
theorem check_odd : checkP1 oddP = true := by
  rw [check1_of]; kernel_rfl
set_option maxRecDepth 1000000 in
theorem below_bad : belowP1 badP = true := by kernel_rfl
set_option maxRecDepth 1000000 in
theorem check_bad : checkP1 badP = false := by
  rw [check1_of]; kernel_rfl
set_option maxRecDepth 1000000 in
theorem below_off : belowP1 offP = true := by kernel_rfl
set_option maxRecDepth 1000000 in
theorem check_off : checkP1 offP = false := by
  rw [check1_of]; kernel_rfl
set_option maxRecDepth 1000000 in
theorem in_gen : inGroup1 gen1P = true := by
  rw [in1_of]; kernel_rfl
set_option maxRecDepth 1000000 in
theorem in_odd : inGroup1 oddP = false := by
  rw [in1_of]; kernel_rfl
set_option maxRecDepth 1000000 in
theorem below_ng : belowP1 ngP = true := by kernel_rfl
set_option maxRecDepth 1000000 in
theorem neg_gen : negP1 gen1P = (ngP, 0) := neg1_of check_gen (by kernel_rfl) (by kernel_rfl) rfl
set_option maxRecDepth 1000000 in
theorem add_ng : addP1 gen1P ngP = (zeroP, 0) := add1_of below_gen below_ng (by kernel_rfl)
set_option maxRecDepth 1000000 in
theorem add_off : addP1 gen1P offP = (errP, 5) := add1_of below_gen below_off (by kernel_rfl)
set_option maxRecDepth 1000000 in
theorem add_gen : addP1 gen1P gen1P = (dbP, 0) := add1_of below_gen below_gen (by kernel_rfl)
set_option maxRecDepth 1000000 in
theorem mul_zero : sumP1W gen1P zeroW = (zeroP, 0) := mul1_of below_gen (by kernel_rfl)
set_option maxRecDepth 1000000 in
theorem mul_order : sumP1W gen1P orderW = (zeroP, 0) := mul1_of below_gen (by kernel_rfl)
set_option maxRecDepth 1000000 in
theorem mul_two : sumP1W gen1P (ofW 2#64) = (dbP, 0) := mul1_of below_gen (by kernel_rfl)
set_option maxRecDepth 1000000 in
theorem below_gen2 : belowP2 gen2P = true := by kernel_rfl
set_option maxRecDepth 1000000 in
theorem check_gen2 : checkP2 gen2P = true := by
  rw [check2_of]; kernel_rfl
set_option maxRecDepth 1000000 in
theorem mul_more : sumP1D gen2P moreW = (gen2P, 0) := mul2_of below_gen2 (by kernel_rfl)
end Go.Rq

/- The functions at the chapter's examples. -/
namespace Go.Rq
open Go Go.Proofs

def eqAp (a b : Ap W6) : Bool := bif eqW a.x b.x then (bif eqW a.y b.y then a.zero == b.zero else false) else false
theorem eqAp_ok (a b : Ap W6) (h : eqAp a b = true) : a = b := by
  obtain ⟨ax, ay, az⟩ := a
  obtain ⟨bx, bw, bz⟩ := b
  unfold eqAp at h
  dsimp only at h
  cases h1 : eqW ax bx with
  | false => rw [h1] at h; cases h
  | true =>
    cases h2 : eqW ay bw with
    | false => rw [h1, h2] at h; cases h
    | true =>
      rw [h1, h2] at h
      have h3 : az = bz := by simpa using h
      rw [(eqW_iff _ _).1 h1, (eqW_iff _ _).1 h2, h3]
def eqAd (a b : Ap D6) : Bool := bif eqD a.x b.x then (bif eqD a.y b.y then a.zero == b.zero else false) else false
theorem eqAd_ok (a b : Ap D6) (h : eqAd a b = true) : a = b := by
  obtain ⟨ax, ay, az⟩ := a
  obtain ⟨bx, bw, bz⟩ := b
  unfold eqAd at h
  dsimp only at h
  cases h1 : eqD ax bx with
  | false => rw [h1] at h; cases h
  | true =>
    cases h2 : eqD ay bw with
    | false => rw [h1, h2] at h; cases h
    | true =>
      rw [h1, h2] at h
      have h3 : az = bz := by simpa using h
      rw [(eqD_iff _ _).1 h1, (eqD_iff _ _).1 h2, h3]
theorem eqW_ok (a b : W6) (h : eqW a b = true) : a = b := (eqW_iff a b).1 h

def tCheck1 : List (Ap W6 × Bool) := [(zeroP, true), (oddP, true), (badP, false), (offP, false), (gen1P, true)]
theorem tCheck1_ok : ∀ p ∈ tCheck1, checkP1 p.1 = p.2 := fun p hp => by
  simp only [tCheck1, List.mem_cons, List.not_mem_nil, or_false] at hp
  rcases hp with rfl | rfl | rfl | rfl | rfl
  · exact check_zero
  · exact check_odd
  · exact check_bad
  · exact check_off
  · exact check_gen
def tIn1 : List (Ap W6 × Bool) := [(gen1P, true), (oddP, false)]
theorem tIn1_ok : ∀ p ∈ tIn1, inGroup1 p.1 = p.2 := fun p hp => by
  simp only [tIn1, List.mem_cons, List.not_mem_nil, or_false] at hp
  rcases hp with rfl | rfl
  · exact in_gen
  · exact in_odd
def tNeg1 : List (Ap W6 × (Ap W6 × Int)) := [(gen1P, (ngP, 0))]
theorem tNeg1_ok : ∀ p ∈ tNeg1, negP1 p.1 = p.2 := fun p hp => by
  simp only [tNeg1, List.mem_cons, List.not_mem_nil, or_false] at hp
  rw [hp]
  exact neg_gen
def tAdd1 : List ((Ap W6 × Ap W6) × (Ap W6 × Int)) := [((gen1P, ngP), (zeroP, 0)), ((gen1P, offP), (errP, 5)), ((gen1P, gen1P), (dbP, 0))]
theorem tAdd1_ok : ∀ p ∈ tAdd1, addP1 p.1.1 p.1.2 = p.2 := fun p hp => by
  simp only [tAdd1, List.mem_cons, List.not_mem_nil, or_false] at hp
  rcases hp with rfl | rfl | rfl
  · exact add_ng
  · exact add_off
  · exact add_gen
def tMul1 : List ((Ap W6 × W6) × (Ap W6 × Int)) := [((gen1P, zeroW), (zeroP, 0)), ((gen1P, orderW), (zeroP, 0)), ((gen1P, ofW 2#64), (dbP, 0))]
theorem tMul1_ok : ∀ p ∈ tMul1, sumP1W p.1.1 p.1.2 = p.2 := fun p hp => by
  simp only [tMul1, List.mem_cons, List.not_mem_nil, or_false] at hp
  rcases hp with rfl | rfl | rfl
  · exact mul_zero
  · exact mul_order
  · exact mul_two
def tMul2 : List ((Ap D6 × W6) × (Ap D6 × Int)) := [((gen2P, moreW), (gen2P, 0))]
theorem tMul2_ok : ∀ p ∈ tMul2, sumP1D p.1.1 p.1.2 = p.2 := fun p hp => by
  simp only [tMul2, List.mem_cons, List.not_mem_nil, or_false] at hp
  rw [hp]
  exact mul_more
def tCheck2 : List (Ap D6 × Bool) := [(gen2P, true)]
theorem tCheck2_ok : ∀ p ∈ tCheck2, checkP2 p.1 = p.2 := fun p hp => by
  simp only [tCheck2, List.mem_cons, List.not_mem_nil, or_false] at hp
  rw [hp]
  exact check_gen2

/-! The sum of two numbers. -/
def wAddW (a b : W6) : W6 × Bool := ((adds a b).1, (adds a b).2 == true)
def wAddT : PureTab := [(114, fn3 kU kU kBit kUB add64)]
theorem wAddT_ok : TabPOk PR wAddT := TabPOk.cons add64_ok TabPOk.nil
theorem wadd_ctx : Ctx PR (envOf eqsT wAddT) [] (fun _ => none) 40 61 :=
  ctx_of (envOf_ok eqsT_ok wAddT_ok) mixed (fn := Try.f61) (by kernel_rfl) (by kernel_rfl) (by kernel_rfl) (tabOk_none _)
set_option maxRecDepth 100000 in
theorem wadd_run (a b : W6) : (afunR PR (envOf eqsT wAddT) [] (fun _ => none) 40 61 [c6.agg.enc a, c6.agg.enc b]).strict = .leaf (kWB.enc (wAddW a b)) := by kernel_rfl
theorem wadd_ok : CallOk PR 61 (fn2 c6.agg c6.agg kWB wAddW) :=
  .inl ⟨enters_of (fn := Try.f61) (by kernel_rfl) (by kernel_rfl) (by kernel_rfl), pure2 wadd_ctx (fun a b => leafVal (B := kWB) (y := wAddW a b) (wadd_run a b))⟩

/-! The digits of the generator. -/
def textT : PureTab := [(116, fn1 c6.agg (kInt .i64) lenI)]
theorem textT_ok : TabPOk PR textT := TabPOk.cons len_ok TabPOk.nil
noncomputable def textE : Env := envS eqsT textT [] [9]
theorem textE_ok : EnvOk PR textE := envS_ok eqsT_ok textT_ok TabHOk.nil
theorem text_ctx : Ctx PR textE [] (fun _ => none) 110 65 :=
  ctx_of textE_ok mixed (fn := Try.f65) (by kernel_rfl) (by kernel_rfl) (by kernel_rfl) (tabOk_none _)
set_option maxRecDepth 1000000 in
theorem text_run : (afunR PR textE [] (fun _ => none) 110 65 [c6.agg.enc genN0]).strict = .leaf (kStr.enc genS0) := by kernel_rfl
def tText : List (W6 × ByteArray) := [(genN0, genS0)]
theorem text_ok : CallOk PR 65 (fnT1 c6.agg kStr eqW tText) :=
  .inl ⟨enters_of (fn := Try.f65) (by kernel_rfl) (by kernel_rfl) (by kernel_rfl), tabT1 (B := kStr) text_ctx eqW_ok (fun p hp => by
    simp only [tText, List.mem_cons, List.not_mem_nil, or_false] at hp
    rw [hp]
    exact leafVal (B := kStr) text_run)⟩

/-! Sums of unlike lists. -/
noncomputable def gaV : Env := envH eqsT [] []
theorem gaV_ok : EnvOk PR gaV := envH_ok eqsT_ok TabPOk.nil TabHOk.nil
theorem gaV_ctx : Ctx PR gaV [] (fun _ => none) 10 112 :=
  ctx_of gaV_ok mixed (fn := Try.f112) (by kernel_rfl) (by kernel_rfl) (by kernel_rfl) (tabOk_none _)
noncomputable def suV : Env := envH eqsT (suTW suOW) [(112, viewG PR gaV [] 10 112)]
theorem suV_ok : EnvOk PR suV := envH_ok eqsT_ok suT_okW (TabHOk.cons ga_entW (view_ok gaV_ctx) TabHOk.nil)
theorem suV_ctx : Ctx PR suV [] (fun _ => none) 10 56 :=
  ctx_of suV_ok mixed (fn := Try.f56) (by kernel_rfl) (by kernel_rfl) (by kernel_rfl) (tabOk_none _)

/-! The functions, at the examples. -/
def knT0 : PureTab := [(33, fn0 aW.agg gen1P), (46, fn0 aD.agg gen2P), (63, fn1 kU c6.agg ofW), (64, fn0 c6.agg orderW),
  (30, fnT1 aW.agg kBool eqAp tCheck1), (43, fnT1 aD.agg kBool eqAd tCheck2), (31, fnT1 aW.agg kBool eqAp tIn1), (35, fnT1 aW.agg kPW eqAp tNeg1),
  (36, fnT2 aW.agg aW.agg kPW eqAp eqAp tAdd1), (37, fnT2 aW.agg c6.agg kPW eqAp eqW tMul1), (50, fnT2 aD.agg c6.agg kPD eqAd eqW tMul2),
  (61, fn2 c6.agg c6.agg kWB wAddW), (65, fnT1 c6.agg kStr eqW tText)]
theorem knT0_ok : TabPOk PR knT0 :=
  TabPOk.cons gen1_ok (TabPOk.cons gen2_ok (TabPOk.cons of_ok (TabPOk.cons order_ok (TabPOk.cons (callT1 eqAp_ok tCheck1_ok checkp1_ok) (TabPOk.cons (callT1 eqAd_ok tCheck2_ok checkp2_ok) (TabPOk.cons (callT1 eqAp_ok tIn1_ok isinp1_ok)
  (TabPOk.cons (callT1 eqAp_ok tNeg1_ok negp1_ok) (TabPOk.cons (callT2 eqAp_ok eqAp_ok tAdd1_ok addp1_ok) (TabPOk.cons (callT2 eqAp_ok eqW_ok tMul1_ok mulp1_ok) (TabPOk.cons (callT2 eqAd_ok eqW_ok tMul2_ok mulp2_ok) (TabPOk.cons wadd_ok (TabPOk.cons text_ok TabPOk.nil))))))))))))
noncomputable def awE : Env := envH eqsT knT0 []
theorem awE_ok : EnvOk PR awE := envH_ok eqsT_ok knT0_ok TabHOk.nil
theorem aw_ctx : Ctx PR awE [] (fun _ => none) 10 55 :=
  ctx_of awE_ok mixed (fn := Try.f55) (by kernel_rfl) (by kernel_rfl) (by kernel_rfl) (tabOk_none _)
end Go.Rq

/- The law on the chapter's examples: what its function comes to. -/
namespace Go.Rq
open Go Go.Proofs

set_option maxRecDepth 1000000 in
theorem aw_run : (afunR PR awE [] (fun _ => none) 10 55 []).strict = .leaf (.v (.bool true)) := by kernel_rfl
theorem aw_ok : CallOk PR 55 (fn0 kBool true) :=
  .inl ⟨enters_of (fn := Try.f55) (by kernel_rfl) (by kernel_rfl) (by kernel_rfl), pure0 aw_ctx (givesOf aw_run (holds_leaf (v := kBool.val true) rfl))⟩

def knT : PureTab := (55, fn0 kBool true) :: knT0
theorem knT_ok : TabPOk PR knT := TabPOk.cons aw_ok knT0_ok
noncomputable def knE : Env := envH eqsT knT [(56, viewG PR suV [] 10 56)]
theorem knE_ok : EnvOk PR knE := envH_ok eqsT_ok knT_ok (TabHOk.cons su_entW (view_ok suV_ctx) TabHOk.nil)
theorem kn_ctx : Ctx PR knE [] (fun _ => none) 10 10 :=
  ctx_of knE_ok mixed (fn := Try.f10) (by kernel_rfl) (by kernel_rfl) (by kernel_rfl) (tabOk_none _)
set_option maxRecDepth 1000000 in
theorem kn_run : (afunR PR knE [] (fun _ => none) 10 10 []).strict = .leaf (.v (.bool true)) := by kernel_rfl
end Go.Rq

/- The laws CurveGroup1 and CurveGroup2, gone through: what is called left open. -/
namespace Go.Rq
open Go Go.Proofs

structure GP (K : Type) where
  ck : Ap K → Bool
  ad : Ap K → Ap K → Ap K × Int
  ne : Ap K → Ap K × Int

def grT : Tree AV := .leaf (kBool.enc true)
def grF : Tree AV := .leaf (.lit false)
def grpEnd {K : Type} (eqP : Ap K → Ap K → Bool) (zp : Ap K) (t : GP K) (a b c : Ap K) : Tree AV :=
  .br (eqP (t.ad a b).1 (t.ad b a).1) (.br (eqP (t.ad (t.ad a b).1 c).1 (t.ad a (t.ad b c).1).1) (.br (eqP (t.ad a (t.ne a).1).1 zp) (.br (eqP (t.ad a zp).1 a) (.leaf (kBool.enc (t.ck (t.ad (t.ad a b).1 c).1))) grF) grF) grF) grF
def grpTree {K : Type} (eqP : Ap K → Ap K → Bool) (zp : Ap K) (t : GP K) (a b c : Ap K) : Tree AV :=
  .br (!t.ck a) grT (.br (!t.ck b) grT (.br (!t.ck c) grT
    (.br ((t.ad a b).2 == 0) (.br ((t.ad b a).2 == 0) (.br ((t.ad b c).2 == 0) (.br ((t.ad (t.ad a b).1 c).2 == 0) (.br ((t.ad a (t.ad b c).1).2 == 0) (.br ((t.ne a).2 == 0) (.br ((t.ad a (t.ne a).1).2 == 0) (.br ((t.ad a zp).2 == 0)
      (grpEnd eqP zp t a b c) grF)
      (.br false (grpEnd eqP zp t a b c) grF)) (.br false (grpEnd eqP zp t a b c) grF)) (.br false (grpEnd eqP zp t a b c) grF)) (.br false (grpEnd eqP zp t a b c) grF)) (.br false (grpEnd eqP zp t a b c) grF)) (.br false (grpEnd eqP zp t a b c) grF)) (.br false (grpEnd eqP zp t a b c) grF))))

def gpT1 (t : GP W6) : PureTab := [(55, fn0 kBool true), (30, fn1 aW.agg kBool t.ck), (36, fn2 aW.agg aW.agg kPW t.ad), (35, fn1 aW.agg kPW t.ne)]
noncomputable def gpE1 (t : GP W6) : Env := envH eqsT (gpT1 t) []
def zeroP1 : Ap W6 := ⟨zeroW, zeroW, true⟩
set_option maxRecDepth 1000000 in
theorem group1_law (t : GP W6) (a b c : Ap W6) : (afunR PR (gpE1 t) [29, 34, 38, 89, 93, 97, 101, 105, 109, 113, 121, 126, 131, 136, 141] (fun _ => none) 10 6 [aW.agg.enc a, aW.agg.enc b, aW.agg.enc c]).strict = grpTree eqP13 zeroP1 t a b c := by kernel_rfl

def gpT2 (t : GP D6) : PureTab := [(55, fn0 kBool true), (43, fn1 aD.agg kBool t.ck), (49, fn2 aD.agg aD.agg kPD t.ad), (48, fn1 aD.agg kPD t.ne)]
noncomputable def gpE2 (t : GP D6) : Env := envH eqsT (gpT2 t) []
def zeroP2 : Ap D6 := ⟨zeroD, zeroD, true⟩
set_option maxRecDepth 1000000 in
theorem group2_law (t : GP D6) (a b c : Ap D6) : (afunR PR (gpE2 t) [29, 34, 38, 89, 93, 97, 101, 105, 109, 113, 121, 126, 131, 136, 141] (fun _ => none) 10 8 [aD.agg.enc a, aD.agg.enc b, aD.agg.enc c]).strict = grpTree eqP25 zeroP2 t a b c := by kernel_rfl

/-- What makes the laws true. -/
structure GPOk {K : Type} (eqP : Ap K → Ap K → Bool) (zp : Ap K) (t : GP K) : Prop where
  refl : ∀ p, eqP p p = true
  ad : ∀ p q, t.ck p = true → t.ck q = true → (t.ad p q).2 = 0 ∧ t.ck (t.ad p q).1 = true
  ne : ∀ p, t.ck p = true → (t.ne p).2 = 0 ∧ t.ck (t.ne p).1 = true
  zc : t.ck zp = true
  comm : ∀ p q, t.ck p = true → t.ck q = true → (t.ad p q).1 = (t.ad q p).1
  assoc : ∀ p q r, t.ck p = true → t.ck q = true → t.ck r = true → (t.ad (t.ad p q).1 r).1 = (t.ad p (t.ad q r).1).1
  neg : ∀ p, t.ck p = true → (t.ad p (t.ne p).1).1 = zp
  zero : ∀ p, t.ck p = true → (t.ad p zp).1 = p

theorem grT_ok : grT.holds (fun q => flat q = some (.bool true)) := rfl
theorem go_on {c : Bool} {x y : Tree AV} (hc : c = true) (h : x.holds (fun q => flat q = some (.bool true))) : (Tree.br c x y).holds (fun q => flat q = some (.bool true)) := ⟨fun _ => h, fun hf => by rw [hc] at hf; cases hf⟩
theorem eq_zero {z : Int} (h : z = 0) : (z == 0) = true := by rw [h]; rfl
theorem grpTree_true {K : Type} {eqP : Ap K → Ap K → Bool} {zp : Ap K} {t : GP K} (h : GPOk eqP zp t) (a b c : Ap K) : (grpTree eqP zp t a b c).holds (fun q => flat q = some (.bool true)) := by
  unfold grpTree grpEnd
  refine ⟨fun _ => grT_ok, fun ha => ⟨fun _ => grT_ok, fun hb => ⟨fun _ => grT_ok, fun hc => ?_⟩⟩⟩
  have ha : t.ck a = true := by simpa using ha
  have hb : t.ck b = true := by simpa using hb
  have hc : t.ck c = true := by simpa using hc
  obtain ⟨e1, k1⟩ := h.ad a b ha hb
  obtain ⟨e2, k2⟩ := h.ad b a hb ha
  obtain ⟨e3, k3⟩ := h.ad b c hb hc
  obtain ⟨e4, k4⟩ := h.ad _ c k1 hc
  obtain ⟨e5, k5⟩ := h.ad a _ ha k3
  obtain ⟨e6, k6⟩ := h.ne a ha
  obtain ⟨e7, k7⟩ := h.ad a _ ha k6
  obtain ⟨e8, k8⟩ := h.ad a zp ha h.zc
  refine go_on (eq_zero e1) (go_on (eq_zero e2) (go_on (eq_zero e3) (go_on (eq_zero e4) (go_on (eq_zero e5) (go_on (eq_zero e6) (go_on (eq_zero e7) (go_on (eq_zero e8) (go_on ?_ (go_on ?_ (go_on ?_ (go_on ?_ ?_)))))))))))
  · rw [h.comm a b ha hb]; exact h.refl _
  · rw [h.assoc a b c ha hb hc]; exact h.refl _
  · rw [h.neg a ha]; exact h.refl _
  · rw [h.zero a ha]; exact h.refl _
  · rw [k4]; rfl
end Go.Rq

/- The sums of lists that the law adds one by one: contracts. Written by a program of ours. -/
namespace Go.Rq
open Go Go.Proofs

/-- What is asked of points, left open. -/
structure CO (V : Type) where
  ck : Ap V → Bool
  mu : Ap V → W6 → Ap V × Int
  ad : Ap V → Ap V → Ap V × Int

def swF {V : Type} (t : CO V) : Ap V → List (Ap V) → List W6 → Ap V
  | w, [], _ => w
  | w, _ :: _, [] => w
  | w, p :: l, n :: m => swF t (t.ad w (t.mu p n).1).1 l m

def endT (b d : Bool) : Tree AV := .br b (.leaf (kBool.enc d)) (.leaf (.lit false))
theorem endT_ok (b d : Bool) : (endT b d).holds (fun q => flat q = some (kBool.val (bif b then d else false))) := by
  cases b
  · exact ⟨(fun h => by cases h), fun _ => rfl⟩
  · exact ⟨fun _ => rfl, (fun h => by cases h)⟩
section
variable {V : Type} (eqP : Ap V → Ap V → Bool) (np zp : Ap V) (t : CO V)
def lsT (p : Ap V) (e : Int) (l : List (Ap V)) (m : List W6) : Tree AV :=
  bif Nat.beq l.length m.length then chnT t.ck (endT (eqP p np) (e == 5)) (endT (eqP p (swF t zp l m)) (e == 0)) l else endT (eqP p np) (e == 2)
def lsG (z : Ap V × Int) (l : List (Ap V)) (m : List W6) : Bool :=
  bif Nat.beq l.length m.length then (bif allB t.ck l then (bif eqP z.1 (swF t zp l m) then z.2 == 0 else false) else (bif eqP z.1 np then z.2 == 5 else false)) else (bif eqP z.1 np then z.2 == 2 else false)
theorem lsT_ok (p : Ap V) (e : Int) (l : List (Ap V)) (m : List W6) : (lsT eqP np zp t p e l m).holds (fun q => flat q = some (kBool.val (lsG eqP np zp t (p, e) l m))) := by
  unfold lsT lsG
  cases Nat.beq l.length m.length with
  | true =>
    rw [cond_true, cond_true]
    refine chn_holds (fun h => ?_) (fun h => ?_)
    · rw [h]; exact endT_ok _ _
    · rw [h]; exact endT_ok _ _
  | false => exact endT_ok _ _
end


def coO1 : CO W6 := ⟨checkP1, sumP1W, addP1⟩
def lsTW (t : CO W6) : PureTab := [(30, fn1 aW.agg kBool t.ck), (37, fn2 aW.agg c6.agg kPW t.mu), (36, fn2 aW.agg aW.agg kPW t.ad)]
noncomputable def lsEW (t : CO W6) : Env := envH eqsT (lsTW t) []
noncomputable def lsWkW (t : CO W6) (p : Ap W6) (e : Int) (c1 c2 : Nat) (u1 u2 : TypeId) (s1 s2 : SA) (l : List (Ap W6)) (m : List W6) : Tree AV :=
  (afunH PR (lsEW t) [20, 36, 40, 65] 10 58 (joinA 0 (s1.at 0 c1) (s2.at 1 c2) [aW.agg.enc p, (kInt .i64).enc e]) (hpS 0 s1 u1 (encL aW l) ++ (hpS 1 s2 u2 (encL c6 m) ++ [])) 2).strict
set_option maxRecDepth 1000000 in
theorem ls_runW (t : CO W6) (p : Ap W6) (e : Int) (c1 c2 : Nat) (u1 u2 : TypeId) (p0 p1 p2 p3 p4 p5 : Ap W6) (n0 n1 n2 n3 n4 n5 : W6) :
    sizes.map (fun s1 => sizes.map fun s2 => lsWkW t p e c1 c2 u1 u2 s1 s2 ([p0, p1, p2, p3, p4, p5].take s1.len) ([n0, n1, n2, n3, n4, n5].take s2.len)) =
    sizes.map (fun s1 => sizes.map fun s2 => lsT eqP13 ⟨zeroW, zeroW, false⟩ ⟨zeroW, zeroW, true⟩ t p e ([p0, p1, p2, p3, p4, p5].take s1.len) ([n0, n1, n2, n3, n4, n5].take s2.len)) := by kernel_rfl
theorem ls_walkW (t : CO W6) (p : Ap W6) (e : Int) (c1 c2 : Nat) (u1 u2 : TypeId) (s1 s2 : SA) (h1 : s1 ∈ sizes) (h2 : s2 ∈ sizes) (l : List (Ap W6)) (m : List W6) (hl : l.length = s1.len) (hm : m.length = s2.len) :
    lsWkW t p e c1 c2 u1 u2 s1 s2 l m = lsT eqP13 ⟨zeroW, zeroW, false⟩ ⟨zeroW, zeroW, true⟩ t p e l m :=
  two_walks (⟨zeroW, zeroW, false⟩ : Ap W6) zeroW (wk := lsWkW t p e c1 c2 u1 u2) (ex := fun _ _ l m => lsT eqP13 ⟨zeroW, zeroW, false⟩ ⟨zeroW, zeroW, true⟩ t p e l m) (ls_runW t p e c1 c2 u1 u2) sizes_le sizes_le s1 s2 h1 h2 l m hl hm
def lsFW : Ap W6 × Int → List (Ap W6) → List W6 → Bool := lsG eqP13 ⟨zeroW, zeroW, false⟩ ⟨zeroW, zeroW, true⟩ coO1
theorem lsT_okW : TabPOk PR (lsTW coO1) := TabPOk.cons checkp1_ok (TabPOk.cons mulp1_ok (TabPOk.cons addp1_ok TabPOk.nil))
theorem ls_envW : EnvOk PR (lsEW coO1) := envH_ok eqsT_ok lsT_okW TabHOk.nil
theorem ls_okW : HeapOk PR 58 (slV 0 (mc2 aW.agg (kInt .i64)) kBool (okS shA aW c6) (gS aW c6 lsFW)) :=
  slV_ok ls_envW mixed (sym := [20, 36, 40, 65]) (lf := 10) (fn := Try.f58) (c := bodyOf PR 58) (by kernel_rfl) (by kernel_rfl) (by kernel_rfl)
    (fun z s1 s2 c1 c2 t1 t2 l m hs hl hm => givesH (ls_walkW coO1 z.1 z.2 c1 c2 t1 t2 s1 s2 (shA_mem hs).1 (shA_mem hs).2 l m hl hm) (lsT_ok eqP13 ⟨zeroW, zeroW, false⟩ ⟨zeroW, zeroW, true⟩ coO1 z.1 z.2 l m))
theorem ls_entW : Enters PR 58 := enters_of (fn := Try.f58) (by kernel_rfl) (by kernel_rfl) (by kernel_rfl)


def coO2 : CO D6 := ⟨checkP2, sumP1D, addP2⟩
def lsTD (t : CO D6) : PureTab := [(43, fn1 aD.agg kBool t.ck), (50, fn2 aD.agg c6.agg kPD t.mu), (49, fn2 aD.agg aD.agg kPD t.ad)]
noncomputable def lsED (t : CO D6) : Env := envH eqsT (lsTD t) []
noncomputable def lsWkD (t : CO D6) (p : Ap D6) (e : Int) (c1 c2 : Nat) (u1 u2 : TypeId) (s1 s2 : SA) (l : List (Ap D6)) (m : List W6) : Tree AV :=
  (afunH PR (lsED t) [20, 36, 40, 65] 10 59 (joinA 0 (s1.at 0 c1) (s2.at 1 c2) [aD.agg.enc p, (kInt .i64).enc e]) (hpS 0 s1 u1 (encL aD l) ++ (hpS 1 s2 u2 (encL c6 m) ++ [])) 2).strict
set_option maxRecDepth 1000000 in
theorem ls_runD (t : CO D6) (p : Ap D6) (e : Int) (c1 c2 : Nat) (u1 u2 : TypeId) (p0 p1 p2 p3 p4 p5 : Ap D6) (n0 n1 n2 n3 n4 n5 : W6) :
    sizes.map (fun s1 => sizes.map fun s2 => lsWkD t p e c1 c2 u1 u2 s1 s2 ([p0, p1, p2, p3, p4, p5].take s1.len) ([n0, n1, n2, n3, n4, n5].take s2.len)) =
    sizes.map (fun s1 => sizes.map fun s2 => lsT eqP25 ⟨zero2, zero2, false⟩ ⟨zero2, zero2, true⟩ t p e ([p0, p1, p2, p3, p4, p5].take s1.len) ([n0, n1, n2, n3, n4, n5].take s2.len)) := by kernel_rfl
theorem ls_walkD (t : CO D6) (p : Ap D6) (e : Int) (c1 c2 : Nat) (u1 u2 : TypeId) (s1 s2 : SA) (h1 : s1 ∈ sizes) (h2 : s2 ∈ sizes) (l : List (Ap D6)) (m : List W6) (hl : l.length = s1.len) (hm : m.length = s2.len) :
    lsWkD t p e c1 c2 u1 u2 s1 s2 l m = lsT eqP25 ⟨zero2, zero2, false⟩ ⟨zero2, zero2, true⟩ t p e l m :=
  two_walks (⟨zero2, zero2, false⟩ : Ap D6) zeroW (wk := lsWkD t p e c1 c2 u1 u2) (ex := fun _ _ l m => lsT eqP25 ⟨zero2, zero2, false⟩ ⟨zero2, zero2, true⟩ t p e l m) (ls_runD t p e c1 c2 u1 u2) sizes_le sizes_le s1 s2 h1 h2 l m hl hm
def lsFD : Ap D6 × Int → List (Ap D6) → List W6 → Bool := lsG eqP25 ⟨zero2, zero2, false⟩ ⟨zero2, zero2, true⟩ coO2
theorem lsT_okD : TabPOk PR (lsTD coO2) := TabPOk.cons checkp2_ok (TabPOk.cons mulp2_ok (TabPOk.cons addp2_ok TabPOk.nil))
theorem ls_envD : EnvOk PR (lsED coO2) := envH_ok eqsT_ok lsT_okD TabHOk.nil
theorem ls_okD : HeapOk PR 59 (slV 0 (mc2 aD.agg (kInt .i64)) kBool (okS shA aD c6) (gS aD c6 lsFD)) :=
  slV_ok ls_envD mixed (sym := [20, 36, 40, 65]) (lf := 10) (fn := Try.f59) (c := bodyOf PR 59) (by kernel_rfl) (by kernel_rfl) (by kernel_rfl)
    (fun z s1 s2 c1 c2 t1 t2 l m hs hl hm => givesH (ls_walkD coO2 z.1 z.2 c1 c2 t1 t2 s1 s2 (shA_mem hs).1 (shA_mem hs).2 l m hl hm) (lsT_ok eqP25 ⟨zero2, zero2, false⟩ ⟨zero2, zero2, true⟩ coO2 z.1 z.2 l m))
theorem ls_entD : Enters PR 59 := enters_of (fn := Try.f59) (by kernel_rfl) (by kernel_rfl) (by kernel_rfl)

end Go.Rq

/- The reference's sum and difference are the program's. -/
namespace Go.Rq
open Go Go.Proofs

theorem raC_eq (x y : BitVec 64) (c : Bool) : raC x y (bitW c) = bitW (add64 x y c).2 := by
  have hx := x.isLt
  have hy := y.isLt
  have hc := b2n_le c
  have e : (bif BitVec.ult (x + y + bitW c) (x + y) then true else BitVec.ult (x + y) x) = (add64 x y c).2 := by
    have e2 : (add64 x y c).2 = decide (18446744073709551616 ≤ x.toNat + y.toNat + b2n c) := rfl
    have e3 : (x + y + bitW c).toNat = ((x.toNat + y.toNat) % 18446744073709551616 + b2n c) % 18446744073709551616 := by rw [BitVec.toNat_add, BitVec.toNat_add, bitW_nat]
    have e4 : (x + y).toNat = (x.toNat + y.toNat) % 18446744073709551616 := BitVec.toNat_add x y
    rw [e2]
    unfold BitVec.ult
    rw [e3, e4]
    rw [Bool.eq_iff_iff, decide_eq_true_eq]
    by_cases h : ((x.toNat + y.toNat) % 18446744073709551616 + b2n c) % 18446744073709551616 < (x.toNat + y.toNat) % 18446744073709551616
    · rw [decide_eq_true h, cond_true]
      constructor
      · intro _; omega
      · intro _; rfl
    · rw [decide_eq_false h, cond_false, decide_eq_true_eq]
      omega
  unfold raC
  rw [e]
  cases (add64 x y c).2 <;> rfl

theorem rsC_eq (x y : BitVec 64) (c : Bool) : rsC x y (bitW c) = bitW (sub64 x y c).2 := by
  have hx := x.isLt
  have hy := y.isLt
  have hc := b2n_le c
  have e : (bif BitVec.ult (x - y) (bitW c) then true else BitVec.ult x y) = (sub64 x y c).2 := by
    have e2 : (sub64 x y c).2 = decide (x.toNat < y.toNat + b2n c) := rfl
    have e4 : (x - y).toNat = (18446744073709551616 - y.toNat + x.toNat) % 18446744073709551616 := BitVec.toNat_sub x y
    rw [e2]
    unfold BitVec.ult
    rw [e4, bitW_nat]
    rw [Bool.eq_iff_iff, decide_eq_true_eq]
    by_cases h : (18446744073709551616 - y.toNat + x.toNat) % 18446744073709551616 < b2n c
    · rw [decide_eq_true h, cond_true]
      constructor
      · intro _; omega
      · intro _; rfl
    · rw [decide_eq_false h, cond_false, decide_eq_true_eq]
      omega
  unfold rsC
  rw [e]
  cases (sub64 x y c).2 <;> rfl

theorem bitW_beq (c : Bool) : (bitW c == bitW true) = c := by cases c <;> rfl

theorem raddW_eq (a b : W6) : raddW a b = adds a b := by
  simp only [raddW, raC_eq, bitW_beq, adds]
  rfl

theorem rsubW_eq (a b : W6) : rsubW a b = subs a b := by
  simp only [rsubW, rsC_eq, bitW_beq, subs]
  rfl
end Go.Rq

/- The reference's arithmetic of the great prime, as numbers. -/
namespace Go.Rq
open Go Go.Proofs

/-! A row of a product. -/
theorem rowW_eq {t : W8} {a : BitVec 64} {b : W6} {r0 r1 r2 r3 r4 r5 : BitVec 64 × BitVec 64} {s : BitVec 64 × Bool}
    (h0 : mac a b.w0 t.1.w0 (bitW false) = r0) (h1 : mac a b.w1 t.1.w1 r0.2 = r1) (h2 : mac a b.w2 t.1.w2 r1.2 = r2) (h3 : mac a b.w3 t.1.w3 r2.2 = r3) (h4 : mac a b.w4 t.1.w4 r3.2 = r4) (h5 : mac a b.w5 t.1.w5 r4.2 = r5)
    (hs : add64 t.2.1 r5.2 false = s) : rowW t a b = (⟨r0.1, r1.1, r2.1, r3.1, r4.1, r5.1⟩, s.1, t.2.2 + bitW s.2) := by
  subst h0 h1 h2 h3 h4 h5 hs
  rfl

theorem row_sum {p0 t0 r0 c0 p1 t1 r1 c1 p2 t2 r2 c2 p3 t3 r3 c3 p4 t4 r4 c4 p5 t5 r5 c5 w s k : Nat} (e0 : r0 + 18446744073709551616 * c0 = p0 + t0) (e1 : r1 + 18446744073709551616 * c1 = p1 + t1 + c0) (e2 : r2 + 18446744073709551616 * c2 = p2 + t2 + c1) (e3 : r3 + 18446744073709551616 * c3 = p3 + t3 + c2) (e4 : r4 + 18446744073709551616 * c4 = p4 + t4 + c3) (e5 : r5 + 18446744073709551616 * c5 = p5 + t5 + c4) (e6 : s + 18446744073709551616 * k = w + c5) :
    (r0 + 18446744073709551616 * r1 + 340282366920938463463374607431768211456 * r2 + 6277101735386680763835789423207666416102355444464034512896 * r3 + 115792089237316195423570985008687907853269984665640564039457584007913129639936 * r4 + 2135987035920910082395021706169552114602704522356652769947041607822219725780640550022962086936576 * r5) + 39402006196394479212279040100143613805079739270465446667948293404245721771497210611414266254884915640806627990306816 * s + 726838724295606890549323807888004534353641360687318060281490199180639288113397923326191050713763565560762521606266177933534601628614656 * k =
    (t0 + 18446744073709551616 * t1 + 340282366920938463463374607431768211456 * t2 + 6277101735386680763835789423207666416102355444464034512896 * t3 + 115792089237316195423570985008687907853269984665640564039457584007913129639936 * t4 + 2135987035920910082395021706169552114602704522356652769947041607822219725780640550022962086936576 * t5) + 39402006196394479212279040100143613805079739270465446667948293404245721771497210611414266254884915640806627990306816 * w +
    (p0 + 18446744073709551616 * p1 + 340282366920938463463374607431768211456 * p2 + 6277101735386680763835789423207666416102355444464034512896 * p3 + 115792089237316195423570985008687907853269984665640564039457584007913129639936 * p4 + 2135987035920910082395021706169552114602704522356652769947041607822219725780640550022962086936576 * p5) := by
  omega

theorem row_nat (t : W8) (a : BitVec 64) (b : W6) : ∃ c : Bool,
    (rowW t a b).1.val + 39402006196394479212279040100143613805079739270465446667948293404245721771497210611414266254884915640806627990306816 * (rowW t a b).2.1.toNat + 726838724295606890549323807888004534353641360687318060281490199180639288113397923326191050713763565560762521606266177933534601628614656 * b2n c =
      t.1.val + 39402006196394479212279040100143613805079739270465446667948293404245721771497210611414266254884915640806627990306816 * t.2.1.toNat + a.toNat * b.val ∧
    (rowW t a b).2.2 = t.2.2 + bitW c ∧ ∃ k, (rowW t a b).1.w0.toNat + 18446744073709551616 * k = a.toNat * b.w0.toNat + t.1.w0.toNat := by
  obtain ⟨r0, hr0⟩ : ∃ r, mac a b.w0 t.1.w0 (bitW false) = r := ⟨_, rfl⟩
  obtain ⟨r1, hr1⟩ : ∃ r, mac a b.w1 t.1.w1 r0.2 = r := ⟨_, rfl⟩
  obtain ⟨r2, hr2⟩ : ∃ r, mac a b.w2 t.1.w2 r1.2 = r := ⟨_, rfl⟩
  obtain ⟨r3, hr3⟩ : ∃ r, mac a b.w3 t.1.w3 r2.2 = r := ⟨_, rfl⟩
  obtain ⟨r4, hr4⟩ : ∃ r, mac a b.w4 t.1.w4 r3.2 = r := ⟨_, rfl⟩
  obtain ⟨r5, hr5⟩ : ∃ r, mac a b.w5 t.1.w5 r4.2 = r := ⟨_, rfl⟩
  obtain ⟨s, hs⟩ : ∃ s, add64 t.2.1 r5.2 false = s := ⟨_, rfl⟩
  have hres := rowW_eq hr0 hr1 hr2 hr3 hr4 hr5 hs
  have e0 := mac_nat a b.w0 t.1.w0 (bitW false)
  rw [hr0, show (bitW false).toNat = 0 from rfl, Nat.add_zero] at e0
  have e1 := mac_nat a b.w1 t.1.w1 r0.2
  rw [hr1] at e1
  have e2 := mac_nat a b.w2 t.1.w2 r1.2
  rw [hr2] at e2
  have e3 := mac_nat a b.w3 t.1.w3 r2.2
  rw [hr3] at e3
  have e4 := mac_nat a b.w4 t.1.w4 r3.2
  rw [hr4] at e4
  have e5 := mac_nat a b.w5 t.1.w5 r4.2
  rw [hr5] at e5
  have e6 := add64_nat t.2.1 r5.2 false
  rw [hs, show b2n false = 0 from rfl, Nat.add_zero] at e6
  have sum := row_sum e0 e1 e2 e3 e4 e5 e6
  rw [← val_mul a.toNat b] at sum
  refine ⟨s.2, ?_, ?_, r0.2.toNat, ?_⟩
  · rw [hres]; exact sum
  · rw [hres]
  · rw [hres]; exact e0

/-! A round. -/
theorem mt_low {u q p k v0 : Nat} (hq : q * p % 18446744073709551616 = u * 18446744073709551615 % 18446744073709551616) (hv : v0 < 18446744073709551616) (h : v0 + 18446744073709551616 * k = q * p + u) : v0 = 0 := by
  generalize q * p = x at hq h
  omega

theorem mt_end {B T xB U u6 c Q V v6 d : Nat} (hb : B < 4002409555221667393417789825735904156556882819939007885332058136124031650490837864442687629129015664037894272559787) (ht : T < B + 4002409555221667393417789825735904156556882819939007885332058136124031650490837864442687629129015664037894272559787)
    (hx : xB ≤ 18446744073709551615 * B) (hq : Q < 18446744073709551616)
    (hu : U + 39402006196394479212279040100143613805079739270465446667948293404245721771497210611414266254884915640806627990306816 * u6 + 726838724295606890549323807888004534353641360687318060281490199180639288113397923326191050713763565560762521606266177933534601628614656 * c = T + xB)
    (hv : V + 39402006196394479212279040100143613805079739270465446667948293404245721771497210611414266254884915640806627990306816 * v6 + 726838724295606890549323807888004534353641360687318060281490199180639288113397923326191050713763565560762521606266177933534601628614656 * d = U + 39402006196394479212279040100143613805079739270465446667948293404245721771497210611414266254884915640806627990306816 * u6 + Q * 4002409555221667393417789825735904156556882819939007885332058136124031650490837864442687629129015664037894272559787) :
    c = 0 ∧ d = 0 ∧ V + 39402006196394479212279040100143613805079739270465446667948293404245721771497210611414266254884915640806627990306816 * v6 = xB + T + Q * 4002409555221667393417789825735904156556882819939007885332058136124031650490837864442687629129015664037894272559787 ∧
      V + 39402006196394479212279040100143613805079739270465446667948293404245721771497210611414266254884915640806627990306816 * v6 < 18446744073709551616 * (B + 4002409555221667393417789825735904156556882819939007885332058136124031650490837864442687629129015664037894272559787) := by
  have hc : c = 0 := by omega
  subst hc
  have hd : d = 0 := by omega
  subst hd
  refine ⟨rfl, rfl, ?_, ?_⟩ <;> omega

theorem b2n_zero {c : Bool} (h : b2n c = 0) : c = false := by cases c with
  | false => rfl
  | true => cases h

theorem mt_round (b : W6) (x : BitVec 64) (t : W8) (h1 : t.2.1 = 0#64) (h2 : t.2.2 = 0#64) (hb : b.val < pN) (ht : t.1.val < b.val + pN) :
    ∃ q : Nat, (mtRound rowW fastP b x t).2.1 = 0#64 ∧ (mtRound rowW fastP b x t).2.2 = 0#64 ∧ (mtRound rowW fastP b x t).1.val < b.val + pN ∧ 18446744073709551616 * (mtRound rowW fastP b x t).1.val = x.toNat * b.val + t.1.val + q * pN := by
  obtain ⟨u, hue⟩ : ∃ u, rowW t x b = u := ⟨_, rfl⟩
  obtain ⟨v, hve⟩ : ∃ v, rowW u (u.1.w0 * 9940570264628428797#64) primeW = v := ⟨_, rfl⟩
  have hres : mtRound rowW fastP b x t = (⟨v.1.w1, v.1.w2, v.1.w3, v.1.w4, v.1.w5, v.2.1⟩, v.2.2, bitW false) := by
    subst hve hue
    rfl
  obtain ⟨c, hu, hc, -⟩ := row_nat t x b
  obtain ⟨d, hv, hd, k, hl⟩ := row_nat u (u.1.w0 * 9940570264628428797#64) primeW
  rw [hue] at hu hc
  rw [hve] at hv hd hl
  have hq := neg_inv u.1.w0
  rw [BitVec.toNat_mul] at hq
  have z := mt_low hq v.1.w0.isLt hl
  rw [prime_val] at hv
  rw [h1, show (0#64).toNat = 0 from rfl, Nat.mul_zero, Nat.add_zero] at hu
  have xB : x.toNat * b.val ≤ 18446744073709551615 * b.val := Nat.mul_le_mul_right _ (Nat.le_of_lt_succ x.isLt)
  obtain ⟨c0, d0, e1, e2⟩ := mt_end (c := b2n c) (d := b2n d) hb ht xB (u.1.w0 * 9940570264628428797#64).isLt hu hv
  have c0 := b2n_zero c0
  have d0 := b2n_zero d0
  subst c0 d0
  rw [h2] at hc
  rw [hc] at hd
  refine ⟨(u.1.w0 * 9940570264628428797#64).toNat, ?_, ?_, ?_⟩
  · rw [hres]
    show v.2.2 = 0#64
    rw [hd]; rfl
  · rw [hres]; rfl
  · rw [hres]
    have hp : pN = 4002409555221667393417789825735904156556882819939007885332058136124031650490837864442687629129015664037894272559787 := rfl
    rw [hp]
    show (W6.mk v.1.w1 v.1.w2 v.1.w3 v.1.w4 v.1.w5 v.2.1).val < _ ∧ 18446744073709551616 * (W6.mk v.1.w1 v.1.w2 v.1.w3 v.1.w4 v.1.w5 v.2.1).val = _
    have hval : 18446744073709551616 * (W6.mk v.1.w1 v.1.w2 v.1.w3 v.1.w4 v.1.w5 v.2.1).val = v.1.val + 39402006196394479212279040100143613805079739270465446667948293404245721771497210611414266254884915640806627990306816 * v.2.1.toNat := by
      simp only [W6.val]
      omega
    rw [hval]
    refine ⟨?_, e1⟩
    rw [← hval] at e2
    exact Nat.lt_of_mul_lt_mul_left e2

theorem mtRaw_nat (a b : W6) (hb : b.val < pN) : (mtRaw rowW fastP a b).2.1 = 0#64 ∧ (mtRaw rowW fastP a b).1.val < b.val + pN ∧ ∃ Q, 39402006196394479212279040100143613805079739270465446667948293404245721771497210611414266254884915640806627990306816 * (mtRaw rowW fastP a b).1.val = a.val * b.val + Q * pN := by
  have zv : zero8.1.val = 0 := rfl
  have hp : pN = 4002409555221667393417789825735904156556882819939007885332058136124031650490837864442687629129015664037894272559787 := rfl
  unfold mtRaw
  obtain ⟨q1, y1, w1, l1, h1⟩ := mt_round b a.w0 zero8 rfl rfl hb (by rw [zv]; exact Nat.lt_of_lt_of_le (by decide +kernel : 0 < pN) (Nat.le_add_left _ _))
  generalize mtRound rowW fastP b a.w0 zero8 = t1 at y1 w1 l1 h1 ⊢
  obtain ⟨q2, y2, w2, l2, h2⟩ := mt_round b a.w1 t1 y1 w1 hb l1
  generalize mtRound rowW fastP b a.w1 t1 = t2 at y2 w2 l2 h2 ⊢
  obtain ⟨q3, y3, w3, l3, h3⟩ := mt_round b a.w2 t2 y2 w2 hb l2
  generalize mtRound rowW fastP b a.w2 t2 = t3 at y3 w3 l3 h3 ⊢
  obtain ⟨q4, y4, w4, l4, h4⟩ := mt_round b a.w3 t3 y3 w3 hb l3
  generalize mtRound rowW fastP b a.w3 t3 = t4 at y4 w4 l4 h4 ⊢
  obtain ⟨q5, y5, w5, l5, h5⟩ := mt_round b a.w4 t4 y4 w4 hb l4
  generalize mtRound rowW fastP b a.w4 t4 = t5 at y5 w5 l5 h5 ⊢
  obtain ⟨q6, y6, w6, l6, h6⟩ := mt_round b a.w5 t5 y5 w5 hb l5
  generalize mtRound rowW fastP b a.w5 t5 = t6 at y6 w6 l6 h6 ⊢
  refine ⟨y6, l6, q1 + 18446744073709551616 * q2 + 340282366920938463463374607431768211456 * q3 + 6277101735386680763835789423207666416102355444464034512896 * q4 + 115792089237316195423570985008687907853269984665640564039457584007913129639936 * q5 + 2135987035920910082395021706169552114602704522356652769947041607822219725780640550022962086936576 * q6, ?_⟩
  rw [zv, Nat.add_zero] at h1
  rw [hp] at h1 h2 h3 h4 h5 h6 ⊢
  have hb : a.val * b.val = (a.w0.toNat * b.val) + 18446744073709551616 * (a.w1.toNat * b.val) + 340282366920938463463374607431768211456 * (a.w2.toNat * b.val) + 6277101735386680763835789423207666416102355444464034512896 * (a.w3.toNat * b.val) + 115792089237316195423570985008687907853269984665640564039457584007913129639936 * (a.w4.toNat * b.val) + 2135987035920910082395021706169552114602704522356652769947041607822219725780640550022962086936576 * (a.w5.toNat * b.val) := by
    rw [Nat.mul_comm, val_mul]
    simp only [Nat.mul_comm b.val]
  rw [hb]
  exact raw_sum h1 h2 h3 h4 h5 h6

/-! Which is the less. -/
theorem lex_step {M a b x y : Nat} {c : Int} (hx : x < M) (hy : y < M) (h : c < 0 ↔ x < y) : (if a < b then -1 else if b < a then 1 else c) < 0 ↔ x + M * a < y + M * b := by
  rcases Nat.lt_trichotomy a b with h1 | h1 | h1
  · have h2 : M * (a + 1) ≤ M * b := Nat.mul_le_mul_left M h1
    rw [Nat.mul_add, Nat.mul_one] at h2
    rw [if_pos h1]
    generalize M * a = u at *
    generalize M * b = v at *
    omega
  · subst h1
    rw [if_neg (Nat.lt_irrefl _), if_neg (Nat.lt_irrefl _), h]
    generalize M * a = u at *
    omega
  · have h2 : M * (b + 1) ≤ M * a := Nat.mul_le_mul_left M h1
    rw [Nat.mul_add, Nat.mul_one] at h2
    rw [if_neg (Nat.lt_asymm h1), if_pos h1]
    generalize M * a = u at *
    generalize M * b = v at *
    omega

theorem lex_first {a b : Nat} : (if a < b then (-1 : Int) else if b < a then 1 else 0) < 0 ↔ a < b := by
  split
  · omega
  · split <;> omega

theorem cmW_ite (a b : W6) : cmW a b = if a.w5.toNat < b.w5.toNat then -1 else if b.w5.toNat < a.w5.toNat then 1 else if a.w4.toNat < b.w4.toNat then -1 else if b.w4.toNat < a.w4.toNat then 1 else
    if a.w3.toNat < b.w3.toNat then -1 else if b.w3.toNat < a.w3.toNat then 1 else if a.w2.toNat < b.w2.toNat then -1 else if b.w2.toNat < a.w2.toNat then 1 else
    if a.w1.toNat < b.w1.toNat then -1 else if b.w1.toNat < a.w1.toNat then 1 else if a.w0.toNat < b.w0.toNat then -1 else if b.w0.toNat < a.w0.toNat then 1 else 0 := by
  simp only [cmW, cmpL, chainV, BitVec.ult, Bool.cond_decide]

theorem low_words (a0 a1 a2 a3 a4 : BitVec 64) : a0.toNat < 18446744073709551616 ∧ a0.toNat + 18446744073709551616 * a1.toNat < 340282366920938463463374607431768211456 ∧
    a0.toNat + 18446744073709551616 * a1.toNat + 340282366920938463463374607431768211456 * a2.toNat < 6277101735386680763835789423207666416102355444464034512896 ∧
    a0.toNat + 18446744073709551616 * a1.toNat + 340282366920938463463374607431768211456 * a2.toNat + 6277101735386680763835789423207666416102355444464034512896 * a3.toNat < 115792089237316195423570985008687907853269984665640564039457584007913129639936 ∧
    a0.toNat + 18446744073709551616 * a1.toNat + 340282366920938463463374607431768211456 * a2.toNat + 6277101735386680763835789423207666416102355444464034512896 * a3.toNat + 115792089237316195423570985008687907853269984665640564039457584007913129639936 * a4.toNat < 2135987035920910082395021706169552114602704522356652769947041607822219725780640550022962086936576 := by
  have g0 := a0.isLt; have g1 := a1.isLt; have g2 := a2.isLt; have g3 := a3.isLt; have g4 := a4.isLt
  refine ⟨?_, ?_, ?_, ?_, ?_⟩ <;> omega

theorem cmW_nat (a b : W6) : cmW a b < 0 ↔ a.val < b.val := by
  obtain ⟨f0, f1, f2, f3, f4⟩ := low_words a.w0 a.w1 a.w2 a.w3 a.w4
  obtain ⟨g0, g1, g2, g3, g4⟩ := low_words b.w0 b.w1 b.w2 b.w3 b.w4
  rw [cmW_ite]
  exact lex_step f4 g4 (lex_step f3 g3 (lex_step f2 g2 (lex_step f1 g1 (lex_step f0 g0 lex_first))))

theorem subs_lt (m : W6) : (subs m primeW).2 = decide (m.val < pN) := by
  have h1 := subs_nat m primeW
  rw [prime_val] at h1
  have hl := (subs m primeW).1.val_lt
  have hm := m.val_lt
  have hp : pN = 4002409555221667393417789825735904156556882819939007885332058136124031650490837864442687629129015664037894272559787 := rfl
  rw [hp] at h1 ⊢
  cases hb : (subs m primeW).2 with
  | true =>
    rw [hb, show b2n true = 1 from rfl] at h1
    exact (decide_eq_true (by omega)).symm
  | false =>
    rw [hb, show b2n false = 0 from rfl] at h1
    exact (decide_eq_false (by omega)).symm

theorem less_cm (m : W6) : (bif decide (cmW m primeW ≥ 0) then (rsubW m primeW).1 else m) = lessW m := by
  unfold lessW
  rw [subs_lt, rsubW_eq]
  have h := cmW_nat m primeW
  rw [prime_val] at h
  by_cases hm : m.val < pN
  · rw [decide_eq_true hm, decide_eq_false (by have := h.2 hm; omega)]; rfl
  · rw [decide_eq_false hm, decide_eq_true (by have := mt h.1 hm; omega)]; rfl

theorem belowI_nat (a : W6) : belowI a = decide (a.val < pN) := by
  have h := cmW_nat a primeW
  rw [prime_val] at h
  unfold belowI
  rw [show chainV (cmpL a primeW) 0 = cmW a primeW from rfl]
  exact decide_eq_decide.2 h

/-- What is congruent and taken off once. -/
theorem less_mod (m : W6) (h : m.val < 2 * pN) : (lessW m).val = m.val % pN := by
  rw [lessW_nat m h]
  split
  · rename_i hl; exact (Nat.mod_eq_of_lt hl).symm
  · rename_i hn
    generalize pN = p at h hn ⊢
    rw [Nat.mod_eq_sub_mod (by omega), Nat.mod_eq_of_lt (by omega)]

theorem wide_mul {m x Q p R r : Nat} (hr : R * r % p = 1) (h : R * m = x + Q * p) : m % p = x * r % p := by
  have h4 : R * m % p = x % p := by rw [h, Nat.add_mul_mod_self_right]
  have : m * (R * r) % p = m % p := by rw [Nat.mul_mod, hr, Nat.mul_one, Nat.mod_mod]
  rw [← this, show m * (R * r) = R * m * r by rw [← Nat.mul_assoc, Nat.mul_comm m], Nat.mul_mod, h4, ← Nat.mul_mod]

theorem mont_less {R : W8} {f : W6} (h : R.2.1 = 0#64) : (bif R.2.1 != bitW false then (rsubW R.1 f).1 else bif decide (cmW R.1 f ≥ 0) then (rsubW R.1 f).1 else R.1) = (bif decide (cmW R.1 f ≥ 0) then (rsubW R.1 f).1 else R.1) := by
  rw [h]; rfl

theorem montW_nat (a b : W6) (hb : b.val < pN) : (montW fastP a b).val = mulN a.val b.val := by
  obtain ⟨h0, h1, Q, h2⟩ := mtRaw_nat a b hb
  have hm : montW fastP a b = lessW (mtRaw rowW fastP a b).1 := by
    unfold montW
    rw [show fastP.1 = primeW from rfl, mont_less h0, less_cm]
  rw [hm, less_mod _ (Nat.lt_of_lt_of_le h1 (by rw [Nat.two_mul]; exact Nat.add_le_add_right (Nat.le_of_lt hb) _))]
  unfold mulN
  exact wide_mul rinv_ok h2

theorem wide_twice : wideN * rinvN * rinvN % pN = 1 := by decide +kernel
theorem mul_twice {a b r w p : Nat} (h : w * r * r % p = 1) : (a * b * r % p) * w * r % p = a * b % p := by
  rw [Nat.mul_assoc, Nat.mul_mod, Nat.mod_mod, ← Nat.mul_mod, show a * b * r * (w * r) = a * b * (w * r * r) by simp only [Nat.mul_comm, Nat.mul_left_comm], Nat.mul_mod, h, Nat.mul_one, Nat.mod_mod]

/-- The reference's product. -/
theorem rmG_eq (M : Fa → W6 → W6 → W6) (f : Fa) (a b w : W6) (h : f.2.2 = w) : rmG M f a b = M f (M f a b) w := by rw [← h]; rfl
theorem rmulW_two (a b : W6) : rmulW fastP a b = montW fastP (montW fastP a b) wideW := rmG_eq montW fastP a b wideW rfl
theorem rmulW_nat (a b : W6) (hb : b.val < pN) : (rmulW fastP a b).val = a.val * b.val % pN := by
  have h1 := montW_nat a b hb
  have h2 : wideW.val < pN := Nat.lt_of_le_of_lt (Nat.le_of_eq wide_val) wideN_lt
  have h3 := montW_nat (montW fastP a b) wideW h2
  rw [rmulW_two, h3, h1, wide_val]
  unfold mulN
  exact mul_twice wide_twice

theorem rfadd_eq (a b : W6) : rfadd fastP a b = addW a b := by
  unfold rfadd addW
  rw [show fastP.1 = primeW from rfl, less_cm, raddW_eq]

theorem rfadd_nat {a b : W6} (ha : a.val < pN) (hb : b.val < pN) : (rfadd fastP a b).val = (a.val + b.val) % pN := by
  rw [rfadd_eq]
  exact (rep_add ⟨rfl, ha⟩ ⟨rfl, hb⟩).val

theorem rfneg_nat {a : W6} (ha : a.val < pN) : (rfneg fastP a).val = (pN - a.val) % pN := by
  have e : rfneg fastP a = bif eqW a zeroW then a else (rsubW primeW a).1 := rfl
  rw [e]
  cases hz : eqW a zeroW with
  | true =>
    have hz := (eqW_iff a zeroW).1 hz
    subst hz
    rw [cond_true, zero_val, Nat.sub_zero, Nat.mod_self]
  | false =>
    rw [cond_false, rsubW_eq]
    have h1 := subs_nat primeW a
    rw [prime_val] at h1
    have hl := (subs primeW a).1.val_lt
    have hb := b2n_le (subs primeW a).2
    have h0 : a.val ≠ 0 := by
      intro h
      have : a = zeroW := W6.val_inj (by rw [h, zero_val])
      rw [(eqW_iff a zeroW).2 this] at hz
      cases hz
    have hp : pN = 4002409555221667393417789825735904156556882819939007885332058136124031650490837864442687629129015664037894272559787 := rfl
    rw [hp] at h1 ha ⊢
    rw [Nat.mod_eq_of_lt (by omega)]
    generalize b2n (subs primeW a).2 = c at *
    omega

theorem rfsub_nat {a b : W6} (ha : a.val < pN) (hb : b.val < pN) : (rfsub fastP a b).val = (a.val + (pN - b.val) % pN) % pN := by
  unfold rfsub
  have h := rfneg_nat hb
  rw [rfadd_nat ha (by rw [h]; exact Nat.mod_lt _ pN_pos), h]
end Go.Rq
