/- What the functions on points answer at the chapter's examples. -/
import Derived.Test.YtdbcjiggimppdaaRqBr
import Derived.Test.YtdbcjiggimppdaaRqBo
namespace Go.Rq
open Go Go.Proofs

def zeroP : Ap W6 := ⟨zeroW, zeroW, true⟩
def errP : Ap W6 := ⟨zeroW, zeroW, false⟩
def oddP : Ap W6 := ⟨zeroW, ofW 2#64, false⟩
def badP : Ap W6 := ⟨ofW 1#64, zeroW, true⟩
def offP : Ap W6 := ⟨ofW 1#64, ofW 1#64, false⟩
def ngP : Ap W6 := ⟨⟨0xfb3af00adb22c6bb#64, 0x6c55e83ff97a1aef#64, 0xa14e3a3f171bac58#64, 0xc3688c4f9774b905#64, 0x2695638c4fa9ac0f#64, 0x17f1d3a73197d794#64⟩, ⟨0xad54dcd6b939c2ca#64, 0x4e6f38ba0ecb751b#64, 0x6655b9d5caac4236#64, 0x67816aef1db507c9#64, 0xaa7d76c8cf2e21f2#64, 0x114d1d6855d545a8#64⟩, false⟩
def dbP : Ap W6 := ⟨⟨0xc39a8c5529bf0f4e#64, 0xe28f75bb8f1c7c42#64, 0x43902d0ac358a62a#64, 0x9721db3091280125#64, 0x8808c8eb50a9450c#64, 0x572cbea904d6746#64⟩, ⟨0xba86881979749d28#64, 0x4c56d9d4cd16bd1b#64, 0xf73bb9021d5fd76a#64, 0x22ba3ecb8670e461#64, 0x22fda673779d8e38#64, 0x166a9d8cabc673a3#64⟩, false⟩
def moreW : W6 := ⟨0xffffffff00000002#64, 0x53bda402fffe5bfe#64, 0x3339d80809a1d805#64, 0x73eda753299d7d48#64, 0x0#64, 0x0#64⟩
set_option maxRecDepth 1000000 in
theorem below_gen : belowP1 gen1P = true := by kernel_rfl
set_option maxRecDepth 1000000 in
theorem check_gen : checkP1 gen1P = true := by
  rw [check1_of]; kernel_rfl
set_option maxRecDepth 1000000 in
theorem below_zero : belowP1 zeroP = true := by kernel_rfl
set_option maxRecDepth 1000000 in
theorem check_zero : checkP1 zeroP = true := by
  rw [check1_of]; kernel_rfl
set_option maxRecDepth 1000000 in
theorem below_odd : belowP1 oddP = true := by kernel_rfl
set_option maxRecDepth 1000000 in
theorem check_odd : checkP1 oddP = true := by
  rw [check1_of]; kernel_rfl
set_option maxRecDepth 1000000 in
theorem below_bad : belowP1 badP = true := by kernel_rfl
set_option maxRecDepth 1000000 in
theorem check_bad : checkP1 badP = false := by
  rw [check1_of]; kernel_rfl
set_option maxRecDepth 1000000 in
theorem below_off : belowP1 offP = true := by kernel_rfl
set_option maxRecDepth 1000000 in
theorem check_off : checkP1 offP = false := by
  rw [check1_of]; kernel_rfl
set_option maxRecDepth 1000000 in
theorem in_gen : inGroup1 gen1P = true := by
  rw [in1_of]; kernel_rfl
set_option maxRecDepth 1000000 in
theorem in_odd : inGroup1 oddP = false := by
  rw [in1_of]; kernel_rfl
set_option maxRecDepth 1000000 in
theorem below_ng : belowP1 ngP = true := by kernel_rfl
set_option maxRecDepth 1000000 in
theorem neg_gen : negP1 gen1P = (ngP, 0) := neg1_of check_gen (by kernel_rfl) (by kernel_rfl) rfl
set_option maxRecDepth 1000000 in
theorem add_ng : addP1 gen1P ngP = (zeroP, 0) := add1_of below_gen below_ng (by kernel_rfl)
set_option maxRecDepth 1000000 in
theorem add_off : addP1 gen1P offP = (errP, 5) := add1_of below_gen below_off (by kernel_rfl)
set_option maxRecDepth 1000000 in
theorem add_gen : addP1 gen1P gen1P = (dbP, 0) := add1_of below_gen below_gen (by kernel_rfl)
set_option maxRecDepth 1000000 in
theorem mul_zero : sumP1W gen1P zeroW = (zeroP, 0) := mul1_of below_gen (by kernel_rfl)
set_option maxRecDepth 1000000 in
theorem mul_order : sumP1W gen1P orderW = (zeroP, 0) := mul1_of below_gen (by kernel_rfl)
set_option maxRecDepth 1000000 in
theorem mul_two : sumP1W gen1P (ofW 2#64) = (dbP, 0) := mul1_of below_gen (by kernel_rfl)
set_option maxRecDepth 1000000 in
theorem below_gen2 : belowP2 gen2P = true := by kernel_rfl
set_option maxRecDepth 1000000 in
theorem check_gen2 : checkP2 gen2P = true := by
  rw [check2_of]; kernel_rfl
set_option maxRecDepth 1000000 in
theorem mul_more : sumP1D gen2P moreW = (gen2P, 0) := mul2_of below_gen2 (by kernel_rfl)
end Go.Rq
