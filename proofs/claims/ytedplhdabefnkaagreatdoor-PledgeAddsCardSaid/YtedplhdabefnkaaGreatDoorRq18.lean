import Derived.Test.YtedplhdabefnkaaGreatDoorRq04
import Derived.Test.YtedplhdabefnkaaGreatDoorRq17
import Derived.Test.YtedplhdabefnkaaGreatDoorRq06
import Derived.Test.YtedplhdabefnkaaGreatDoorRq05
namespace Go.Rq
open Go Go.Proofs
def genS0:ByteArray:=⟨#[49,55,102,49,100,51,97,55,51,49,57,55,100,55,57,52,50,54,57,53,54,51,56,99,52,102,97,57,97,99,48,102,99,51,54,56,56,99,52,102,57,55,55,52,98,57,48,53,97,49,52,101,51,97,51,102,49,55,49,98,97,99,53,56,54,99,53,53,101,56,51,102,102,57,55,97,49,97,101,102,102,98,51,97,102,48,48,97,100,98,50,50,99,54,98,98]⟩
def genN0:W6:=⟨0xfb3af00adb22c6bb#64,0x6c55e83ff97a1aef#64,0xa14e3a3f171bac58#64,0xc3688c4f9774b905#64,0x2695638c4fa9ac0f#64,0x17f1d3a73197d794#64⟩
def genS1:ByteArray:=⟨#[56,98,51,102,52,56,49,101,51,97,97,97,48,102,49,97,48,57,101,51,48,101,100,55,52,49,100,56,97,101,52,102,99,102,53,101,48,57,53,100,53,100,48,48,97,102,54,48,48,100,98,49,56,99,98,50,99,48,52,98,51,101,100,100,48,51,99,99,55,52,52,97,50,56,56,56,97,101,52,48,99,97,97,50,51,50,57,52,54,99,53,101,55,101,49]⟩
def genN1:W6:=⟨0xcaa232946c5e7e1#64,0xd03cc744a2888ae4#64,0xdb18cb2c04b3ed#64,0xfcf5e095d5d00af6#64,0xa09e30ed741d8ae4#64,0x8b3f481e3aaa0f1#64⟩
def genS2:ByteArray:=⟨#[50,52,97,97,50,98,50,102,48,56,102,48,97,57,49,50,54,48,56,48,53,50,55,50,100,99,53,49,48,53,49,99,54,101,52,55,97,100,52,102,97,52,48,51,98,48,50,98,52,53,49,48,98,54,52,55,97,101,51,100,49,55,55,48,98,97,99,48,51,50,54,97,56,48,53,98,98,101,102,100,52,56,48,53,54,99,56,99,49,50,49,98,100,98,56]⟩
def genN2:W6:=⟨0xd48056c8c121bdb8#64,0xbac0326a805bbef#64,0xb4510b647ae3d177#64,0xc6e47ad4fa403b02#64,0x260805272dc51051#64,0x24aa2b2f08f0a91#64⟩
def genS3:ByteArray:=⟨#[49,51,101,48,50,98,54,48,53,50,55,49,57,102,54,48,55,100,97,99,100,51,97,48,56,56,50,55,52,102,54,53,53,57,54,98,100,48,100,48,57,57,50,48,98,54,49,97,98,53,100,97,54,49,98,98,100,99,55,102,53,48,52,57,51,51,52,99,102,49,49,50,49,51,57,52,53,100,53,55,101,53,97,99,55,100,48,53,53,100,48,52,50,98,55,101]⟩
def genN3:W6:=⟨0xe5ac7d055d042b7e#64,0x334cf11213945d57#64,0xb5da61bbdc7f5049#64,0x596bd0d09920b61a#64,0x7dacd3a088274f65#64,0x13e02b6052719f60#64⟩
def genS4:ByteArray:=⟨#[99,101,53,100,53,50,55,55,50,55,100,54,101,49,49,56,99,99,57,99,100,99,54,100,97,50,101,51,53,49,97,97,100,102,100,57,98,97,97,56,99,98,100,100,51,97,55,54,100,52,50,57,97,54,57,53,49,54,48,100,49,50,99,57,50,51,97,99,57,99,99,51,98,97,99,97,50,56,57,101,49,57,51,53,52,56,54,48,56,98,56,50,56,48,49]⟩
def genN4:W6:=⟨0xe193548608b82801#64,0x923ac9cc3baca289#64,0x6d429a695160d12c#64,0xadfd9baa8cbdd3a7#64,0x8cc9cdc6da2e351a#64,0xce5d527727d6e11#64⟩
def genS5:ByteArray:=⟨#[54,48,54,99,52,97,48,50,101,97,55,51,52,99,99,51,50,97,99,100,50,98,48,50,98,99,50,56,98,57,57,99,98,51,101,50,56,55,101,56,53,97,55,54,51,97,102,50,54,55,52,57,50,97,98,53,55,50,101,57,57,97,98,51,102,51,55,48,100,50,55,53,99,101,99,49,100,97,49,97,97,97,57,48,55,53,102,102,48,53,102,55,57,98,101]⟩
def genN5:W6:=⟨0xaaa9075ff05f79be#64,0x3f370d275cec1da1#64,0x267492ab572e99ab#64,0xcb3e287e85a763af#64,0x32acd2b02bc28b99#64,0x606c4a02ea734cc#64⟩
def kNE:Cod (W6 × Int):=kTup c6.agg (kInt .i64) (fun _=>rfl) (fun _=>rfl)
set_option maxRecDepth 1000000 in
theorem genP0:(afunR PR (envOf eqsT parseT) [] (fun _=>none) 110 168 [kStr.enc genS0]).strict=.leaf (kNE.enc (genN0,0)):=by kernel_rfl
set_option maxRecDepth 1000000 in
theorem genP1:(afunR PR (envOf eqsT parseT) [] (fun _=>none) 110 168 [kStr.enc genS1]).strict=.leaf (kNE.enc (genN1,0)):=by kernel_rfl
set_option maxRecDepth 1000000 in
theorem genP2:(afunR PR (envOf eqsT parseT) [] (fun _=>none) 110 168 [kStr.enc genS2]).strict=.leaf (kNE.enc (genN2,0)):=by kernel_rfl
set_option maxRecDepth 1000000 in
theorem genP3:(afunR PR (envOf eqsT parseT) [] (fun _=>none) 110 168 [kStr.enc genS3]).strict=.leaf (kNE.enc (genN3,0)):=by kernel_rfl
set_option maxRecDepth 1000000 in
theorem genP4:(afunR PR (envOf eqsT parseT) [] (fun _=>none) 110 168 [kStr.enc genS4]).strict=.leaf (kNE.enc (genN4,0)):=by kernel_rfl
set_option maxRecDepth 1000000 in
theorem genP5:(afunR PR (envOf eqsT parseT) [] (fun _=>none) 110 168 [kStr.enc genS5]).strict=.leaf (kNE.enc (genN5,0)):=by kernel_rfl
def eqStr (a b:ByteArray):Bool:=a.data.toList == b.data.toList
theorem eqStr_ok (a b:ByteArray) (h:eqStr a b=true):a=b:=by
 have h:=eq_of_beq h
 cases a;cases b
 simp at h
 rw [h]
def genT:List (ByteArray × (W6 × Int)):=[(genS0,(genN0,0)),(genS1,(genN1,0)),(genS2,(genN2,0)),(genS3,(genN3,0)),(genS4,(genN4,0)),(genS5,(genN5,0))]
theorem parse_ok:CallOk PR 168 (fnT1 kStr kNE eqStr genT) :=
 .inl ⟨entersB (by kernel_rfl),tabT1 (B:=kNE) parse_ctx eqStr_ok (fun p hp=>by
  simp only [genT,List.mem_cons,List.not_mem_nil,or_false] at hp
  rcases hp with rfl | rfl | rfl | rfl | rfl | rfl
  . exact leafVal (B:=kNE) genP0
  . exact leafVal (B:=kNE) genP1
  . exact leafVal (B:=kNE) genP2
  . exact leafVal (B:=kNE) genP3
  . exact leafVal (B:=kNE) genP4
  . exact leafVal (B:=kNE) genP5)⟩
def numT:PureTab:=[(168,fnT1 kStr kNE eqStr genT)]
theorem numT_ok:TabPOk PR numT:=TabPOk.cons parse_ok TabPOk.nil
theorem num_ctx:Ctx PR (envOf eqsT numT) [] (fun _=>none) 40 107 :=
 ctxB (envOf_ok eqsT_ok numT_ok) mixed (by kernel_rfl)
def genU:List (ByteArray × W6):=[(genS0,genN0),(genS1,genN1),(genS2,genN2),(genS3,genN3),(genS4,genN4),(genS5,genN5)]
theorem genQ0:(afunR PR (envOf eqsT numT) [] (fun _=>none) 40 107 [kStr.enc genS0]).strict=.leaf (c6.agg.enc genN0):=by kernel_rfl
theorem genQ1:(afunR PR (envOf eqsT numT) [] (fun _=>none) 40 107 [kStr.enc genS1]).strict=.leaf (c6.agg.enc genN1):=by kernel_rfl
theorem genQ2:(afunR PR (envOf eqsT numT) [] (fun _=>none) 40 107 [kStr.enc genS2]).strict=.leaf (c6.agg.enc genN2):=by kernel_rfl
theorem genQ3:(afunR PR (envOf eqsT numT) [] (fun _=>none) 40 107 [kStr.enc genS3]).strict=.leaf (c6.agg.enc genN3):=by kernel_rfl
theorem genQ4:(afunR PR (envOf eqsT numT) [] (fun _=>none) 40 107 [kStr.enc genS4]).strict=.leaf (c6.agg.enc genN4):=by kernel_rfl
theorem genQ5:(afunR PR (envOf eqsT numT) [] (fun _=>none) 40 107 [kStr.enc genS5]).strict=.leaf (c6.agg.enc genN5):=by kernel_rfl
theorem num_ok:CallOk PR 107 (fnT1 kStr c6.agg eqStr genU) :=
 .inl ⟨entersB (by kernel_rfl),tabT1 (B:=c6.agg) num_ctx eqStr_ok (fun p hp=>by
  simp only [genU,List.mem_cons,List.not_mem_nil,or_false] at hp
  rcases hp with rfl | rfl | rfl | rfl | rfl | rfl
  . exact leafVal (B:=c6.agg) genQ0
  . exact leafVal (B:=c6.agg) genQ1
  . exact leafVal (B:=c6.agg) genQ2
  . exact leafVal (B:=c6.agg) genQ3
  . exact leafVal (B:=c6.agg) genQ4
  . exact leafVal (B:=c6.agg) genQ5)⟩
def genT1:PureTab:=[(107,fnT1 kStr c6.agg eqStr genU)]
theorem genT1_ok:TabPOk PR genT1:=TabPOk.cons num_ok TabPOk.nil
def gen1P:Ap W6:=⟨genN0,genN1,false⟩
theorem gen1_ctx:Ctx PR (envOf eqsT genT1) [] (fun _=>none) 40 58 :=
 ctxB (envOf_ok eqsT_ok genT1_ok) mixed (by kernel_rfl)
theorem gen1_run:(afunR PR (envOf eqsT genT1) [] (fun _=>none) 40 58 []).strict=.leaf (.agg (c6.enc genN0 ++ (c6.enc genN1 ++ [.lit false]))):=by kernel_rfl
theorem gen1_ok:CallOk PR 58 (fn0 (cAp c6).agg gen1P) :=
 .inl ⟨entersB (by kernel_rfl),pure0 gen1_ctx (givesOf gen1_run (holds_leaf (apFlatW _ _ _)))⟩
end Go.Rq
