/-
  NARROWER THAN 'FOR EVERY INPUT', by the rows' own cells (each row's printed sentence says how): PledgeKnown: laid · ProofKnown: laid · SchnorrNone: laid · SchnorrKnown: laid · ElgamalNone: laid · ElgamalKnown: laid · RefreshKnown: laid · DkgKnown: laid · DkgNone: laid · RefreshNone: laid.
  DERIVED. THE GIVEN ROWS OF THIS SEAT. 10 by the template 'for every input the law returns true; each argument reads behind the call as it read before'; 0 by the template 'total and deterministic' (their statements: YtcboekjnibppdaaGreatDoorTotals.lean).
  GIVEN WITH THE SEED: the statements are not yours to turn. If you find one false, say at which input.
  Laid BY PROGRAM, IN A SANDBOX (cutbox-rows.mjs): the forced cells as the released guide's own fill.sh prints them over the translation ecfbefe4e6883e4e… (all of the seat's roots in one cut). By AI agents, Wed Nov 11 2026. No macro, syntax, notation, axiom, sorry.
-/
import Derived.Test.YtcboekjnibppdaaGreatDoorChecked
import GoSem.Claim
import GoSem.ClaimJoined
import GoSem.ClaimMapViews
import Derived.JoinedTies
import Derived.KernelRfl
namespace Go.Proofs.YtcboekjnibppdaaGreatDoor
/- THE CELL 'sum', in the pinned program and in every row, IS THE sha256 OF THE DUMP (.gsa) THAT YtcboekjnibppdaaGreatDoorProg.lean LOADS. Nothing in Lean hashes anything: it is a label: what it is worth is what the hold of that sum in a sandbox is worth. -/
noncomputable def Tryz.pinned : Pinned := { name := "ytcboekjnibppdaagreatdoor", sum := "ecfbefe4e6883e4ed0c40a7382aa53407549e3b0c2df6de29604df95d73c7663", checked := Tryz.checked }
namespace Rows
def none {H : Type} : Left H := { results := [], args := [] }

/- WHAT THE LISTED PACKAGE-LEVEL VARIABLES READ AS WHEN THE CALL BEGINS. Each datum BY PROGRAM (the guide's laid-datum.mjs) off the statement by which the dump's own 'gosem.cut.vars' lays the variable. In a bare row this is a premise. The card (YtcboekjnibppdaaGreatDoorCards.lean) ties it to the program's text. -/
def laid_reliquary_digest_k {H : Type} : DataW H := .agg [.lit (.int .u32 1116352408), .lit (.int .u32 1899447441), .lit (.int .u32 3049323471), .lit (.int .u32 3921009573), .lit (.int .u32 961987163), .lit (.int .u32 1508970993), .lit (.int .u32 2453635748), .lit (.int .u32 2870763221), .lit (.int .u32 3624381080), .lit (.int .u32 310598401), .lit (.int .u32 607225278), .lit (.int .u32 1426881987), .lit (.int .u32 1925078388), .lit (.int .u32 2162078206), .lit (.int .u32 2614888103), .lit (.int .u32 3248222580), .lit (.int .u32 3835390401), .lit (.int .u32 4022224774), .lit (.int .u32 264347078), .lit (.int .u32 604807628), .lit (.int .u32 770255983), .lit (.int .u32 1249150122), .lit (.int .u32 1555081692), .lit (.int .u32 1996064986), .lit (.int .u32 2554220882), .lit (.int .u32 2821834349), .lit (.int .u32 2952996808), .lit (.int .u32 3210313671), .lit (.int .u32 3336571891), .lit (.int .u32 3584528711), .lit (.int .u32 113926993), .lit (.int .u32 338241895), .lit (.int .u32 666307205), .lit (.int .u32 773529912), .lit (.int .u32 1294757372), .lit (.int .u32 1396182291), .lit (.int .u32 1695183700), .lit (.int .u32 1986661051), .lit (.int .u32 2177026350), .lit (.int .u32 2456956037), .lit (.int .u32 2730485921), .lit (.int .u32 2820302411), .lit (.int .u32 3259730800), .lit (.int .u32 3345764771), .lit (.int .u32 3516065817), .lit (.int .u32 3600352804), .lit (.int .u32 4094571909), .lit (.int .u32 275423344), .lit (.int .u32 430227734), .lit (.int .u32 506948616), .lit (.int .u32 659060556), .lit (.int .u32 883997877), .lit (.int .u32 958139571), .lit (.int .u32 1322822218), .lit (.int .u32 1537002063), .lit (.int .u32 1747873779), .lit (.int .u32 1955562222), .lit (.int .u32 2024104815), .lit (.int .u32 2227730452), .lit (.int .u32 2361852424), .lit (.int .u32 2428436474), .lit (.int .u32 2756734187), .lit (.int .u32 3204031479), .lit (.int .u32 3329325298)]

/-- 'reliquarylaw20.PledgeKnown': WHATEVER THE INPUT: true; the input reads as it did. -/
def pledgeKnownSpec : ChangeSpec := { name := "pledgeKnown", fn := fun _ => fun
  | [] => { results := [.lit (.bool true)], args := [] }
  | _ => none }
def pledgeKnownRow : OpenClaim := { program := "ytcboekjnibppdaagreatdoor", sum := "ecfbefe4e6883e4ed0c40a7382aa53407549e3b0c2df6de29604df95d73c7663", func := "reliquary/reliquarylaw20.PledgeKnown", spec := "pledgeKnown", inPlace := ["internal/bytealg.IndexByteString", "math/bits.Sub64", "math/bits.Add64"], unfollowed := true, recurses := true, named := ["reliquary/digest.k", "math/bits.divideError", "math/bits.overflowError"], plainKeys := false, apart := false, laid := [("reliquary/digest.k", laid_reliquary_digest_k)] }
def PledgeKnownSaid : Prop := pledgeKnownRow.holds Tryz.pinned (OpenSpec.ofChange pledgeKnownSpec)

/-- ITS FALSE NEIGHBOUR: 'it returns false'. Refute it at one input. -/
def pledgeKnownWrong : ChangeSpec := { name := "pledgeKnown", fn := fun _ => fun
  | [] => { results := [.lit (.bool false)], args := [] }
  | _ => none }
def PledgeKnownWrongFalsely : Prop := pledgeKnownRow.holds Tryz.pinned (OpenSpec.ofChange pledgeKnownWrong)

/-- 'reliquarylaw21.ProofKnown': WHATEVER THE INPUT: true; the input reads as it did. -/
def proofKnownSpec : ChangeSpec := { name := "proofKnown", fn := fun _ => fun
  | [] => { results := [.lit (.bool true)], args := [] }
  | _ => none }
def proofKnownRow : OpenClaim := { program := "ytcboekjnibppdaagreatdoor", sum := "ecfbefe4e6883e4ed0c40a7382aa53407549e3b0c2df6de29604df95d73c7663", func := "reliquary/reliquarylaw21.ProofKnown", spec := "proofKnown", inPlace := ["internal/bytealg.IndexByteString", "math/bits.Sub64", "math/bits.Add64"], unfollowed := true, recurses := true, named := ["reliquary/digest.k", "math/bits.divideError", "math/bits.overflowError"], plainKeys := false, apart := false, laid := [("reliquary/digest.k", laid_reliquary_digest_k)] }
def ProofKnownSaid : Prop := proofKnownRow.holds Tryz.pinned (OpenSpec.ofChange proofKnownSpec)

/-- ITS FALSE NEIGHBOUR: 'it returns false'. Refute it at one input. -/
def proofKnownWrong : ChangeSpec := { name := "proofKnown", fn := fun _ => fun
  | [] => { results := [.lit (.bool false)], args := [] }
  | _ => none }
def ProofKnownWrongFalsely : Prop := proofKnownRow.holds Tryz.pinned (OpenSpec.ofChange proofKnownWrong)

/-- 'reliquarylaw24.SchnorrNone': WHATEVER THE INPUT: true; the input reads as it did. -/
def schnorrNoneSpec : ChangeSpec := { name := "schnorrNone", fn := fun _ => fun
  | [d1, d2] => { results := [.lit (.bool true)], args := [d1, d2] }
  | _ => none }
def schnorrNoneRow : OpenClaim := { program := "ytcboekjnibppdaagreatdoor", sum := "ecfbefe4e6883e4ed0c40a7382aa53407549e3b0c2df6de29604df95d73c7663", func := "reliquary/reliquarylaw24.SchnorrNone", spec := "schnorrNone", inPlace := ["math/bits.Add64", "math/bits.Sub64", "internal/bytealg.IndexByteString"], unfollowed := true, recurses := true, named := ["math/bits.divideError", "math/bits.overflowError", "reliquary/digest.k"], plainKeys := false, apart := false, laid := [("reliquary/digest.k", laid_reliquary_digest_k)] }
def SchnorrNoneSaid : Prop := schnorrNoneRow.holds Tryz.pinned (OpenSpec.ofChange schnorrNoneSpec)

/-- ITS FALSE NEIGHBOUR: 'it returns false'. Refute it at one input. -/
def schnorrNoneWrong : ChangeSpec := { name := "schnorrNone", fn := fun _ => fun
  | [d1, d2] => { results := [.lit (.bool false)], args := [d1, d2] }
  | _ => none }
def SchnorrNoneWrongFalsely : Prop := schnorrNoneRow.holds Tryz.pinned (OpenSpec.ofChange schnorrNoneWrong)

/-- 'reliquarylaw24.SchnorrKnown': WHATEVER THE INPUT: true; the input reads as it did. -/
def schnorrKnownSpec : ChangeSpec := { name := "schnorrKnown", fn := fun _ => fun
  | [] => { results := [.lit (.bool true)], args := [] }
  | _ => none }
def schnorrKnownRow : OpenClaim := { program := "ytcboekjnibppdaagreatdoor", sum := "ecfbefe4e6883e4ed0c40a7382aa53407549e3b0c2df6de29604df95d73c7663", func := "reliquary/reliquarylaw24.SchnorrKnown", spec := "schnorrKnown", inPlace := ["math/bits.Sub64", "math/bits.Add64", "internal/bytealg.IndexByteString"], unfollowed := true, recurses := true, named := ["math/bits.divideError", "math/bits.overflowError", "reliquary/digest.k"], plainKeys := false, apart := false, laid := [("reliquary/digest.k", laid_reliquary_digest_k)] }
def SchnorrKnownSaid : Prop := schnorrKnownRow.holds Tryz.pinned (OpenSpec.ofChange schnorrKnownSpec)

/-- ITS FALSE NEIGHBOUR: 'it returns false'. Refute it at one input. -/
def schnorrKnownWrong : ChangeSpec := { name := "schnorrKnown", fn := fun _ => fun
  | [] => { results := [.lit (.bool false)], args := [] }
  | _ => none }
def SchnorrKnownWrongFalsely : Prop := schnorrKnownRow.holds Tryz.pinned (OpenSpec.ofChange schnorrKnownWrong)

/-- 'reliquarylaw26.ElgamalNone': WHATEVER THE INPUT: true; the input reads as it did. -/
def elgamalNoneSpec : ChangeSpec := { name := "elgamalNone", fn := fun _ => fun
  | [d1, d2] => { results := [.lit (.bool true)], args := [d1, d2] }
  | _ => none }
def elgamalNoneRow : OpenClaim := { program := "ytcboekjnibppdaagreatdoor", sum := "ecfbefe4e6883e4ed0c40a7382aa53407549e3b0c2df6de29604df95d73c7663", func := "reliquary/reliquarylaw26.ElgamalNone", spec := "elgamalNone", inPlace := ["math/bits.Add64", "math/bits.Sub64", "internal/bytealg.IndexByteString"], unfollowed := true, recurses := true, named := ["math/bits.divideError", "math/bits.overflowError", "reliquary/digest.k"], plainKeys := false, apart := false, laid := [("reliquary/digest.k", laid_reliquary_digest_k)] }
def ElgamalNoneSaid : Prop := elgamalNoneRow.holds Tryz.pinned (OpenSpec.ofChange elgamalNoneSpec)

/-- ITS FALSE NEIGHBOUR: 'it returns false'. Refute it at one input. -/
def elgamalNoneWrong : ChangeSpec := { name := "elgamalNone", fn := fun _ => fun
  | [d1, d2] => { results := [.lit (.bool false)], args := [d1, d2] }
  | _ => none }
def ElgamalNoneWrongFalsely : Prop := elgamalNoneRow.holds Tryz.pinned (OpenSpec.ofChange elgamalNoneWrong)

/-- 'reliquarylaw26.ElgamalKnown': WHATEVER THE INPUT: true; the input reads as it did. -/
def elgamalKnownSpec : ChangeSpec := { name := "elgamalKnown", fn := fun _ => fun
  | [] => { results := [.lit (.bool true)], args := [] }
  | _ => none }
def elgamalKnownRow : OpenClaim := { program := "ytcboekjnibppdaagreatdoor", sum := "ecfbefe4e6883e4ed0c40a7382aa53407549e3b0c2df6de29604df95d73c7663", func := "reliquary/reliquarylaw26.ElgamalKnown", spec := "elgamalKnown", inPlace := ["internal/bytealg.IndexByteString", "math/bits.Add64", "math/bits.Sub64"], unfollowed := true, recurses := true, named := ["math/bits.divideError", "math/bits.overflowError", "reliquary/digest.k"], plainKeys := false, apart := false, laid := [("reliquary/digest.k", laid_reliquary_digest_k)] }
def ElgamalKnownSaid : Prop := elgamalKnownRow.holds Tryz.pinned (OpenSpec.ofChange elgamalKnownSpec)

/-- ITS FALSE NEIGHBOUR: 'it returns false'. Refute it at one input. -/
def elgamalKnownWrong : ChangeSpec := { name := "elgamalKnown", fn := fun _ => fun
  | [] => { results := [.lit (.bool false)], args := [] }
  | _ => none }
def ElgamalKnownWrongFalsely : Prop := elgamalKnownRow.holds Tryz.pinned (OpenSpec.ofChange elgamalKnownWrong)

/-- 'reliquarylaw23.RefreshKnown': WHATEVER THE INPUT: true; the input reads as it did. -/
def refreshKnownSpec : ChangeSpec := { name := "refreshKnown", fn := fun _ => fun
  | [] => { results := [.lit (.bool true)], args := [] }
  | _ => none }
def refreshKnownRow : OpenClaim := { program := "ytcboekjnibppdaagreatdoor", sum := "ecfbefe4e6883e4ed0c40a7382aa53407549e3b0c2df6de29604df95d73c7663", func := "reliquary/reliquarylaw23.RefreshKnown", spec := "refreshKnown", inPlace := ["internal/bytealg.IndexByteString", "math/bits.Sub64", "math/bits.Add64"], unfollowed := true, recurses := true, named := ["reliquary/digest.k", "math/bits.divideError", "math/bits.overflowError"], plainKeys := false, apart := false, laid := [("reliquary/digest.k", laid_reliquary_digest_k)] }
def RefreshKnownSaid : Prop := refreshKnownRow.holds Tryz.pinned (OpenSpec.ofChange refreshKnownSpec)

/-- ITS FALSE NEIGHBOUR: 'it returns false'. Refute it at one input. -/
def refreshKnownWrong : ChangeSpec := { name := "refreshKnown", fn := fun _ => fun
  | [] => { results := [.lit (.bool false)], args := [] }
  | _ => none }
def RefreshKnownWrongFalsely : Prop := refreshKnownRow.holds Tryz.pinned (OpenSpec.ofChange refreshKnownWrong)

/-- 'reliquarylaw22.DkgKnown': WHATEVER THE INPUT: true; the input reads as it did. -/
def dkgKnownSpec : ChangeSpec := { name := "dkgKnown", fn := fun _ => fun
  | [] => { results := [.lit (.bool true)], args := [] }
  | _ => none }
def dkgKnownRow : OpenClaim := { program := "ytcboekjnibppdaagreatdoor", sum := "ecfbefe4e6883e4ed0c40a7382aa53407549e3b0c2df6de29604df95d73c7663", func := "reliquary/reliquarylaw22.DkgKnown", spec := "dkgKnown", inPlace := ["internal/bytealg.IndexByteString", "math/bits.Sub64", "math/bits.Add64"], unfollowed := true, recurses := true, named := ["reliquary/digest.k", "math/bits.divideError", "math/bits.overflowError"], plainKeys := false, apart := false, laid := [("reliquary/digest.k", laid_reliquary_digest_k)] }
def DkgKnownSaid : Prop := dkgKnownRow.holds Tryz.pinned (OpenSpec.ofChange dkgKnownSpec)

/-- ITS FALSE NEIGHBOUR: 'it returns false'. Refute it at one input. -/
def dkgKnownWrong : ChangeSpec := { name := "dkgKnown", fn := fun _ => fun
  | [] => { results := [.lit (.bool false)], args := [] }
  | _ => none }
def DkgKnownWrongFalsely : Prop := dkgKnownRow.holds Tryz.pinned (OpenSpec.ofChange dkgKnownWrong)

/-- 'reliquarylaw22.DkgNone': WHATEVER THE INPUT: true; the input reads as it did. -/
def dkgNoneSpec : ChangeSpec := { name := "dkgNone", fn := fun _ => fun
  | [d1, d2] => { results := [.lit (.bool true)], args := [d1, d2] }
  | _ => none }
def dkgNoneRow : OpenClaim := { program := "ytcboekjnibppdaagreatdoor", sum := "ecfbefe4e6883e4ed0c40a7382aa53407549e3b0c2df6de29604df95d73c7663", func := "reliquary/reliquarylaw22.DkgNone", spec := "dkgNone", inPlace := ["math/bits.Add64", "math/bits.Sub64", "internal/bytealg.IndexByteString"], unfollowed := true, recurses := true, named := ["math/bits.divideError", "math/bits.overflowError", "reliquary/digest.k"], plainKeys := false, apart := false, laid := [("reliquary/digest.k", laid_reliquary_digest_k)] }
def DkgNoneSaid : Prop := dkgNoneRow.holds Tryz.pinned (OpenSpec.ofChange dkgNoneSpec)

/-- ITS FALSE NEIGHBOUR: 'it returns false'. Refute it at one input. -/
def dkgNoneWrong : ChangeSpec := { name := "dkgNone", fn := fun _ => fun
  | [d1, d2] => { results := [.lit (.bool false)], args := [d1, d2] }
  | _ => none }
def DkgNoneWrongFalsely : Prop := dkgNoneRow.holds Tryz.pinned (OpenSpec.ofChange dkgNoneWrong)

/-- 'reliquarylaw23.RefreshNone': WHATEVER THE INPUT: true; the input reads as it did. -/
def refreshNoneSpec : ChangeSpec := { name := "refreshNone", fn := fun _ => fun
  | [d1, d2] => { results := [.lit (.bool true)], args := [d1, d2] }
  | _ => none }
def refreshNoneRow : OpenClaim := { program := "ytcboekjnibppdaagreatdoor", sum := "ecfbefe4e6883e4ed0c40a7382aa53407549e3b0c2df6de29604df95d73c7663", func := "reliquary/reliquarylaw23.RefreshNone", spec := "refreshNone", inPlace := ["math/bits.Sub64", "math/bits.Add64", "internal/bytealg.IndexByteString"], unfollowed := true, recurses := true, named := ["reliquary/digest.k", "math/bits.divideError", "math/bits.overflowError"], plainKeys := false, apart := false, laid := [("reliquary/digest.k", laid_reliquary_digest_k)] }
def RefreshNoneSaid : Prop := refreshNoneRow.holds Tryz.pinned (OpenSpec.ofChange refreshNoneSpec)

/-- ITS FALSE NEIGHBOUR: 'it returns false'. Refute it at one input. -/
def refreshNoneWrong : ChangeSpec := { name := "refreshNone", fn := fun _ => fun
  | [d1, d2] => { results := [.lit (.bool false)], args := [d1, d2] }
  | _ => none }
def RefreshNoneWrongFalsely : Prop := refreshNoneRow.holds Tryz.pinned (OpenSpec.ofChange refreshNoneWrong)

/- THE SECOND FORM. 'bulk': how many values and letters a reading holds, each counted each time it is reached (what is shared counts as often as it is met; a slice's spare places count too). A statement '..UptoSaid' is the law's where the arguments, and the package variables that the reading takes, are together of bulk at most 1048576: NARROWER than '..Said'. Prove '..Said' where nothing that the law and all that it calls make is longer than what came in: it says more and counts as full. Else prove '..UptoSaid'. A law counts once. -/
mutual
def uptoBulk {H : Type} : DataW H → Nat
  | .lit (.string bytes) => bytes.length + 1
  | .lit _ => 1
  | .nil => 1
  | .ptr d => uptoBulk d + 1
  | .slice elems spare => uptoBulkAll elems + uptoBulkAll spare + 1
  | .agg parts => uptoBulkAll parts + 1
  | .iface _ d => uptoBulk d + 1
  | .map entries => uptoBulkEntries entries + 1
  | .held _ => 1
def uptoBulkAll {H : Type} : List (DataW H) → Nat
  | [] => 0
  | d :: r => uptoBulk d + uptoBulkAll r
def uptoBulkEntries {H : Type} : List (Lit × DataW H) → Nat
  | [] => 0
  | x :: r => uptoBulkEntry x + uptoBulkEntries r
def uptoBulkEntry {H : Type} : Lit × DataW H → Nat
  | (.string bytes, d) => bytes.length + uptoBulk d + 1
  | (_, d) => uptoBulk d + 1
 end
def uptoSmall : (H : Type) → List (DataW H) → Bool := fun _ ds => decide (uptoBulkAll ds ≤ 1048576)
def OpenSpec.upto (s : _root_.Go.ChangeSpec) : _root_.Go.OpenSpec := { _root_.Go.OpenSpec.ofChange s with cond := some uptoSmall }

/-- 'reliquarylaw20.PledgeKnown', WHERE WHAT IT READS IS OF BULK AT MOST 1048576: true; the input reads as it did. -/
def pledgeKnownUptoRow : OpenClaim := { program := "ytcboekjnibppdaagreatdoor", sum := "ecfbefe4e6883e4ed0c40a7382aa53407549e3b0c2df6de29604df95d73c7663", func := "reliquary/reliquarylaw20.PledgeKnown", spec := "pledgeKnown", inPlace := ["internal/bytealg.IndexByteString", "math/bits.Sub64", "math/bits.Add64"], unfollowed := true, recurses := true, named := ["reliquary/digest.k", "math/bits.divideError", "math/bits.overflowError"], plainKeys := false, apart := false, laid := [("reliquary/digest.k", laid_reliquary_digest_k)], narrowed := true }
def PledgeKnownUptoSaid : Prop := pledgeKnownUptoRow.holds Tryz.pinned (OpenSpec.upto pledgeKnownSpec)

/-- 'reliquarylaw21.ProofKnown', WHERE WHAT IT READS IS OF BULK AT MOST 1048576: true; the input reads as it did. -/
def proofKnownUptoRow : OpenClaim := { program := "ytcboekjnibppdaagreatdoor", sum := "ecfbefe4e6883e4ed0c40a7382aa53407549e3b0c2df6de29604df95d73c7663", func := "reliquary/reliquarylaw21.ProofKnown", spec := "proofKnown", inPlace := ["internal/bytealg.IndexByteString", "math/bits.Sub64", "math/bits.Add64"], unfollowed := true, recurses := true, named := ["reliquary/digest.k", "math/bits.divideError", "math/bits.overflowError"], plainKeys := false, apart := false, laid := [("reliquary/digest.k", laid_reliquary_digest_k)], narrowed := true }
def ProofKnownUptoSaid : Prop := proofKnownUptoRow.holds Tryz.pinned (OpenSpec.upto proofKnownSpec)

/-- 'reliquarylaw24.SchnorrNone', WHERE WHAT IT READS IS OF BULK AT MOST 1048576: true; the input reads as it did. -/
def schnorrNoneUptoRow : OpenClaim := { program := "ytcboekjnibppdaagreatdoor", sum := "ecfbefe4e6883e4ed0c40a7382aa53407549e3b0c2df6de29604df95d73c7663", func := "reliquary/reliquarylaw24.SchnorrNone", spec := "schnorrNone", inPlace := ["math/bits.Add64", "math/bits.Sub64", "internal/bytealg.IndexByteString"], unfollowed := true, recurses := true, named := ["math/bits.divideError", "math/bits.overflowError", "reliquary/digest.k"], plainKeys := false, apart := false, laid := [("reliquary/digest.k", laid_reliquary_digest_k)], narrowed := true }
def SchnorrNoneUptoSaid : Prop := schnorrNoneUptoRow.holds Tryz.pinned (OpenSpec.upto schnorrNoneSpec)

/-- 'reliquarylaw24.SchnorrKnown', WHERE WHAT IT READS IS OF BULK AT MOST 1048576: true; the input reads as it did. -/
def schnorrKnownUptoRow : OpenClaim := { program := "ytcboekjnibppdaagreatdoor", sum := "ecfbefe4e6883e4ed0c40a7382aa53407549e3b0c2df6de29604df95d73c7663", func := "reliquary/reliquarylaw24.SchnorrKnown", spec := "schnorrKnown", inPlace := ["math/bits.Sub64", "math/bits.Add64", "internal/bytealg.IndexByteString"], unfollowed := true, recurses := true, named := ["math/bits.divideError", "math/bits.overflowError", "reliquary/digest.k"], plainKeys := false, apart := false, laid := [("reliquary/digest.k", laid_reliquary_digest_k)], narrowed := true }
def SchnorrKnownUptoSaid : Prop := schnorrKnownUptoRow.holds Tryz.pinned (OpenSpec.upto schnorrKnownSpec)

/-- 'reliquarylaw26.ElgamalNone', WHERE WHAT IT READS IS OF BULK AT MOST 1048576: true; the input reads as it did. -/
def elgamalNoneUptoRow : OpenClaim := { program := "ytcboekjnibppdaagreatdoor", sum := "ecfbefe4e6883e4ed0c40a7382aa53407549e3b0c2df6de29604df95d73c7663", func := "reliquary/reliquarylaw26.ElgamalNone", spec := "elgamalNone", inPlace := ["math/bits.Add64", "math/bits.Sub64", "internal/bytealg.IndexByteString"], unfollowed := true, recurses := true, named := ["math/bits.divideError", "math/bits.overflowError", "reliquary/digest.k"], plainKeys := false, apart := false, laid := [("reliquary/digest.k", laid_reliquary_digest_k)], narrowed := true }
def ElgamalNoneUptoSaid : Prop := elgamalNoneUptoRow.holds Tryz.pinned (OpenSpec.upto elgamalNoneSpec)

/-- 'reliquarylaw26.ElgamalKnown', WHERE WHAT IT READS IS OF BULK AT MOST 1048576: true; the input reads as it did. -/
def elgamalKnownUptoRow : OpenClaim := { program := "ytcboekjnibppdaagreatdoor", sum := "ecfbefe4e6883e4ed0c40a7382aa53407549e3b0c2df6de29604df95d73c7663", func := "reliquary/reliquarylaw26.ElgamalKnown", spec := "elgamalKnown", inPlace := ["internal/bytealg.IndexByteString", "math/bits.Add64", "math/bits.Sub64"], unfollowed := true, recurses := true, named := ["math/bits.divideError", "math/bits.overflowError", "reliquary/digest.k"], plainKeys := false, apart := false, laid := [("reliquary/digest.k", laid_reliquary_digest_k)], narrowed := true }
def ElgamalKnownUptoSaid : Prop := elgamalKnownUptoRow.holds Tryz.pinned (OpenSpec.upto elgamalKnownSpec)

/-- 'reliquarylaw23.RefreshKnown', WHERE WHAT IT READS IS OF BULK AT MOST 1048576: true; the input reads as it did. -/
def refreshKnownUptoRow : OpenClaim := { program := "ytcboekjnibppdaagreatdoor", sum := "ecfbefe4e6883e4ed0c40a7382aa53407549e3b0c2df6de29604df95d73c7663", func := "reliquary/reliquarylaw23.RefreshKnown", spec := "refreshKnown", inPlace := ["internal/bytealg.IndexByteString", "math/bits.Sub64", "math/bits.Add64"], unfollowed := true, recurses := true, named := ["reliquary/digest.k", "math/bits.divideError", "math/bits.overflowError"], plainKeys := false, apart := false, laid := [("reliquary/digest.k", laid_reliquary_digest_k)], narrowed := true }
def RefreshKnownUptoSaid : Prop := refreshKnownUptoRow.holds Tryz.pinned (OpenSpec.upto refreshKnownSpec)

/-- 'reliquarylaw22.DkgKnown', WHERE WHAT IT READS IS OF BULK AT MOST 1048576: true; the input reads as it did. -/
def dkgKnownUptoRow : OpenClaim := { program := "ytcboekjnibppdaagreatdoor", sum := "ecfbefe4e6883e4ed0c40a7382aa53407549e3b0c2df6de29604df95d73c7663", func := "reliquary/reliquarylaw22.DkgKnown", spec := "dkgKnown", inPlace := ["internal/bytealg.IndexByteString", "math/bits.Sub64", "math/bits.Add64"], unfollowed := true, recurses := true, named := ["reliquary/digest.k", "math/bits.divideError", "math/bits.overflowError"], plainKeys := false, apart := false, laid := [("reliquary/digest.k", laid_reliquary_digest_k)], narrowed := true }
def DkgKnownUptoSaid : Prop := dkgKnownUptoRow.holds Tryz.pinned (OpenSpec.upto dkgKnownSpec)

/-- 'reliquarylaw22.DkgNone', WHERE WHAT IT READS IS OF BULK AT MOST 1048576: true; the input reads as it did. -/
def dkgNoneUptoRow : OpenClaim := { program := "ytcboekjnibppdaagreatdoor", sum := "ecfbefe4e6883e4ed0c40a7382aa53407549e3b0c2df6de29604df95d73c7663", func := "reliquary/reliquarylaw22.DkgNone", spec := "dkgNone", inPlace := ["math/bits.Add64", "math/bits.Sub64", "internal/bytealg.IndexByteString"], unfollowed := true, recurses := true, named := ["math/bits.divideError", "math/bits.overflowError", "reliquary/digest.k"], plainKeys := false, apart := false, laid := [("reliquary/digest.k", laid_reliquary_digest_k)], narrowed := true }
def DkgNoneUptoSaid : Prop := dkgNoneUptoRow.holds Tryz.pinned (OpenSpec.upto dkgNoneSpec)

/-- 'reliquarylaw23.RefreshNone', WHERE WHAT IT READS IS OF BULK AT MOST 1048576: true; the input reads as it did. -/
def refreshNoneUptoRow : OpenClaim := { program := "ytcboekjnibppdaagreatdoor", sum := "ecfbefe4e6883e4ed0c40a7382aa53407549e3b0c2df6de29604df95d73c7663", func := "reliquary/reliquarylaw23.RefreshNone", spec := "refreshNone", inPlace := ["math/bits.Sub64", "math/bits.Add64", "internal/bytealg.IndexByteString"], unfollowed := true, recurses := true, named := ["reliquary/digest.k", "math/bits.divideError", "math/bits.overflowError"], plainKeys := false, apart := false, laid := [("reliquary/digest.k", laid_reliquary_digest_k)], narrowed := true }
def RefreshNoneUptoSaid : Prop := refreshNoneUptoRow.holds Tryz.pinned (OpenSpec.upto refreshNoneSpec)

end Rows
end Go.Proofs.YtcboekjnibppdaaGreatDoor
