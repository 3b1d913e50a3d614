/-
  NARROWER THAN 'FOR EVERY INPUT', by the rows' own cells (each row's printed sentence says how): PledgeMakes: laid · PledgeTells: laid · PledgeBinds: laid · PledgeHolds: laid · PledgeAdds: laid.
  DERIVED. THE GIVEN ROWS OF THIS SEAT. 5 by the template 'for every input the law returns true; each argument reads behind the call as it read before'; 0 by the template 'total and deterministic' (their statements: YtedplhdabefnkaaGreatDoorTotals.lean).
  GIVEN WITH THE SEED: the statements are not yours to turn. If you find one false, say at which input.
  Laid BY PROGRAM, IN A SANDBOX (cutbox-rows.mjs): the forced cells as the released guide's own fill.sh prints them over the translation 88fa51d0f4c3f00e… (all of the seat's roots in one cut). By AI agents, Wed Nov 11 2026. No macro, syntax, notation, axiom, sorry.
-/
import Derived.Test.YtedplhdabefnkaaGreatDoorChecked
import GoSem.Claim
import GoSem.ClaimJoined
import GoSem.ClaimMapViews
import Derived.JoinedTies
import Derived.KernelRfl
namespace Go.Proofs.YtedplhdabefnkaaGreatDoor
/- THE CELL 'sum', in the pinned program and in every row, IS THE sha256 OF THE DUMP (.gsa) THAT YtedplhdabefnkaaGreatDoorProg.lean LOADS. Nothing in Lean hashes anything: it is a label: what it is worth is what the hold of that sum in a sandbox is worth. -/
noncomputable def Tryz.pinned : Pinned := { name := "ytedplhdabefnkaagreatdoor", sum := "88fa51d0f4c3f00eef10d709e0e89b32235b12be444af66967a3257adc28f021", checked := Tryz.checked }
namespace Rows
def none {H : Type} : Left H := { results := [], args := [] }

/- WHAT THE LISTED PACKAGE-LEVEL VARIABLES READ AS WHEN THE CALL BEGINS. Each datum BY PROGRAM (the guide's laid-datum.mjs) off the statement by which the dump's own 'gosem.cut.vars' lays the variable. In a bare row this is a premise. The card (YtedplhdabefnkaaGreatDoorCards.lean) ties it to the program's text. -/
def laid_reliquary_digest_k {H : Type} : DataW H := .agg [.lit (.int .u32 1116352408), .lit (.int .u32 1899447441), .lit (.int .u32 3049323471), .lit (.int .u32 3921009573), .lit (.int .u32 961987163), .lit (.int .u32 1508970993), .lit (.int .u32 2453635748), .lit (.int .u32 2870763221), .lit (.int .u32 3624381080), .lit (.int .u32 310598401), .lit (.int .u32 607225278), .lit (.int .u32 1426881987), .lit (.int .u32 1925078388), .lit (.int .u32 2162078206), .lit (.int .u32 2614888103), .lit (.int .u32 3248222580), .lit (.int .u32 3835390401), .lit (.int .u32 4022224774), .lit (.int .u32 264347078), .lit (.int .u32 604807628), .lit (.int .u32 770255983), .lit (.int .u32 1249150122), .lit (.int .u32 1555081692), .lit (.int .u32 1996064986), .lit (.int .u32 2554220882), .lit (.int .u32 2821834349), .lit (.int .u32 2952996808), .lit (.int .u32 3210313671), .lit (.int .u32 3336571891), .lit (.int .u32 3584528711), .lit (.int .u32 113926993), .lit (.int .u32 338241895), .lit (.int .u32 666307205), .lit (.int .u32 773529912), .lit (.int .u32 1294757372), .lit (.int .u32 1396182291), .lit (.int .u32 1695183700), .lit (.int .u32 1986661051), .lit (.int .u32 2177026350), .lit (.int .u32 2456956037), .lit (.int .u32 2730485921), .lit (.int .u32 2820302411), .lit (.int .u32 3259730800), .lit (.int .u32 3345764771), .lit (.int .u32 3516065817), .lit (.int .u32 3600352804), .lit (.int .u32 4094571909), .lit (.int .u32 275423344), .lit (.int .u32 430227734), .lit (.int .u32 506948616), .lit (.int .u32 659060556), .lit (.int .u32 883997877), .lit (.int .u32 958139571), .lit (.int .u32 1322822218), .lit (.int .u32 1537002063), .lit (.int .u32 1747873779), .lit (.int .u32 1955562222), .lit (.int .u32 2024104815), .lit (.int .u32 2227730452), .lit (.int .u32 2361852424), .lit (.int .u32 2428436474), .lit (.int .u32 2756734187), .lit (.int .u32 3204031479), .lit (.int .u32 3329325298)]

/-- 'reliquarylaw20.PledgeMakes': WHATEVER THE INPUT: true; the input reads as it did. -/
def pledgeMakesSpec : ChangeSpec := { name := "pledgeMakes", fn := fun _ => fun
  | [d1, d2, d3] => { results := [.lit (.bool true)], args := [d1, d2, d3] }
  | _ => none }
def pledgeMakesRow : OpenClaim := { program := "ytedplhdabefnkaagreatdoor", sum := "88fa51d0f4c3f00eef10d709e0e89b32235b12be444af66967a3257adc28f021", func := "reliquary/reliquarylaw20.PledgeMakes", spec := "pledgeMakes", inPlace := ["internal/bytealg.IndexByteString", "math/bits.Sub64", "math/bits.Add64"], unfollowed := true, recurses := true, named := ["reliquary/digest.k", "math/bits.divideError", "math/bits.overflowError"], apart := false, laid := [("reliquary/digest.k", laid_reliquary_digest_k)] }
def PledgeMakesSaid : Prop := pledgeMakesRow.holds Tryz.pinned (OpenSpec.ofChange pledgeMakesSpec)

/-- ITS FALSE NEIGHBOUR: 'it returns false'. Refute it at one input. -/
def pledgeMakesWrong : ChangeSpec := { name := "pledgeMakes", fn := fun _ => fun
  | [d1, d2, d3] => { results := [.lit (.bool false)], args := [d1, d2, d3] }
  | _ => none }
def PledgeMakesWrongFalsely : Prop := pledgeMakesRow.holds Tryz.pinned (OpenSpec.ofChange pledgeMakesWrong)

/-- 'reliquarylaw20.PledgeTells': WHATEVER THE INPUT: true; the input reads as it did. -/
def pledgeTellsSpec : ChangeSpec := { name := "pledgeTells", fn := fun _ => fun
  | [d1, d2, d3, d4] => { results := [.lit (.bool true)], args := [d1, d2, d3, d4] }
  | _ => none }
def pledgeTellsRow : OpenClaim := { program := "ytedplhdabefnkaagreatdoor", sum := "88fa51d0f4c3f00eef10d709e0e89b32235b12be444af66967a3257adc28f021", func := "reliquary/reliquarylaw20.PledgeTells", spec := "pledgeTells", inPlace := ["math/bits.Add64", "math/bits.Sub64", "internal/bytealg.IndexByteString"], unfollowed := true, recurses := true, named := ["math/bits.divideError", "math/bits.overflowError", "reliquary/digest.k"], apart := false, laid := [("reliquary/digest.k", laid_reliquary_digest_k)] }
def PledgeTellsSaid : Prop := pledgeTellsRow.holds Tryz.pinned (OpenSpec.ofChange pledgeTellsSpec)

/-- ITS FALSE NEIGHBOUR: 'it returns false'. Refute it at one input. -/
def pledgeTellsWrong : ChangeSpec := { name := "pledgeTells", fn := fun _ => fun
  | [d1, d2, d3, d4] => { results := [.lit (.bool false)], args := [d1, d2, d3, d4] }
  | _ => none }
def PledgeTellsWrongFalsely : Prop := pledgeTellsRow.holds Tryz.pinned (OpenSpec.ofChange pledgeTellsWrong)

/-- 'reliquarylaw20.PledgeBinds': WHATEVER THE INPUT: true; the input reads as it did. -/
def pledgeBindsSpec : ChangeSpec := { name := "pledgeBinds", fn := fun _ => fun
  | [d1, d2, d3, d4] => { results := [.lit (.bool true)], args := [d1, d2, d3, d4] }
  | _ => none }
def pledgeBindsRow : OpenClaim := { program := "ytedplhdabefnkaagreatdoor", sum := "88fa51d0f4c3f00eef10d709e0e89b32235b12be444af66967a3257adc28f021", func := "reliquary/reliquarylaw20.PledgeBinds", spec := "pledgeBinds", inPlace := ["internal/bytealg.IndexByteString", "math/bits.Sub64", "math/bits.Add64"], unfollowed := true, recurses := true, named := ["reliquary/digest.k", "math/bits.divideError", "math/bits.overflowError"], apart := false, laid := [("reliquary/digest.k", laid_reliquary_digest_k)] }
def PledgeBindsSaid : Prop := pledgeBindsRow.holds Tryz.pinned (OpenSpec.ofChange pledgeBindsSpec)

/-- ITS FALSE NEIGHBOUR: 'it returns false'. Refute it at one input. -/
def pledgeBindsWrong : ChangeSpec := { name := "pledgeBinds", fn := fun _ => fun
  | [d1, d2, d3, d4] => { results := [.lit (.bool false)], args := [d1, d2, d3, d4] }
  | _ => none }
def PledgeBindsWrongFalsely : Prop := pledgeBindsRow.holds Tryz.pinned (OpenSpec.ofChange pledgeBindsWrong)

/-- 'reliquarylaw20.PledgeHolds': WHATEVER THE INPUT: true; the input reads as it did. -/
def pledgeHoldsSpec : ChangeSpec := { name := "pledgeHolds", fn := fun _ => fun
  | [d1, d2, d3, d4, d5] => { results := [.lit (.bool true)], args := [d1, d2, d3, d4, d5] }
  | _ => none }
def pledgeHoldsRow : OpenClaim := { program := "ytedplhdabefnkaagreatdoor", sum := "88fa51d0f4c3f00eef10d709e0e89b32235b12be444af66967a3257adc28f021", func := "reliquary/reliquarylaw20.PledgeHolds", spec := "pledgeHolds", inPlace := ["internal/bytealg.IndexByteString", "math/bits.Sub64", "math/bits.Add64"], unfollowed := true, recurses := true, named := ["reliquary/digest.k", "math/bits.divideError", "math/bits.overflowError"], apart := false, laid := [("reliquary/digest.k", laid_reliquary_digest_k)] }
def PledgeHoldsSaid : Prop := pledgeHoldsRow.holds Tryz.pinned (OpenSpec.ofChange pledgeHoldsSpec)

/-- ITS FALSE NEIGHBOUR: 'it returns false'. Refute it at one input. -/
def pledgeHoldsWrong : ChangeSpec := { name := "pledgeHolds", fn := fun _ => fun
  | [d1, d2, d3, d4, d5] => { results := [.lit (.bool false)], args := [d1, d2, d3, d4, d5] }
  | _ => none }
def PledgeHoldsWrongFalsely : Prop := pledgeHoldsRow.holds Tryz.pinned (OpenSpec.ofChange pledgeHoldsWrong)

/-- 'reliquarylaw20.PledgeAdds': WHATEVER THE INPUT: true; the input reads as it did. -/
def pledgeAddsSpec : ChangeSpec := { name := "pledgeAdds", fn := fun _ => fun
  | [d1, d2, d3, d4, d5, d6] => { results := [.lit (.bool true)], args := [d1, d2, d3, d4, d5, d6] }
  | _ => none }
def pledgeAddsRow : OpenClaim := { program := "ytedplhdabefnkaagreatdoor", sum := "88fa51d0f4c3f00eef10d709e0e89b32235b12be444af66967a3257adc28f021", func := "reliquary/reliquarylaw20.PledgeAdds", spec := "pledgeAdds", inPlace := ["internal/bytealg.IndexByteString", "math/bits.Sub64", "math/bits.Add64"], unfollowed := true, recurses := true, named := ["reliquary/digest.k", "math/bits.divideError", "math/bits.overflowError"], apart := false, laid := [("reliquary/digest.k", laid_reliquary_digest_k)] }
def PledgeAddsSaid : Prop := pledgeAddsRow.holds Tryz.pinned (OpenSpec.ofChange pledgeAddsSpec)

/-- ITS FALSE NEIGHBOUR: 'it returns false'. Refute it at one input. -/
def pledgeAddsWrong : ChangeSpec := { name := "pledgeAdds", fn := fun _ => fun
  | [d1, d2, d3, d4, d5, d6] => { results := [.lit (.bool false)], args := [d1, d2, d3, d4, d5, d6] }
  | _ => none }
def PledgeAddsWrongFalsely : Prop := pledgeAddsRow.holds Tryz.pinned (OpenSpec.ofChange pledgeAddsWrong)

/- THE SECOND FORM. 'bulk': how many values and letters a reading holds, each counted each time it is reached (what is shared counts as often as it is met; a slice's spare places count too). A statement '..UptoSaid' is the law's where the arguments, and the package variables that the reading takes, are together of bulk at most 1048576: NARROWER than '..Said'. Prove '..Said' where nothing that the law and all that it calls make is longer than what came in: it says more and counts as full. Else prove '..UptoSaid'. A law counts once. -/
mutual
def uptoBulk {H : Type} : DataW H → Nat
  | .lit (.string bytes) => bytes.length + 1
  | .lit _ => 1
  | .nil => 1
  | .ptr d => uptoBulk d + 1
  | .slice elems spare => uptoBulkAll elems + uptoBulkAll spare + 1
  | .agg parts => uptoBulkAll parts + 1
  | .iface _ d => uptoBulk d + 1
  | .map entries => uptoBulkEntries entries + 1
  | .held _ => 1
def uptoBulkAll {H : Type} : List (DataW H) → Nat
  | [] => 0
  | d :: r => uptoBulk d + uptoBulkAll r
def uptoBulkEntries {H : Type} : List (Lit × DataW H) → Nat
  | [] => 0
  | x :: r => uptoBulkEntry x + uptoBulkEntries r
def uptoBulkEntry {H : Type} : Lit × DataW H → Nat
  | (.string bytes, d) => bytes.length + uptoBulk d + 1
  | (_, d) => uptoBulk d + 1
 end
def uptoSmall : (H : Type) → List (DataW H) → Bool := fun _ ds => decide (uptoBulkAll ds ≤ 1048576)
def OpenSpec.upto (s : _root_.Go.ChangeSpec) : _root_.Go.OpenSpec := { _root_.Go.OpenSpec.ofChange s with cond := some uptoSmall }

/-- 'reliquarylaw20.PledgeMakes', WHERE WHAT IT READS IS OF BULK AT MOST 1048576: true; the input reads as it did. -/
def pledgeMakesUptoRow : OpenClaim := { program := "ytedplhdabefnkaagreatdoor", sum := "88fa51d0f4c3f00eef10d709e0e89b32235b12be444af66967a3257adc28f021", func := "reliquary/reliquarylaw20.PledgeMakes", spec := "pledgeMakes", inPlace := ["internal/bytealg.IndexByteString", "math/bits.Sub64", "math/bits.Add64"], unfollowed := true, recurses := true, named := ["reliquary/digest.k", "math/bits.divideError", "math/bits.overflowError"], apart := false, laid := [("reliquary/digest.k", laid_reliquary_digest_k)], narrowed := true }
def PledgeMakesUptoSaid : Prop := pledgeMakesUptoRow.holds Tryz.pinned (OpenSpec.upto pledgeMakesSpec)

/-- 'reliquarylaw20.PledgeTells', WHERE WHAT IT READS IS OF BULK AT MOST 1048576: true; the input reads as it did. -/
def pledgeTellsUptoRow : OpenClaim := { program := "ytedplhdabefnkaagreatdoor", sum := "88fa51d0f4c3f00eef10d709e0e89b32235b12be444af66967a3257adc28f021", func := "reliquary/reliquarylaw20.PledgeTells", spec := "pledgeTells", inPlace := ["math/bits.Add64", "math/bits.Sub64", "internal/bytealg.IndexByteString"], unfollowed := true, recurses := true, named := ["math/bits.divideError", "math/bits.overflowError", "reliquary/digest.k"], apart := false, laid := [("reliquary/digest.k", laid_reliquary_digest_k)], narrowed := true }
def PledgeTellsUptoSaid : Prop := pledgeTellsUptoRow.holds Tryz.pinned (OpenSpec.upto pledgeTellsSpec)

/-- 'reliquarylaw20.PledgeBinds', WHERE WHAT IT READS IS OF BULK AT MOST 1048576: true; the input reads as it did. -/
def pledgeBindsUptoRow : OpenClaim := { program := "ytedplhdabefnkaagreatdoor", sum := "88fa51d0f4c3f00eef10d709e0e89b32235b12be444af66967a3257adc28f021", func := "reliquary/reliquarylaw20.PledgeBinds", spec := "pledgeBinds", inPlace := ["internal/bytealg.IndexByteString", "math/bits.Sub64", "math/bits.Add64"], unfollowed := true, recurses := true, named := ["reliquary/digest.k", "math/bits.divideError", "math/bits.overflowError"], apart := false, laid := [("reliquary/digest.k", laid_reliquary_digest_k)], narrowed := true }
def PledgeBindsUptoSaid : Prop := pledgeBindsUptoRow.holds Tryz.pinned (OpenSpec.upto pledgeBindsSpec)

/-- 'reliquarylaw20.PledgeHolds', WHERE WHAT IT READS IS OF BULK AT MOST 1048576: true; the input reads as it did. -/
def pledgeHoldsUptoRow : OpenClaim := { program := "ytedplhdabefnkaagreatdoor", sum := "88fa51d0f4c3f00eef10d709e0e89b32235b12be444af66967a3257adc28f021", func := "reliquary/reliquarylaw20.PledgeHolds", spec := "pledgeHolds", inPlace := ["internal/bytealg.IndexByteString", "math/bits.Sub64", "math/bits.Add64"], unfollowed := true, recurses := true, named := ["reliquary/digest.k", "math/bits.divideError", "math/bits.overflowError"], apart := false, laid := [("reliquary/digest.k", laid_reliquary_digest_k)], narrowed := true }
def PledgeHoldsUptoSaid : Prop := pledgeHoldsUptoRow.holds Tryz.pinned (OpenSpec.upto pledgeHoldsSpec)

/-- 'reliquarylaw20.PledgeAdds', WHERE WHAT IT READS IS OF BULK AT MOST 1048576: true; the input reads as it did. -/
def pledgeAddsUptoRow : OpenClaim := { program := "ytedplhdabefnkaagreatdoor", sum := "88fa51d0f4c3f00eef10d709e0e89b32235b12be444af66967a3257adc28f021", func := "reliquary/reliquarylaw20.PledgeAdds", spec := "pledgeAdds", inPlace := ["internal/bytealg.IndexByteString", "math/bits.Sub64", "math/bits.Add64"], unfollowed := true, recurses := true, named := ["reliquary/digest.k", "math/bits.divideError", "math/bits.overflowError"], apart := false, laid := [("reliquary/digest.k", laid_reliquary_digest_k)], narrowed := true }
def PledgeAddsUptoSaid : Prop := pledgeAddsUptoRow.holds Tryz.pinned (OpenSpec.upto pledgeAddsSpec)

end Rows
end Go.Proofs.YtedplhdabefnkaaGreatDoor
