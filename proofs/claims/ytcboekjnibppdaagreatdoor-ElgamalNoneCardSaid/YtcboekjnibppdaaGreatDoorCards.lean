/-
  DERIVED. GIVEN WITH THE SEED: THE CARDS: each row of YtcboekjnibppdaaGreatDoorRows.lean that lists a variable, with what it lists TIED to the program's text (the seventh form; the later family's looks); each row that meets fmt, with fmt's text TOLD by the authors' own Lean function (tested against real Go, not proved from fmt's source: count such statements apart). THE CARD IS WHAT COUNTS. Prove the row's statement (the work); the ties are given (YtcboekjnibppdaaGreatDoorTie.lean); close each card by the builder's one call (the guide's Derived/Test/ToyasCard.lean, 'card_holds'). Laid BY PROGRAM, IN A SANDBOX (cutbox-door.mjs). By AI agents, Wed Nov 11 2026. No macro, syntax, notation, axiom, sorry.
-/
import Derived.Test.YtcboekjnibppdaaGreatDoorRows
import GoSem.ClaimSeven
namespace Go.Proofs.YtcboekjnibppdaaGreatDoor
namespace Rows

/-- THE TIED CARD OF 'reliquarylaw20.PledgeKnown'. -/
def pledgeKnownCard : Claim7 := { stood := { row := pledgeKnownRow, standIns := [], harness := (true, "1457e77cd21a2be13daf9375e9a2fba42f0d276b7c2d5e8686e0756b0c0aa9c8"), looks := false }, kinds := [], alts := [], laidByText := true, laidKinds := [.data], laidTests := true, laidLooks := .later }
def PledgeKnownCardSaid : Prop := Claim7.holds Tryz.pinned (.plain (OpenSpec.ofChange pledgeKnownSpec)) pledgeKnownCard

/-- THE TIED CARD OF 'reliquarylaw21.ProofKnown'. -/
def proofKnownCard : Claim7 := { stood := { row := proofKnownRow, standIns := [], harness := (true, "1457e77cd21a2be13daf9375e9a2fba42f0d276b7c2d5e8686e0756b0c0aa9c8"), looks := false }, kinds := [], alts := [], laidByText := true, laidKinds := [.data], laidTests := true, laidLooks := .later }
def ProofKnownCardSaid : Prop := Claim7.holds Tryz.pinned (.plain (OpenSpec.ofChange proofKnownSpec)) proofKnownCard

/-- THE TIED CARD OF 'reliquarylaw24.SchnorrNone'. -/
def schnorrNoneCard : Claim7 := { stood := { row := schnorrNoneRow, standIns := [], harness := (true, "1457e77cd21a2be13daf9375e9a2fba42f0d276b7c2d5e8686e0756b0c0aa9c8"), looks := false }, kinds := [], alts := [], laidByText := true, laidKinds := [.data], laidTests := true, laidLooks := .later }
def SchnorrNoneCardSaid : Prop := Claim7.holds Tryz.pinned (.plain (OpenSpec.ofChange schnorrNoneSpec)) schnorrNoneCard

/-- THE TIED CARD OF 'reliquarylaw24.SchnorrKnown'. -/
def schnorrKnownCard : Claim7 := { stood := { row := schnorrKnownRow, standIns := [], harness := (true, "1457e77cd21a2be13daf9375e9a2fba42f0d276b7c2d5e8686e0756b0c0aa9c8"), looks := false }, kinds := [], alts := [], laidByText := true, laidKinds := [.data], laidTests := true, laidLooks := .later }
def SchnorrKnownCardSaid : Prop := Claim7.holds Tryz.pinned (.plain (OpenSpec.ofChange schnorrKnownSpec)) schnorrKnownCard

/-- THE TIED CARD OF 'reliquarylaw26.ElgamalNone'. -/
def elgamalNoneCard : Claim7 := { stood := { row := elgamalNoneRow, standIns := [], harness := (true, "1457e77cd21a2be13daf9375e9a2fba42f0d276b7c2d5e8686e0756b0c0aa9c8"), looks := false }, kinds := [], alts := [], laidByText := true, laidKinds := [.data], laidTests := true, laidLooks := .later }
def ElgamalNoneCardSaid : Prop := Claim7.holds Tryz.pinned (.plain (OpenSpec.ofChange elgamalNoneSpec)) elgamalNoneCard

/-- THE TIED CARD OF 'reliquarylaw26.ElgamalKnown'. -/
def elgamalKnownCard : Claim7 := { stood := { row := elgamalKnownRow, standIns := [], harness := (true, "1457e77cd21a2be13daf9375e9a2fba42f0d276b7c2d5e8686e0756b0c0aa9c8"), looks := false }, kinds := [], alts := [], laidByText := true, laidKinds := [.data], laidTests := true, laidLooks := .later }
def ElgamalKnownCardSaid : Prop := Claim7.holds Tryz.pinned (.plain (OpenSpec.ofChange elgamalKnownSpec)) elgamalKnownCard

/-- THE TIED CARD OF 'reliquarylaw23.RefreshKnown'. -/
def refreshKnownCard : Claim7 := { stood := { row := refreshKnownRow, standIns := [], harness := (true, "1457e77cd21a2be13daf9375e9a2fba42f0d276b7c2d5e8686e0756b0c0aa9c8"), looks := false }, kinds := [], alts := [], laidByText := true, laidKinds := [.data], laidTests := true, laidLooks := .later }
def RefreshKnownCardSaid : Prop := Claim7.holds Tryz.pinned (.plain (OpenSpec.ofChange refreshKnownSpec)) refreshKnownCard

/-- THE TIED CARD OF 'reliquarylaw22.DkgKnown'. -/
def dkgKnownCard : Claim7 := { stood := { row := dkgKnownRow, standIns := [], harness := (true, "1457e77cd21a2be13daf9375e9a2fba42f0d276b7c2d5e8686e0756b0c0aa9c8"), looks := false }, kinds := [], alts := [], laidByText := true, laidKinds := [.data], laidTests := true, laidLooks := .later }
def DkgKnownCardSaid : Prop := Claim7.holds Tryz.pinned (.plain (OpenSpec.ofChange dkgKnownSpec)) dkgKnownCard

/-- THE TIED CARD OF 'reliquarylaw22.DkgNone'. -/
def dkgNoneCard : Claim7 := { stood := { row := dkgNoneRow, standIns := [], harness := (true, "1457e77cd21a2be13daf9375e9a2fba42f0d276b7c2d5e8686e0756b0c0aa9c8"), looks := false }, kinds := [], alts := [], laidByText := true, laidKinds := [.data], laidTests := true, laidLooks := .later }
def DkgNoneCardSaid : Prop := Claim7.holds Tryz.pinned (.plain (OpenSpec.ofChange dkgNoneSpec)) dkgNoneCard

/-- THE TIED CARD OF 'reliquarylaw23.RefreshNone'. -/
def refreshNoneCard : Claim7 := { stood := { row := refreshNoneRow, standIns := [], harness := (true, "1457e77cd21a2be13daf9375e9a2fba42f0d276b7c2d5e8686e0756b0c0aa9c8"), looks := false }, kinds := [], alts := [], laidByText := true, laidKinds := [.data], laidTests := true, laidLooks := .later }
def RefreshNoneCardSaid : Prop := Claim7.holds Tryz.pinned (.plain (OpenSpec.ofChange refreshNoneSpec)) refreshNoneCard

/-- THE SECOND FORM's CARD OF 'reliquarylaw20.PledgeKnown'. -/
def pledgeKnownUptoCard : Claim7 := { stood := { row := pledgeKnownUptoRow, standIns := [], harness := (true, "1457e77cd21a2be13daf9375e9a2fba42f0d276b7c2d5e8686e0756b0c0aa9c8"), looks := false }, kinds := [], alts := [], laidByText := true, laidKinds := [.data], laidTests := true, laidLooks := .later }
def PledgeKnownUptoCardSaid : Prop := Claim7.holds Tryz.pinned (.plain (OpenSpec.upto pledgeKnownSpec)) pledgeKnownUptoCard

/-- THE SECOND FORM's CARD OF 'reliquarylaw21.ProofKnown'. -/
def proofKnownUptoCard : Claim7 := { stood := { row := proofKnownUptoRow, standIns := [], harness := (true, "1457e77cd21a2be13daf9375e9a2fba42f0d276b7c2d5e8686e0756b0c0aa9c8"), looks := false }, kinds := [], alts := [], laidByText := true, laidKinds := [.data], laidTests := true, laidLooks := .later }
def ProofKnownUptoCardSaid : Prop := Claim7.holds Tryz.pinned (.plain (OpenSpec.upto proofKnownSpec)) proofKnownUptoCard

/-- THE SECOND FORM's CARD OF 'reliquarylaw24.SchnorrNone'. -/
def schnorrNoneUptoCard : Claim7 := { stood := { row := schnorrNoneUptoRow, standIns := [], harness := (true, "1457e77cd21a2be13daf9375e9a2fba42f0d276b7c2d5e8686e0756b0c0aa9c8"), looks := false }, kinds := [], alts := [], laidByText := true, laidKinds := [.data], laidTests := true, laidLooks := .later }
def SchnorrNoneUptoCardSaid : Prop := Claim7.holds Tryz.pinned (.plain (OpenSpec.upto schnorrNoneSpec)) schnorrNoneUptoCard

/-- THE SECOND FORM's CARD OF 'reliquarylaw24.SchnorrKnown'. -/
def schnorrKnownUptoCard : Claim7 := { stood := { row := schnorrKnownUptoRow, standIns := [], harness := (true, "1457e77cd21a2be13daf9375e9a2fba42f0d276b7c2d5e8686e0756b0c0aa9c8"), looks := false }, kinds := [], alts := [], laidByText := true, laidKinds := [.data], laidTests := true, laidLooks := .later }
def SchnorrKnownUptoCardSaid : Prop := Claim7.holds Tryz.pinned (.plain (OpenSpec.upto schnorrKnownSpec)) schnorrKnownUptoCard

/-- THE SECOND FORM's CARD OF 'reliquarylaw26.ElgamalNone'. -/
def elgamalNoneUptoCard : Claim7 := { stood := { row := elgamalNoneUptoRow, standIns := [], harness := (true, "1457e77cd21a2be13daf9375e9a2fba42f0d276b7c2d5e8686e0756b0c0aa9c8"), looks := false }, kinds := [], alts := [], laidByText := true, laidKinds := [.data], laidTests := true, laidLooks := .later }
def ElgamalNoneUptoCardSaid : Prop := Claim7.holds Tryz.pinned (.plain (OpenSpec.upto elgamalNoneSpec)) elgamalNoneUptoCard

/-- THE SECOND FORM's CARD OF 'reliquarylaw26.ElgamalKnown'. -/
def elgamalKnownUptoCard : Claim7 := { stood := { row := elgamalKnownUptoRow, standIns := [], harness := (true, "1457e77cd21a2be13daf9375e9a2fba42f0d276b7c2d5e8686e0756b0c0aa9c8"), looks := false }, kinds := [], alts := [], laidByText := true, laidKinds := [.data], laidTests := true, laidLooks := .later }
def ElgamalKnownUptoCardSaid : Prop := Claim7.holds Tryz.pinned (.plain (OpenSpec.upto elgamalKnownSpec)) elgamalKnownUptoCard

/-- THE SECOND FORM's CARD OF 'reliquarylaw23.RefreshKnown'. -/
def refreshKnownUptoCard : Claim7 := { stood := { row := refreshKnownUptoRow, standIns := [], harness := (true, "1457e77cd21a2be13daf9375e9a2fba42f0d276b7c2d5e8686e0756b0c0aa9c8"), looks := false }, kinds := [], alts := [], laidByText := true, laidKinds := [.data], laidTests := true, laidLooks := .later }
def RefreshKnownUptoCardSaid : Prop := Claim7.holds Tryz.pinned (.plain (OpenSpec.upto refreshKnownSpec)) refreshKnownUptoCard

/-- THE SECOND FORM's CARD OF 'reliquarylaw22.DkgKnown'. -/
def dkgKnownUptoCard : Claim7 := { stood := { row := dkgKnownUptoRow, standIns := [], harness := (true, "1457e77cd21a2be13daf9375e9a2fba42f0d276b7c2d5e8686e0756b0c0aa9c8"), looks := false }, kinds := [], alts := [], laidByText := true, laidKinds := [.data], laidTests := true, laidLooks := .later }
def DkgKnownUptoCardSaid : Prop := Claim7.holds Tryz.pinned (.plain (OpenSpec.upto dkgKnownSpec)) dkgKnownUptoCard

/-- THE SECOND FORM's CARD OF 'reliquarylaw22.DkgNone'. -/
def dkgNoneUptoCard : Claim7 := { stood := { row := dkgNoneUptoRow, standIns := [], harness := (true, "1457e77cd21a2be13daf9375e9a2fba42f0d276b7c2d5e8686e0756b0c0aa9c8"), looks := false }, kinds := [], alts := [], laidByText := true, laidKinds := [.data], laidTests := true, laidLooks := .later }
def DkgNoneUptoCardSaid : Prop := Claim7.holds Tryz.pinned (.plain (OpenSpec.upto dkgNoneSpec)) dkgNoneUptoCard

/-- THE SECOND FORM's CARD OF 'reliquarylaw23.RefreshNone'. -/
def refreshNoneUptoCard : Claim7 := { stood := { row := refreshNoneUptoRow, standIns := [], harness := (true, "1457e77cd21a2be13daf9375e9a2fba42f0d276b7c2d5e8686e0756b0c0aa9c8"), looks := false }, kinds := [], alts := [], laidByText := true, laidKinds := [.data], laidTests := true, laidLooks := .later }
def RefreshNoneUptoCardSaid : Prop := Claim7.holds Tryz.pinned (.plain (OpenSpec.upto refreshNoneSpec)) refreshNoneUptoCard
end Rows
end Go.Proofs.YtcboekjnibppdaaGreatDoor
