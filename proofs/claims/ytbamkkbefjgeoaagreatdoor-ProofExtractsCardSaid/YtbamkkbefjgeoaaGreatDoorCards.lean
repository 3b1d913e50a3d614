/-
  DERIVED. GIVEN WITH THE SEED: THE CARDS: each row of YtbamkkbefjgeoaaGreatDoorRows.lean that lists a variable, with what it lists TIED to the program's text (the seventh form; the later family's looks); each row that meets fmt, with fmt's text TOLD by the authors' own Lean function (tested against real Go, not proved from fmt's source: count such statements apart). THE CARD IS WHAT COUNTS. Prove the row's statement (the work); the ties are given (YtbamkkbefjgeoaaGreatDoorTie.lean); close each card by the builder's one call (the guide's Derived/Test/ToyasCard.lean, 'card_holds'). Laid BY PROGRAM, IN A SANDBOX (cutbox-door.mjs). By AI agents, Wed Nov 11 2026. No macro, syntax, notation, axiom, sorry.
-/
import Derived.Test.YtbamkkbefjgeoaaGreatDoorRows
import GoSem.ClaimSeven
namespace Go.Proofs.YtbamkkbefjgeoaaGreatDoor
namespace Rows

/-- THE TIED CARD OF 'reliquarylaw21.ProofExtracts'. -/
def proofExtractsCard : Claim7 := { stood := { row := proofExtractsRow, standIns := [], harness := (true, "e11365304b574ec11bc9ee3e7437e0ea3362448cb3e060e6d6b7e9938565546e"), looks := false }, kinds := [], alts := [], laidByText := true, laidKinds := [.data], laidTests := true, laidLooks := .later }
def ProofExtractsCardSaid : Prop := Claim7.holds Tryz.pinned (.plain (OpenSpec.ofChange proofExtractsSpec)) proofExtractsCard

/-- THE TIED CARD OF 'reliquarylaw21.ProofFeigned'. -/
def proofFeignedCard : Claim7 := { stood := { row := proofFeignedRow, standIns := [], harness := (true, "e11365304b574ec11bc9ee3e7437e0ea3362448cb3e060e6d6b7e9938565546e"), looks := false }, kinds := [], alts := [], laidByText := true, laidKinds := [.data], laidTests := true, laidLooks := .later }
def ProofFeignedCardSaid : Prop := Claim7.holds Tryz.pinned (.plain (OpenSpec.ofChange proofFeignedSpec)) proofFeignedCard

/-- THE TIED CARD OF 'reliquarylaw16.ChannelKnown'. -/
def channelKnownCard : Claim7 := { stood := { row := channelKnownRow, standIns := [], harness := (true, "e11365304b574ec11bc9ee3e7437e0ea3362448cb3e060e6d6b7e9938565546e"), looks := false }, kinds := [], alts := [], laidByText := true, laidKinds := [.data], laidTests := true, laidLooks := .later }
def ChannelKnownCardSaid : Prop := Claim7.holds Tryz.pinned (.plain (OpenSpec.ofChange channelKnownSpec)) channelKnownCard

/-- THE SECOND FORM's CARD OF 'reliquarylaw21.ProofExtracts'. -/
def proofExtractsUptoCard : Claim7 := { stood := { row := proofExtractsUptoRow, standIns := [], harness := (true, "e11365304b574ec11bc9ee3e7437e0ea3362448cb3e060e6d6b7e9938565546e"), looks := false }, kinds := [], alts := [], laidByText := true, laidKinds := [.data], laidTests := true, laidLooks := .later }
def ProofExtractsUptoCardSaid : Prop := Claim7.holds Tryz.pinned (.plain (OpenSpec.upto proofExtractsSpec)) proofExtractsUptoCard

/-- THE SECOND FORM's CARD OF 'reliquarylaw21.ProofFeigned'. -/
def proofFeignedUptoCard : Claim7 := { stood := { row := proofFeignedUptoRow, standIns := [], harness := (true, "e11365304b574ec11bc9ee3e7437e0ea3362448cb3e060e6d6b7e9938565546e"), looks := false }, kinds := [], alts := [], laidByText := true, laidKinds := [.data], laidTests := true, laidLooks := .later }
def ProofFeignedUptoCardSaid : Prop := Claim7.holds Tryz.pinned (.plain (OpenSpec.upto proofFeignedSpec)) proofFeignedUptoCard

/-- THE SECOND FORM's CARD OF 'reliquarylaw16.ChannelKnown'. -/
def channelKnownUptoCard : Claim7 := { stood := { row := channelKnownUptoRow, standIns := [], harness := (true, "e11365304b574ec11bc9ee3e7437e0ea3362448cb3e060e6d6b7e9938565546e"), looks := false }, kinds := [], alts := [], laidByText := true, laidKinds := [.data], laidTests := true, laidLooks := .later }
def ChannelKnownUptoCardSaid : Prop := Claim7.holds Tryz.pinned (.plain (OpenSpec.upto channelKnownSpec)) channelKnownUptoCard
end Rows
end Go.Proofs.YtbamkkbefjgeoaaGreatDoor
