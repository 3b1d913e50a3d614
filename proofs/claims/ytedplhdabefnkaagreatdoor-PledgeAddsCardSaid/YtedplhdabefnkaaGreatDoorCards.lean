/-
  DERIVED. GIVEN WITH THE SEED: THE CARDS: each row of YtedplhdabefnkaaGreatDoorRows.lean that lists a variable, with what it lists TIED to the program's text (the seventh form; the later family's looks); each row that meets fmt, with fmt's text TOLD by the authors' own Lean function (tested against real Go, not proved from fmt's source: count such statements apart). THE CARD IS WHAT COUNTS. Prove the row's statement (the work); the ties are given (YtedplhdabefnkaaGreatDoorTie.lean); close each card by the builder's one call (the guide's Derived/Test/ToyasCard.lean, 'card_holds'). Laid BY PROGRAM, IN A SANDBOX (cutbox-door.mjs). By AI agents, Wed Nov 11 2026. No macro, syntax, notation, axiom, sorry.
-/
import Derived.Test.YtedplhdabefnkaaGreatDoorRows
import GoSem.ClaimSeven
namespace Go.Proofs.YtedplhdabefnkaaGreatDoor
namespace Rows

/-- THE TIED CARD OF 'reliquarylaw20.PledgeMakes'. -/
def pledgeMakesCard : Claim7 := { stood := { row := pledgeMakesRow, standIns := [], harness := (true, "00941a9a34f3d6fa689a328cb41f7356a1a6282e98ac644b5d61b618d62e6dd8"), looks := false }, kinds := [], alts := [], laidByText := true, laidKinds := [.data], laidTests := true, laidLooks := .later }
def PledgeMakesCardSaid : Prop := Claim7.holds Tryz.pinned (.plain (OpenSpec.ofChange pledgeMakesSpec)) pledgeMakesCard

/-- THE TIED CARD OF 'reliquarylaw20.PledgeTells'. -/
def pledgeTellsCard : Claim7 := { stood := { row := pledgeTellsRow, standIns := [], harness := (true, "00941a9a34f3d6fa689a328cb41f7356a1a6282e98ac644b5d61b618d62e6dd8"), looks := false }, kinds := [], alts := [], laidByText := true, laidKinds := [.data], laidTests := true, laidLooks := .later }
def PledgeTellsCardSaid : Prop := Claim7.holds Tryz.pinned (.plain (OpenSpec.ofChange pledgeTellsSpec)) pledgeTellsCard

/-- THE TIED CARD OF 'reliquarylaw20.PledgeBinds'. -/
def pledgeBindsCard : Claim7 := { stood := { row := pledgeBindsRow, standIns := [], harness := (true, "00941a9a34f3d6fa689a328cb41f7356a1a6282e98ac644b5d61b618d62e6dd8"), looks := false }, kinds := [], alts := [], laidByText := true, laidKinds := [.data], laidTests := true, laidLooks := .later }
def PledgeBindsCardSaid : Prop := Claim7.holds Tryz.pinned (.plain (OpenSpec.ofChange pledgeBindsSpec)) pledgeBindsCard

/-- THE TIED CARD OF 'reliquarylaw20.PledgeHolds'. -/
def pledgeHoldsCard : Claim7 := { stood := { row := pledgeHoldsRow, standIns := [], harness := (true, "00941a9a34f3d6fa689a328cb41f7356a1a6282e98ac644b5d61b618d62e6dd8"), looks := false }, kinds := [], alts := [], laidByText := true, laidKinds := [.data], laidTests := true, laidLooks := .later }
def PledgeHoldsCardSaid : Prop := Claim7.holds Tryz.pinned (.plain (OpenSpec.ofChange pledgeHoldsSpec)) pledgeHoldsCard

/-- THE TIED CARD OF 'reliquarylaw20.PledgeAdds'. -/
def pledgeAddsCard : Claim7 := { stood := { row := pledgeAddsRow, standIns := [], harness := (true, "00941a9a34f3d6fa689a328cb41f7356a1a6282e98ac644b5d61b618d62e6dd8"), looks := false }, kinds := [], alts := [], laidByText := true, laidKinds := [.data], laidTests := true, laidLooks := .later }
def PledgeAddsCardSaid : Prop := Claim7.holds Tryz.pinned (.plain (OpenSpec.ofChange pledgeAddsSpec)) pledgeAddsCard

/-- THE SECOND FORM's CARD OF 'reliquarylaw20.PledgeMakes'. -/
def pledgeMakesUptoCard : Claim7 := { stood := { row := pledgeMakesUptoRow, standIns := [], harness := (true, "00941a9a34f3d6fa689a328cb41f7356a1a6282e98ac644b5d61b618d62e6dd8"), looks := false }, kinds := [], alts := [], laidByText := true, laidKinds := [.data], laidTests := true, laidLooks := .later }
def PledgeMakesUptoCardSaid : Prop := Claim7.holds Tryz.pinned (.plain (OpenSpec.upto pledgeMakesSpec)) pledgeMakesUptoCard

/-- THE SECOND FORM's CARD OF 'reliquarylaw20.PledgeTells'. -/
def pledgeTellsUptoCard : Claim7 := { stood := { row := pledgeTellsUptoRow, standIns := [], harness := (true, "00941a9a34f3d6fa689a328cb41f7356a1a6282e98ac644b5d61b618d62e6dd8"), looks := false }, kinds := [], alts := [], laidByText := true, laidKinds := [.data], laidTests := true, laidLooks := .later }
def PledgeTellsUptoCardSaid : Prop := Claim7.holds Tryz.pinned (.plain (OpenSpec.upto pledgeTellsSpec)) pledgeTellsUptoCard

/-- THE SECOND FORM's CARD OF 'reliquarylaw20.PledgeBinds'. -/
def pledgeBindsUptoCard : Claim7 := { stood := { row := pledgeBindsUptoRow, standIns := [], harness := (true, "00941a9a34f3d6fa689a328cb41f7356a1a6282e98ac644b5d61b618d62e6dd8"), looks := false }, kinds := [], alts := [], laidByText := true, laidKinds := [.data], laidTests := true, laidLooks := .later }
def PledgeBindsUptoCardSaid : Prop := Claim7.holds Tryz.pinned (.plain (OpenSpec.upto pledgeBindsSpec)) pledgeBindsUptoCard

/-- THE SECOND FORM's CARD OF 'reliquarylaw20.PledgeHolds'. -/
def pledgeHoldsUptoCard : Claim7 := { stood := { row := pledgeHoldsUptoRow, standIns := [], harness := (true, "00941a9a34f3d6fa689a328cb41f7356a1a6282e98ac644b5d61b618d62e6dd8"), looks := false }, kinds := [], alts := [], laidByText := true, laidKinds := [.data], laidTests := true, laidLooks := .later }
def PledgeHoldsUptoCardSaid : Prop := Claim7.holds Tryz.pinned (.plain (OpenSpec.upto pledgeHoldsSpec)) pledgeHoldsUptoCard

/-- THE SECOND FORM's CARD OF 'reliquarylaw20.PledgeAdds'. -/
def pledgeAddsUptoCard : Claim7 := { stood := { row := pledgeAddsUptoRow, standIns := [], harness := (true, "00941a9a34f3d6fa689a328cb41f7356a1a6282e98ac644b5d61b618d62e6dd8"), looks := false }, kinds := [], alts := [], laidByText := true, laidKinds := [.data], laidTests := true, laidLooks := .later }
def PledgeAddsUptoCardSaid : Prop := Claim7.holds Tryz.pinned (.plain (OpenSpec.upto pledgeAddsSpec)) pledgeAddsUptoCard
end Rows
end Go.Proofs.YtedplhdabefnkaaGreatDoor
