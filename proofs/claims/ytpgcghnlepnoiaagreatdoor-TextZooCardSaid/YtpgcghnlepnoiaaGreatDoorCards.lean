/-
  DERIVED. GIVEN WITH THE SEED: THE CARDS: each row of YtpgcghnlepnoiaaGreatDoorRows.lean that lists a variable, with what it lists TIED to the program's text (the seventh form; the later family's looks); each row that meets fmt, with fmt's text TOLD by the authors' own Lean function (tested against real Go, not proved from fmt's source: count such statements apart). THE CARD IS WHAT COUNTS. Prove the row's statement (the work); the ties are given (YtpgcghnlepnoiaaGreatDoorTie.lean); close each card by the builder's one call (the guide's Derived/Test/ToyasCard.lean, 'card_holds'). Laid BY PROGRAM, IN A SANDBOX (cutbox-door.mjs). By AI agents, Wed Nov 11 2026. No macro, syntax, notation, axiom, sorry.
-/
import Derived.Test.YtpgcghnlepnoiaaGreatDoorRows
import GoSem.ClaimSeven
namespace Go.Proofs.YtpgcghnlepnoiaaGreatDoor
namespace Rows

/-- THE TIED CARD OF 'vivariumkeep.TextBack'. -/
def textBackCard : Claim7 := { stood := { row := textBackRow, standIns := [], harness := (true, "925c436939f3190654a8faea2ef9358bc195a7a4e5d0131896c06750226f7c39"), looks := true }, kinds := [], alts := [], laidByText := true, laidKinds := [.data, .data, .data, .data, .sentinel, .sentinel, .pinned], laidTests := true, laidLooks := .later }
def TextBackCardSaid : Prop := Claim7.holds Tryz.pinned (.plain (OpenSpec.ofChange textBackSpec)) textBackCard

/-- THE TIED CARD OF 'vivariumkeep.TextLines'. -/
def textLinesCard : Claim7 := { stood := { row := textLinesRow, standIns := [], harness := (true, "925c436939f3190654a8faea2ef9358bc195a7a4e5d0131896c06750226f7c39"), looks := true }, kinds := [], alts := [], laidByText := true, laidKinds := [.data, .data, .data, .data, .sentinel, .sentinel, .pinned], laidTests := true, laidLooks := .later }
def TextLinesCardSaid : Prop := Claim7.holds Tryz.pinned (.plain (OpenSpec.ofChange textLinesSpec)) textLinesCard

/-- THE TIED CARD OF 'vivariumkeep.TextZoo'. -/
def textZooCard : Claim7 := { stood := { row := textZooRow, standIns := [], harness := (true, "925c436939f3190654a8faea2ef9358bc195a7a4e5d0131896c06750226f7c39"), looks := true }, kinds := [], alts := [], laidByText := true, laidKinds := [.data, .data, .data, .data, .sentinel, .sentinel, .pinned], laidTests := true, laidLooks := .later }
def TextZooCardSaid : Prop := Claim7.holds Tryz.pinned (.plain (OpenSpec.ofChange textZooSpec)) textZooCard

/-- THE SECOND FORM's CARD OF 'vivariumkeep.TextBack'. -/
def textBackUptoCard : Claim7 := { stood := { row := textBackUptoRow, standIns := [], harness := (true, "925c436939f3190654a8faea2ef9358bc195a7a4e5d0131896c06750226f7c39"), looks := true }, kinds := [], alts := [], laidByText := true, laidKinds := [.data, .data, .data, .data, .sentinel, .sentinel, .pinned], laidTests := true, laidLooks := .later }
def TextBackUptoCardSaid : Prop := Claim7.holds Tryz.pinned (.plain (OpenSpec.upto textBackSpec)) textBackUptoCard

/-- THE SECOND FORM's CARD OF 'vivariumkeep.TextLines'. -/
def textLinesUptoCard : Claim7 := { stood := { row := textLinesUptoRow, standIns := [], harness := (true, "925c436939f3190654a8faea2ef9358bc195a7a4e5d0131896c06750226f7c39"), looks := true }, kinds := [], alts := [], laidByText := true, laidKinds := [.data, .data, .data, .data, .sentinel, .sentinel, .pinned], laidTests := true, laidLooks := .later }
def TextLinesUptoCardSaid : Prop := Claim7.holds Tryz.pinned (.plain (OpenSpec.upto textLinesSpec)) textLinesUptoCard

/-- THE SECOND FORM's CARD OF 'vivariumkeep.TextZoo'. -/
def textZooUptoCard : Claim7 := { stood := { row := textZooUptoRow, standIns := [], harness := (true, "925c436939f3190654a8faea2ef9358bc195a7a4e5d0131896c06750226f7c39"), looks := true }, kinds := [], alts := [], laidByText := true, laidKinds := [.data, .data, .data, .data, .sentinel, .sentinel, .pinned], laidTests := true, laidLooks := .later }
def TextZooUptoCardSaid : Prop := Claim7.holds Tryz.pinned (.plain (OpenSpec.upto textZooSpec)) textZooUptoCard
end Rows
end Go.Proofs.YtpgcghnlepnoiaaGreatDoor
