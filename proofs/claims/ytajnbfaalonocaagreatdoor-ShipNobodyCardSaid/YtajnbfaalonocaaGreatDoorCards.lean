/-
  DERIVED. GIVEN WITH THE SEED: THE CARDS: each row of YtajnbfaalonocaaGreatDoorRows.lean that lists a variable, with what it lists TIED to the program's text (the seventh form; the later family's looks); each row that meets fmt, with fmt's text TOLD by the authors' own Lean function (tested against real Go, not proved from fmt's source: count such statements apart). THE CARD IS WHAT COUNTS. Prove the row's statement (the work); the ties are given (YtajnbfaalonocaaGreatDoorTie.lean); close each card by the builder's one call (the guide's Derived/Test/ToyasCard.lean, 'card_holds'). Laid BY PROGRAM, IN A SANDBOX (cutbox-door.mjs). By AI agents, Wed Nov 11 2026. No macro, syntax, notation, axiom, sorry.
-/
import Derived.Test.YtajnbfaalonocaaGreatDoorRows
import GoSem.ClaimSeven
namespace Go.Proofs.YtajnbfaalonocaaGreatDoor
namespace Rows

/-- THE TIED CARD OF 'grommetlaw32.ShipNobody'. -/
def shipNobodyCard : Claim7 := { stood := { row := shipNobodyRow, standIns := [], harness := (true, "a3a621597bfc4efd61f0ab2d3fc116d3d4058fed01f0d22d6f331755fc91af74"), looks := true }, kinds := [], alts := [], laidByText := true, laidKinds := [.data, .data, .data, .data, .sentinel, .sentinel, .pinned], laidTests := true, laidLooks := .later }
def ShipNobodyCardSaid : Prop := Claim7.holds Tryz.pinned (.plain (OpenSpec.ofChange shipNobodySpec)) shipNobodyCard

/-- THE TIED CARD OF 'grommetlaw32.ShipRows'. -/
def shipRowsCard : Claim7 := { stood := { row := shipRowsRow, standIns := [], harness := (true, "a3a621597bfc4efd61f0ab2d3fc116d3d4058fed01f0d22d6f331755fc91af74"), looks := true }, kinds := [], alts := [], laidByText := true, laidKinds := [.data, .data, .data, .data, .sentinel, .sentinel, .pinned], laidTests := true, laidLooks := .later }
def ShipRowsCardSaid : Prop := Claim7.holds Tryz.pinned (.plain (OpenSpec.ofChange shipRowsSpec)) shipRowsCard

/-- THE SECOND FORM's CARD OF 'grommetlaw32.ShipNobody'. -/
def shipNobodyUptoCard : Claim7 := { stood := { row := shipNobodyUptoRow, standIns := [], harness := (true, "a3a621597bfc4efd61f0ab2d3fc116d3d4058fed01f0d22d6f331755fc91af74"), looks := true }, kinds := [], alts := [], laidByText := true, laidKinds := [.data, .data, .data, .data, .sentinel, .sentinel, .pinned], laidTests := true, laidLooks := .later }
def ShipNobodyUptoCardSaid : Prop := Claim7.holds Tryz.pinned (.plain (OpenSpec.upto shipNobodySpec)) shipNobodyUptoCard

/-- THE SECOND FORM's CARD OF 'grommetlaw32.ShipRows'. -/
def shipRowsUptoCard : Claim7 := { stood := { row := shipRowsUptoRow, standIns := [], harness := (true, "a3a621597bfc4efd61f0ab2d3fc116d3d4058fed01f0d22d6f331755fc91af74"), looks := true }, kinds := [], alts := [], laidByText := true, laidKinds := [.data, .data, .data, .data, .sentinel, .sentinel, .pinned], laidTests := true, laidLooks := .later }
def ShipRowsUptoCardSaid : Prop := Claim7.holds Tryz.pinned (.plain (OpenSpec.upto shipRowsSpec)) shipRowsUptoCard
end Rows
end Go.Proofs.YtajnbfaalonocaaGreatDoor
