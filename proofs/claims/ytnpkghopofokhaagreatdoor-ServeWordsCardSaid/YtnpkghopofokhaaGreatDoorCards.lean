/-
  DERIVED. GIVEN WITH THE SEED: THE CARDS: each row of YtnpkghopofokhaaGreatDoorRows.lean that lists a variable, with what it lists TIED to the program's text (the seventh form; the later family's looks); each row that meets fmt, with fmt's text TOLD by the authors' own Lean function (tested against real Go, not proved from fmt's source: count such statements apart). THE CARD IS WHAT COUNTS. Prove the row's statement (the work); the ties are given (YtnpkghopofokhaaGreatDoorTie.lean); close each card by the builder's one call (the guide's Derived/Test/ToyasCard.lean, 'card_holds'). Laid BY PROGRAM, IN A SANDBOX (cutbox-door.mjs). By AI agents, Wed Nov 11 2026. No macro, syntax, notation, axiom, sorry.
-/
import Derived.Test.YtnpkghopofokhaaGreatDoorRows
import GoSem.ClaimSeven
namespace Go.Proofs.YtnpkghopofokhaaGreatDoor
namespace Rows

/-- THE TIED CARD OF 'grommetlaw33.ServeNobody'. -/
def serveNobodyCard : Claim7 := { stood := { row := serveNobodyRow, standIns := [], harness := (true, "189d41cd998bee27848df9391fdf56110c4aa4acba9b78f60f592a611b160fe2"), looks := true }, kinds := [], alts := [], laidByText := true, laidKinds := [.data, .data, .data, .data, .sentinel, .sentinel, .pinned], laidTests := true, laidLooks := .later }
def ServeNobodyCardSaid : Prop := Claim7.holds Tryz.pinned (.plain (OpenSpec.ofChange serveNobodySpec)) serveNobodyCard

/-- THE TIED CARD OF 'grommetlaw33.ServeWords'. -/
def serveWordsCard : Claim7 := { stood := { row := serveWordsRow, standIns := [], harness := (true, "189d41cd998bee27848df9391fdf56110c4aa4acba9b78f60f592a611b160fe2"), looks := true }, kinds := [], alts := [], laidByText := true, laidKinds := [.data, .data, .data, .data, .sentinel, .sentinel, .pinned], laidTests := true, laidLooks := .later }
def ServeWordsCardSaid : Prop := Claim7.holds Tryz.pinned (.plain (OpenSpec.ofChange serveWordsSpec)) serveWordsCard

/-- THE SECOND FORM's CARD OF 'grommetlaw33.ServeNobody'. -/
def serveNobodyUptoCard : Claim7 := { stood := { row := serveNobodyUptoRow, standIns := [], harness := (true, "189d41cd998bee27848df9391fdf56110c4aa4acba9b78f60f592a611b160fe2"), looks := true }, kinds := [], alts := [], laidByText := true, laidKinds := [.data, .data, .data, .data, .sentinel, .sentinel, .pinned], laidTests := true, laidLooks := .later }
def ServeNobodyUptoCardSaid : Prop := Claim7.holds Tryz.pinned (.plain (OpenSpec.upto serveNobodySpec)) serveNobodyUptoCard

/-- THE SECOND FORM's CARD OF 'grommetlaw33.ServeWords'. -/
def serveWordsUptoCard : Claim7 := { stood := { row := serveWordsUptoRow, standIns := [], harness := (true, "189d41cd998bee27848df9391fdf56110c4aa4acba9b78f60f592a611b160fe2"), looks := true }, kinds := [], alts := [], laidByText := true, laidKinds := [.data, .data, .data, .data, .sentinel, .sentinel, .pinned], laidTests := true, laidLooks := .later }
def ServeWordsUptoCardSaid : Prop := Claim7.holds Tryz.pinned (.plain (OpenSpec.upto serveWordsSpec)) serveWordsUptoCard
end Rows
end Go.Proofs.YtnpkghopofokhaaGreatDoor
