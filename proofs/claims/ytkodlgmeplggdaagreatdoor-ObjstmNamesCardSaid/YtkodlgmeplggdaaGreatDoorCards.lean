/-
  DERIVED. GIVEN WITH THE SEED: THE CARDS: each row of YtkodlgmeplggdaaGreatDoorRows.lean that lists a variable, with what it lists TIED to the program's text (the seventh form; the later family's looks); each row that meets fmt, with fmt's text TOLD by the authors' own Lean function (tested against real Go, not proved from fmt's source: count such statements apart). THE CARD IS WHAT COUNTS. Prove the row's statement (the work); the ties are given (YtkodlgmeplggdaaGreatDoorTie.lean); close each card by the builder's one call (the guide's Derived/Test/ToyasCard.lean, 'card_holds'). Laid BY PROGRAM, IN A SANDBOX (cutbox-door.mjs). By AI agents, Wed Nov 11 2026. No macro, syntax, notation, axiom, sorry.
-/
import Derived.Test.YtkodlgmeplggdaaGreatDoorRows
import GoSem.ClaimSeven
namespace Go.Proofs.YtkodlgmeplggdaaGreatDoor
namespace Rows

/-- THE TIED CARD OF 'pagemenderlaw22.ObjstmNames'. -/
def objstmNamesCard : Claim7 := { stood := { row := objstmNamesRow, standIns := [], harness := (true, "8f9194c85b3aa3ecdead529c0d6228ccc3b810b5e6fc6afa95dc88a5b1ce0daf"), looks := true }, kinds := [], alts := [], laidByText := true, laidKinds := [.data, .data, .data, .data, .sentinel, .sentinel, .listed, .data, .pinned], laidTests := true, laidLooks := .later }
def ObjstmNamesCardSaid : Prop := Claim7.holds Tryz.pinned (.plain (OpenSpec.ofChange objstmNamesSpec)) objstmNamesCard

/-- THE TIED CARD OF 'pagemenderlaw26.TrailerNames'. -/
def trailerNamesCard : Claim7 := { stood := { row := trailerNamesRow, standIns := [], harness := (true, "8f9194c85b3aa3ecdead529c0d6228ccc3b810b5e6fc6afa95dc88a5b1ce0daf"), looks := true }, kinds := [], alts := [], laidByText := true, laidKinds := [.data, .data, .data, .data, .sentinel, .sentinel, .listed, .data, .pinned], laidTests := true, laidLooks := .later }
def TrailerNamesCardSaid : Prop := Claim7.holds Tryz.pinned (.plain (OpenSpec.ofChange trailerNamesSpec)) trailerNamesCard

/-- THE TIED CARD OF 'pagemenderlaw24.ScanNames'. -/
def scanNamesCard : Claim7 := { stood := { row := scanNamesRow, standIns := [], harness := (true, "8f9194c85b3aa3ecdead529c0d6228ccc3b810b5e6fc6afa95dc88a5b1ce0daf"), looks := true }, kinds := [], alts := [], laidByText := true, laidKinds := [.data, .data, .data, .data, .sentinel, .sentinel, .listed, .data, .pinned], laidTests := true, laidLooks := .later }
def ScanNamesCardSaid : Prop := Claim7.holds Tryz.pinned (.plain (OpenSpec.ofChange scanNamesSpec)) scanNamesCard

/-- THE SECOND FORM's CARD OF 'pagemenderlaw22.ObjstmNames'. -/
def objstmNamesUptoCard : Claim7 := { stood := { row := objstmNamesUptoRow, standIns := [], harness := (true, "8f9194c85b3aa3ecdead529c0d6228ccc3b810b5e6fc6afa95dc88a5b1ce0daf"), looks := true }, kinds := [], alts := [], laidByText := true, laidKinds := [.data, .data, .data, .data, .sentinel, .sentinel, .listed, .data, .pinned], laidTests := true, laidLooks := .later }
def ObjstmNamesUptoCardSaid : Prop := Claim7.holds Tryz.pinned (.plain (OpenSpec.upto objstmNamesSpec)) objstmNamesUptoCard

/-- THE SECOND FORM's CARD OF 'pagemenderlaw26.TrailerNames'. -/
def trailerNamesUptoCard : Claim7 := { stood := { row := trailerNamesUptoRow, standIns := [], harness := (true, "8f9194c85b3aa3ecdead529c0d6228ccc3b810b5e6fc6afa95dc88a5b1ce0daf"), looks := true }, kinds := [], alts := [], laidByText := true, laidKinds := [.data, .data, .data, .data, .sentinel, .sentinel, .listed, .data, .pinned], laidTests := true, laidLooks := .later }
def TrailerNamesUptoCardSaid : Prop := Claim7.holds Tryz.pinned (.plain (OpenSpec.upto trailerNamesSpec)) trailerNamesUptoCard

/-- THE SECOND FORM's CARD OF 'pagemenderlaw24.ScanNames'. -/
def scanNamesUptoCard : Claim7 := { stood := { row := scanNamesUptoRow, standIns := [], harness := (true, "8f9194c85b3aa3ecdead529c0d6228ccc3b810b5e6fc6afa95dc88a5b1ce0daf"), looks := true }, kinds := [], alts := [], laidByText := true, laidKinds := [.data, .data, .data, .data, .sentinel, .sentinel, .listed, .data, .pinned], laidTests := true, laidLooks := .later }
def ScanNamesUptoCardSaid : Prop := Claim7.holds Tryz.pinned (.plain (OpenSpec.upto scanNamesSpec)) scanNamesUptoCard
end Rows
end Go.Proofs.YtkodlgmeplggdaaGreatDoor
