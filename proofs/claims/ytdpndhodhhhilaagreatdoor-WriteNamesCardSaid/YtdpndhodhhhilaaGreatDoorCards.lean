/-
  DERIVED. GIVEN WITH THE SEED: THE CARDS: each row of YtdpndhodhhhilaaGreatDoorRows.lean that lists a variable, with what it lists TIED to the program's text (the seventh form; the later family's looks); each row that meets fmt, with fmt's text TOLD by the authors' own Lean function (tested against real Go, not proved from fmt's source: count such statements apart). THE CARD IS WHAT COUNTS. Prove the row's statement (the work); the ties are given (YtdpndhodhhhilaaGreatDoorTie.lean); close each card by the builder's one call (the guide's Derived/Test/ToyasCard.lean, 'card_holds'). Laid BY PROGRAM, IN A SANDBOX (cutbox-door.mjs). By AI agents, Wed Nov 11 2026. No macro, syntax, notation, axiom, sorry.
-/
import Derived.Test.YtdpndhodhhhilaaGreatDoorRows
import GoSem.ClaimSeven
namespace Go.Proofs.YtdpndhodhhhilaaGreatDoor
namespace Rows

/-- THE TIED CARD OF 'pagemenderlaw19.PutBack'. -/
def putBackCard : Claim7 := { stood := { row := putBackRow, standIns := [], harness := (true, "b1fb50fed02fa03b947751815337814e132952c8be6750ab5b5ab2ef51565998"), looks := false }, kinds := [], alts := [], laidByText := true, laidKinds := [.data, .data, .data, .data, .pinned], laidTests := true, laidLooks := .later }
def PutBackCardSaid : Prop := Claim7.holds Tryz.pinned (.plain (OpenSpec.ofChange putBackSpec)) putBackCard

/-- THE TIED CARD OF 'pagemenderlaw19.PutPlain'. -/
def putPlainCard : Claim7 := { stood := { row := putPlainRow, standIns := [], harness := (true, "b1fb50fed02fa03b947751815337814e132952c8be6750ab5b5ab2ef51565998"), looks := false }, kinds := [], alts := [], laidByText := true, laidKinds := [.data, .data, .data, .data, .pinned], laidTests := true, laidLooks := .later }
def PutPlainCardSaid : Prop := Claim7.holds Tryz.pinned (.plain (OpenSpec.ofChange putPlainSpec)) putPlainCard

/-- THE TIED CARD OF 'pagemenderlaw19.PutUnlike'. -/
def putUnlikeCard : Claim7 := { stood := { row := putUnlikeRow, standIns := [], harness := (true, "b1fb50fed02fa03b947751815337814e132952c8be6750ab5b5ab2ef51565998"), looks := false }, kinds := [], alts := [], laidByText := true, laidKinds := [.data, .data, .data, .data, .pinned], laidTests := true, laidLooks := .later }
def PutUnlikeCardSaid : Prop := Claim7.holds Tryz.pinned (.plain (OpenSpec.ofChange putUnlikeSpec)) putUnlikeCard

/-- THE TIED CARD OF 'pagemenderlaw19.PutNames'. -/
def putNamesCard : Claim7 := { stood := { row := putNamesRow, standIns := [], harness := (true, "b1fb50fed02fa03b947751815337814e132952c8be6750ab5b5ab2ef51565998"), looks := false }, kinds := [], alts := [], laidByText := true, laidKinds := [.data, .data, .data, .data, .pinned], laidTests := true, laidLooks := .later }
def PutNamesCardSaid : Prop := Claim7.holds Tryz.pinned (.plain (OpenSpec.ofChange putNamesSpec)) putNamesCard

/-- THE TIED CARD OF 'pagemenderlaw19.PutCalls'. -/
def putCallsCard : Claim7 := { stood := { row := putCallsRow, standIns := [], harness := (true, "b1fb50fed02fa03b947751815337814e132952c8be6750ab5b5ab2ef51565998"), looks := false }, kinds := [], alts := [], laidByText := true, laidKinds := [.data, .data, .data, .data, .pinned], laidTests := true, laidLooks := .later }
def PutCallsCardSaid : Prop := Claim7.holds Tryz.pinned (.plain (OpenSpec.ofChange putCallsSpec)) putCallsCard

/-- THE TIED CARD OF 'pagemenderlaw19.PutArmour'. -/
def putArmourCard : Claim7 := { stood := { row := putArmourRow, standIns := [], harness := (true, "b1fb50fed02fa03b947751815337814e132952c8be6750ab5b5ab2ef51565998"), looks := false }, kinds := [], alts := [], laidByText := true, laidKinds := [.data, .data, .data, .data, .pinned], laidTests := true, laidLooks := .later }
def PutArmourCardSaid : Prop := Claim7.holds Tryz.pinned (.plain (OpenSpec.ofChange putArmourSpec)) putArmourCard

/-- THE TIED CARD OF 'pagemenderlaw29.WriteMarks'. -/
def writeMarksCard : Claim7 := { stood := { row := writeMarksRow, standIns := [], harness := (true, "b1fb50fed02fa03b947751815337814e132952c8be6750ab5b5ab2ef51565998"), looks := false }, kinds := [], alts := [], laidByText := true, laidKinds := [.data, .data, .data, .data, .pinned], laidTests := true, laidLooks := .later }
def WriteMarksCardSaid : Prop := Claim7.holds Tryz.pinned (.plain (OpenSpec.ofChange writeMarksSpec)) writeMarksCard

/-- THE TIED CARD OF 'pagemenderlaw29.WriteBears'. -/
def writeBearsCard : Claim7 := { stood := { row := writeBearsRow, standIns := [], harness := (true, "b1fb50fed02fa03b947751815337814e132952c8be6750ab5b5ab2ef51565998"), looks := false }, kinds := [], alts := [], laidByText := true, laidKinds := [.data, .data, .data, .data, .pinned], laidTests := true, laidLooks := .later }
def WriteBearsCardSaid : Prop := Claim7.holds Tryz.pinned (.plain (OpenSpec.ofChange writeBearsSpec)) writeBearsCard

/-- THE TIED CARD OF 'pagemenderlaw29.WriteNames'. -/
def writeNamesCard : Claim7 := { stood := { row := writeNamesRow, standIns := [], harness := (true, "b1fb50fed02fa03b947751815337814e132952c8be6750ab5b5ab2ef51565998"), looks := false }, kinds := [], alts := [], laidByText := true, laidKinds := [.data, .data, .data, .data, .pinned], laidTests := true, laidLooks := .later }
def WriteNamesCardSaid : Prop := Claim7.holds Tryz.pinned (.plain (OpenSpec.ofChange writeNamesSpec)) writeNamesCard

/-- THE TIED CARD OF 'pagemenderlaw29.WriteCalls'. -/
def writeCallsCard : Claim7 := { stood := { row := writeCallsRow, standIns := [], harness := (true, "b1fb50fed02fa03b947751815337814e132952c8be6750ab5b5ab2ef51565998"), looks := false }, kinds := [], alts := [], laidByText := true, laidKinds := [.data, .data, .data, .data, .pinned], laidTests := true, laidLooks := .later }
def WriteCallsCardSaid : Prop := Claim7.holds Tryz.pinned (.plain (OpenSpec.ofChange writeCallsSpec)) writeCallsCard

/-- THE SECOND FORM's CARD OF 'pagemenderlaw19.PutBack'. -/
def putBackUptoCard : Claim7 := { stood := { row := putBackUptoRow, standIns := [], harness := (true, "b1fb50fed02fa03b947751815337814e132952c8be6750ab5b5ab2ef51565998"), looks := false }, kinds := [], alts := [], laidByText := true, laidKinds := [.data, .data, .data, .data, .pinned], laidTests := true, laidLooks := .later }
def PutBackUptoCardSaid : Prop := Claim7.holds Tryz.pinned (.plain (OpenSpec.upto putBackSpec)) putBackUptoCard

/-- THE SECOND FORM's CARD OF 'pagemenderlaw19.PutPlain'. -/
def putPlainUptoCard : Claim7 := { stood := { row := putPlainUptoRow, standIns := [], harness := (true, "b1fb50fed02fa03b947751815337814e132952c8be6750ab5b5ab2ef51565998"), looks := false }, kinds := [], alts := [], laidByText := true, laidKinds := [.data, .data, .data, .data, .pinned], laidTests := true, laidLooks := .later }
def PutPlainUptoCardSaid : Prop := Claim7.holds Tryz.pinned (.plain (OpenSpec.upto putPlainSpec)) putPlainUptoCard

/-- THE SECOND FORM's CARD OF 'pagemenderlaw19.PutUnlike'. -/
def putUnlikeUptoCard : Claim7 := { stood := { row := putUnlikeUptoRow, standIns := [], harness := (true, "b1fb50fed02fa03b947751815337814e132952c8be6750ab5b5ab2ef51565998"), looks := false }, kinds := [], alts := [], laidByText := true, laidKinds := [.data, .data, .data, .data, .pinned], laidTests := true, laidLooks := .later }
def PutUnlikeUptoCardSaid : Prop := Claim7.holds Tryz.pinned (.plain (OpenSpec.upto putUnlikeSpec)) putUnlikeUptoCard

/-- THE SECOND FORM's CARD OF 'pagemenderlaw19.PutNames'. -/
def putNamesUptoCard : Claim7 := { stood := { row := putNamesUptoRow, standIns := [], harness := (true, "b1fb50fed02fa03b947751815337814e132952c8be6750ab5b5ab2ef51565998"), looks := false }, kinds := [], alts := [], laidByText := true, laidKinds := [.data, .data, .data, .data, .pinned], laidTests := true, laidLooks := .later }
def PutNamesUptoCardSaid : Prop := Claim7.holds Tryz.pinned (.plain (OpenSpec.upto putNamesSpec)) putNamesUptoCard

/-- THE SECOND FORM's CARD OF 'pagemenderlaw19.PutCalls'. -/
def putCallsUptoCard : Claim7 := { stood := { row := putCallsUptoRow, standIns := [], harness := (true, "b1fb50fed02fa03b947751815337814e132952c8be6750ab5b5ab2ef51565998"), looks := false }, kinds := [], alts := [], laidByText := true, laidKinds := [.data, .data, .data, .data, .pinned], laidTests := true, laidLooks := .later }
def PutCallsUptoCardSaid : Prop := Claim7.holds Tryz.pinned (.plain (OpenSpec.upto putCallsSpec)) putCallsUptoCard

/-- THE SECOND FORM's CARD OF 'pagemenderlaw19.PutArmour'. -/
def putArmourUptoCard : Claim7 := { stood := { row := putArmourUptoRow, standIns := [], harness := (true, "b1fb50fed02fa03b947751815337814e132952c8be6750ab5b5ab2ef51565998"), looks := false }, kinds := [], alts := [], laidByText := true, laidKinds := [.data, .data, .data, .data, .pinned], laidTests := true, laidLooks := .later }
def PutArmourUptoCardSaid : Prop := Claim7.holds Tryz.pinned (.plain (OpenSpec.upto putArmourSpec)) putArmourUptoCard

/-- THE SECOND FORM's CARD OF 'pagemenderlaw29.WriteMarks'. -/
def writeMarksUptoCard : Claim7 := { stood := { row := writeMarksUptoRow, standIns := [], harness := (true, "b1fb50fed02fa03b947751815337814e132952c8be6750ab5b5ab2ef51565998"), looks := false }, kinds := [], alts := [], laidByText := true, laidKinds := [.data, .data, .data, .data, .pinned], laidTests := true, laidLooks := .later }
def WriteMarksUptoCardSaid : Prop := Claim7.holds Tryz.pinned (.plain (OpenSpec.upto writeMarksSpec)) writeMarksUptoCard

/-- THE SECOND FORM's CARD OF 'pagemenderlaw29.WriteBears'. -/
def writeBearsUptoCard : Claim7 := { stood := { row := writeBearsUptoRow, standIns := [], harness := (true, "b1fb50fed02fa03b947751815337814e132952c8be6750ab5b5ab2ef51565998"), looks := false }, kinds := [], alts := [], laidByText := true, laidKinds := [.data, .data, .data, .data, .pinned], laidTests := true, laidLooks := .later }
def WriteBearsUptoCardSaid : Prop := Claim7.holds Tryz.pinned (.plain (OpenSpec.upto writeBearsSpec)) writeBearsUptoCard

/-- THE SECOND FORM's CARD OF 'pagemenderlaw29.WriteNames'. -/
def writeNamesUptoCard : Claim7 := { stood := { row := writeNamesUptoRow, standIns := [], harness := (true, "b1fb50fed02fa03b947751815337814e132952c8be6750ab5b5ab2ef51565998"), looks := false }, kinds := [], alts := [], laidByText := true, laidKinds := [.data, .data, .data, .data, .pinned], laidTests := true, laidLooks := .later }
def WriteNamesUptoCardSaid : Prop := Claim7.holds Tryz.pinned (.plain (OpenSpec.upto writeNamesSpec)) writeNamesUptoCard

/-- THE SECOND FORM's CARD OF 'pagemenderlaw29.WriteCalls'. -/
def writeCallsUptoCard : Claim7 := { stood := { row := writeCallsUptoRow, standIns := [], harness := (true, "b1fb50fed02fa03b947751815337814e132952c8be6750ab5b5ab2ef51565998"), looks := false }, kinds := [], alts := [], laidByText := true, laidKinds := [.data, .data, .data, .data, .pinned], laidTests := true, laidLooks := .later }
def WriteCallsUptoCardSaid : Prop := Claim7.holds Tryz.pinned (.plain (OpenSpec.upto writeCallsSpec)) writeCallsUptoCard
end Rows
end Go.Proofs.YtdpndhodhhhilaaGreatDoor
