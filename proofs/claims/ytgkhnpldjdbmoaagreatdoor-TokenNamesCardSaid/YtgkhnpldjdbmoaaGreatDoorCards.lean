/-
  DERIVED. GIVEN WITH THE SEED: THE CARDS: each row of YtgkhnpldjdbmoaaGreatDoorRows.lean that lists a variable, with what it lists TIED to the program's text (the seventh form; the later family's looks); each row that meets fmt, with fmt's text TOLD by the authors' own Lean function (tested against real Go, not proved from fmt's source: count such statements apart). THE CARD IS WHAT COUNTS. Prove the row's statement (the work); the ties are given (YtgkhnpldjdbmoaaGreatDoorTie.lean); close each card by the builder's one call (the guide's Derived/Test/ToyasCard.lean, 'card_holds'). Laid BY PROGRAM, IN A SANDBOX (cutbox-door.mjs). By AI agents, Wed Nov 11 2026. No macro, syntax, notation, axiom, sorry.
-/
import Derived.Test.YtgkhnpldjdbmoaaGreatDoorRows
import GoSem.ClaimSeven
namespace Go.Proofs.YtgkhnpldjdbmoaaGreatDoor
namespace Rows

/-- THE TIED CARD OF 'pagemenderlaw19.PutBack'. -/
def putBackCard : Claim7 := { stood := { row := putBackRow, standIns := [], harness := (true, "d945c9330deb011bddd1d00766b9334caaf3b3ee72c234726a5819367a93a1d7"), looks := true }, kinds := [], alts := [], laidByText := true, laidKinds := [.data, .data, .data, .data, .pinned], laidTests := true, laidLooks := .later }
def PutBackCardSaid : Prop := Claim7.holds Tryz.pinned (.plain (OpenSpec.ofChange putBackSpec)) putBackCard

/-- THE TIED CARD OF 'pagemenderlaw19.PutPlain'. -/
def putPlainCard : Claim7 := { stood := { row := putPlainRow, standIns := [], harness := (true, "d945c9330deb011bddd1d00766b9334caaf3b3ee72c234726a5819367a93a1d7"), looks := true }, kinds := [], alts := [], laidByText := true, laidKinds := [.data, .data, .data, .data, .pinned], laidTests := true, laidLooks := .later }
def PutPlainCardSaid : Prop := Claim7.holds Tryz.pinned (.plain (OpenSpec.ofChange putPlainSpec)) putPlainCard

/-- THE TIED CARD OF 'pagemenderlaw19.PutUnlike'. -/
def putUnlikeCard : Claim7 := { stood := { row := putUnlikeRow, standIns := [], harness := (true, "d945c9330deb011bddd1d00766b9334caaf3b3ee72c234726a5819367a93a1d7"), looks := true }, kinds := [], alts := [], laidByText := true, laidKinds := [.data, .data, .data, .data, .pinned], laidTests := true, laidLooks := .later }
def PutUnlikeCardSaid : Prop := Claim7.holds Tryz.pinned (.plain (OpenSpec.ofChange putUnlikeSpec)) putUnlikeCard

/-- THE TIED CARD OF 'pagemenderlaw05.TokenNames'. -/
def tokenNamesCard : Claim7 := { stood := { row := tokenNamesRow, standIns := [], harness := (true, "d945c9330deb011bddd1d00766b9334caaf3b3ee72c234726a5819367a93a1d7"), looks := true }, kinds := [], alts := [], laidByText := true, laidKinds := [.data, .data, .data, .data, .sentinel, .sentinel, .pinned], laidTests := true, laidLooks := .later }
def TokenNamesCardSaid : Prop := Claim7.holds Tryz.pinned (.plain (OpenSpec.ofChange tokenNamesSpec)) tokenNamesCard

/-- THE TIED CARD OF 'pagemenderlaw05.TokenBack'. -/
def tokenBackCard : Claim7 := { stood := { row := tokenBackRow, standIns := [], harness := (true, "d945c9330deb011bddd1d00766b9334caaf3b3ee72c234726a5819367a93a1d7"), looks := true }, kinds := [], alts := [], laidByText := true, laidKinds := [.data, .data, .data, .data, .sentinel, .sentinel, .pinned], laidTests := true, laidLooks := .later }
def TokenBackCardSaid : Prop := Claim7.holds Tryz.pinned (.plain (OpenSpec.ofChange tokenBackSpec)) tokenBackCard

/-- THE TIED CARD OF 'pagemenderlaw19.PutNames'. -/
def putNamesCard : Claim7 := { stood := { row := putNamesRow, standIns := [], harness := (true, "d945c9330deb011bddd1d00766b9334caaf3b3ee72c234726a5819367a93a1d7"), looks := true }, kinds := [], alts := [], laidByText := true, laidKinds := [.data, .data, .data, .data, .pinned], laidTests := true, laidLooks := .later }
def PutNamesCardSaid : Prop := Claim7.holds Tryz.pinned (.plain (OpenSpec.ofChange putNamesSpec)) putNamesCard

/-- THE TIED CARD OF 'pagemenderlaw19.PutCalls'. -/
def putCallsCard : Claim7 := { stood := { row := putCallsRow, standIns := [], harness := (true, "d945c9330deb011bddd1d00766b9334caaf3b3ee72c234726a5819367a93a1d7"), looks := true }, kinds := [], alts := [], laidByText := true, laidKinds := [.data, .data, .data, .data, .pinned], laidTests := true, laidLooks := .later }
def PutCallsCardSaid : Prop := Claim7.holds Tryz.pinned (.plain (OpenSpec.ofChange putCallsSpec)) putCallsCard

/-- THE TIED CARD OF 'pagemenderlaw19.PutArmour'. -/
def putArmourCard : Claim7 := { stood := { row := putArmourRow, standIns := [], harness := (true, "d945c9330deb011bddd1d00766b9334caaf3b3ee72c234726a5819367a93a1d7"), looks := true }, kinds := [], alts := [], laidByText := true, laidKinds := [.data, .data, .data, .data, .pinned], laidTests := true, laidLooks := .later }
def PutArmourCardSaid : Prop := Claim7.holds Tryz.pinned (.plain (OpenSpec.ofChange putArmourSpec)) putArmourCard

/-- THE SECOND FORM's CARD OF 'pagemenderlaw19.PutBack'. -/
def putBackUptoCard : Claim7 := { stood := { row := putBackUptoRow, standIns := [], harness := (true, "d945c9330deb011bddd1d00766b9334caaf3b3ee72c234726a5819367a93a1d7"), looks := true }, kinds := [], alts := [], laidByText := true, laidKinds := [.data, .data, .data, .data, .pinned], laidTests := true, laidLooks := .later }
def PutBackUptoCardSaid : Prop := Claim7.holds Tryz.pinned (.plain (OpenSpec.upto putBackSpec)) putBackUptoCard

/-- THE SECOND FORM's CARD OF 'pagemenderlaw19.PutPlain'. -/
def putPlainUptoCard : Claim7 := { stood := { row := putPlainUptoRow, standIns := [], harness := (true, "d945c9330deb011bddd1d00766b9334caaf3b3ee72c234726a5819367a93a1d7"), looks := true }, kinds := [], alts := [], laidByText := true, laidKinds := [.data, .data, .data, .data, .pinned], laidTests := true, laidLooks := .later }
def PutPlainUptoCardSaid : Prop := Claim7.holds Tryz.pinned (.plain (OpenSpec.upto putPlainSpec)) putPlainUptoCard

/-- THE SECOND FORM's CARD OF 'pagemenderlaw19.PutUnlike'. -/
def putUnlikeUptoCard : Claim7 := { stood := { row := putUnlikeUptoRow, standIns := [], harness := (true, "d945c9330deb011bddd1d00766b9334caaf3b3ee72c234726a5819367a93a1d7"), looks := true }, kinds := [], alts := [], laidByText := true, laidKinds := [.data, .data, .data, .data, .pinned], laidTests := true, laidLooks := .later }
def PutUnlikeUptoCardSaid : Prop := Claim7.holds Tryz.pinned (.plain (OpenSpec.upto putUnlikeSpec)) putUnlikeUptoCard

/-- THE SECOND FORM's CARD OF 'pagemenderlaw05.TokenNames'. -/
def tokenNamesUptoCard : Claim7 := { stood := { row := tokenNamesUptoRow, standIns := [], harness := (true, "d945c9330deb011bddd1d00766b9334caaf3b3ee72c234726a5819367a93a1d7"), looks := true }, kinds := [], alts := [], laidByText := true, laidKinds := [.data, .data, .data, .data, .sentinel, .sentinel, .pinned], laidTests := true, laidLooks := .later }
def TokenNamesUptoCardSaid : Prop := Claim7.holds Tryz.pinned (.plain (OpenSpec.upto tokenNamesSpec)) tokenNamesUptoCard

/-- THE SECOND FORM's CARD OF 'pagemenderlaw05.TokenBack'. -/
def tokenBackUptoCard : Claim7 := { stood := { row := tokenBackUptoRow, standIns := [], harness := (true, "d945c9330deb011bddd1d00766b9334caaf3b3ee72c234726a5819367a93a1d7"), looks := true }, kinds := [], alts := [], laidByText := true, laidKinds := [.data, .data, .data, .data, .sentinel, .sentinel, .pinned], laidTests := true, laidLooks := .later }
def TokenBackUptoCardSaid : Prop := Claim7.holds Tryz.pinned (.plain (OpenSpec.upto tokenBackSpec)) tokenBackUptoCard

/-- THE SECOND FORM's CARD OF 'pagemenderlaw19.PutNames'. -/
def putNamesUptoCard : Claim7 := { stood := { row := putNamesUptoRow, standIns := [], harness := (true, "d945c9330deb011bddd1d00766b9334caaf3b3ee72c234726a5819367a93a1d7"), looks := true }, kinds := [], alts := [], laidByText := true, laidKinds := [.data, .data, .data, .data, .pinned], laidTests := true, laidLooks := .later }
def PutNamesUptoCardSaid : Prop := Claim7.holds Tryz.pinned (.plain (OpenSpec.upto putNamesSpec)) putNamesUptoCard

/-- THE SECOND FORM's CARD OF 'pagemenderlaw19.PutCalls'. -/
def putCallsUptoCard : Claim7 := { stood := { row := putCallsUptoRow, standIns := [], harness := (true, "d945c9330deb011bddd1d00766b9334caaf3b3ee72c234726a5819367a93a1d7"), looks := true }, kinds := [], alts := [], laidByText := true, laidKinds := [.data, .data, .data, .data, .pinned], laidTests := true, laidLooks := .later }
def PutCallsUptoCardSaid : Prop := Claim7.holds Tryz.pinned (.plain (OpenSpec.upto putCallsSpec)) putCallsUptoCard

/-- THE SECOND FORM's CARD OF 'pagemenderlaw19.PutArmour'. -/
def putArmourUptoCard : Claim7 := { stood := { row := putArmourUptoRow, standIns := [], harness := (true, "d945c9330deb011bddd1d00766b9334caaf3b3ee72c234726a5819367a93a1d7"), looks := true }, kinds := [], alts := [], laidByText := true, laidKinds := [.data, .data, .data, .data, .pinned], laidTests := true, laidLooks := .later }
def PutArmourUptoCardSaid : Prop := Claim7.holds Tryz.pinned (.plain (OpenSpec.upto putArmourSpec)) putArmourUptoCard
end Rows
end Go.Proofs.YtgkhnpldjdbmoaaGreatDoor
