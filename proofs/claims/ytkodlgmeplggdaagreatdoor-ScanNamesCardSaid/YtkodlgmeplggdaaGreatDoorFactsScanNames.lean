/- The closed facts of the row scanNames, one by one. -/
import Derived.Test.YtkodlgmeplggdaaGreatDoorEngRow
import Derived.Test.YtkodlgmeplggdaaGreatDoorJoined
import Derived.Test.YtkodlgmeplggdaaGreatDoorCards
set_option linter.unusedVariables false
namespace Go.Proofs.YtkodlgmeplggdaaGreatDoor.scanNames
open Go.ChangeShapes Go.WideShapes Go.ChangeAt Go.RowKit

theorem fact0 : (Rows.scanNamesRow.wf (OpenSpec.ofChange (OpenSpec.ofChange Rows.scanNamesSpec).bare)) = true := by kernel_rfl
theorem fact1 : (laidOutB Tryz.prog) = true := by kernel_rfl
theorem fact2 : (mapsRowed Tryz.prog) = true := by kernel_rfl
theorem fact3 : (Tryz.f5.params.all (Tryz.prog.readableRec ·)) = true := by kernel_rfl
theorem fact4 : (namedTie Tryz.prog Rows.scanNamesRow.named (OpenSpec.ofChange Rows.scanNamesSpec).bare.vars) = true := by kernel_rfl
theorem fact5 : ((Rows.scanNamesRow.stops == [])) = true := by kernel_rfl
theorem fact6 : ((Tryz.prog.stops == [])) = true := by kernel_rfl
theorem fact7 : ((Rows.scanNamesRow.knobs == [])) = true := by kernel_rfl
theorem fact8 : ((Tryz.prog.stopKnobs == [])) = true := by kernel_rfl
theorem fact9 : ((Rows.scanNamesRow.inPlace == Tryz.prog.inPlace 5)) = true := by kernel_rfl
theorem fact10 : ((Rows.scanNamesRow.unfollowed == Tryz.prog.unfollowed 5)) = true := by kernel_rfl
theorem fact11 : ((Rows.scanNamesRow.recurses == Tryz.prog.recurses 5)) = true := by kernel_rfl
theorem fact12 : ((Rows.scanNamesRow.named == Tryz.prog.varsNamed 5)) = true := by kernel_rfl
theorem fact13 : ((Rows.scanNamesRow.maps == (Tryz.f5.params.toList ++ (OpenSpec.ofChange Rows.scanNamesSpec).bare.plain.varTypes Tryz.prog).any (Tryz.prog.mapsRec ·))) = true := by kernel_rfl
theorem fact14 : ((Rows.scanNamesRow.ifaces == (Tryz.f5.params.toList ++ (OpenSpec.ofChange Rows.scanNamesSpec).bare.plain.varTypes Tryz.prog).any (Tryz.prog.ifacesRec ·))) = true := by kernel_rfl
theorem fact15 : ((Rows.scanNamesRow.mapsOut == Tryz.prog.mapsAmong Tryz.f5.resultTypes.toList)) = true := by kernel_rfl
theorem fact16 : ((Rows.scanNamesRow.loops == (Tryz.f5.params.toList ++ (OpenSpec.ofChange Rows.scanNamesSpec).bare.plain.varTypes Tryz.prog).any (Tryz.prog.loopsFrom ·))) = true := by kernel_rfl
theorem fact17 : ((Rows.scanNamesRow.wideKeys == (Tryz.f5.params.toList ++ (OpenSpec.ofChange Rows.scanNamesSpec).bare.plain.varTypes Tryz.prog ++ Tryz.f5.resultTypes.toList).any (Tryz.prog.wideKeysFrom ·))) = true := by kernel_rfl
theorem fact18 : ((OpenSpec.ofChange Rows.scanNamesSpec).bare.vars.all (Tryz.prog.varReadable ·)) = true := by kernel_rfl
theorem fact19 : (Tryz.f5.resultTypes.all (fun t => Tryz.prog.readableRec t && decide (t < Tryz.prog.types.size))) = true := by kernel_rfl
theorem fact20 : ((Rows.scanNamesRow.ifacesOut == Tryz.f5.resultTypes.toList.any (Tryz.prog.ifacesRec ·))) = true := by kernel_rfl
theorem fact21 : ((Rows.scanNamesRow.loopsOut == Tryz.f5.resultTypes.toList.any (Tryz.prog.loopsFrom ·))) = true := by kernel_rfl
theorem fact22 : ((Rows.scanNamesRow.plainKeys == Tryz.prog.plainKeys)) = true := by kernel_rfl
theorem fact23 : (Rows.scanNamesRow.shortTexts.isNone) = true := by kernel_rfl
theorem fact24 : (Tryz.prog.stopsHeard) = true := by kernel_rfl
theorem fact25 : (Tryz.prog.mayEnter) = true := by kernel_rfl
theorem fact26 : ((Rows.scanNamesRow.lifted == Tryz.prog.liftsFinal)) = true := by kernel_rfl
theorem fact27 : ((Tryz.prog.make == some Rows.scanNamesRow.make)) = true := by kernel_rfl
theorem fact28 : ((Rows.scanNamesRow.kinds == (if Rows.scanNamesRow.domain.isEmpty then [] else kindsOf Tryz.prog Tryz.f5))) = true := by kernel_rfl
theorem fact29 : ((Rows.scanNamesRow.pinned == Rows.scanNamesRow.pinnedBy)) = true := by kernel_rfl
theorem fact30 : ((Rows.scanNamesRow.veiled == (Tryz.f5.params.toList ++ (OpenSpec.ofChange Rows.scanNamesSpec).bare.plain.varTypes Tryz.prog ++ Tryz.f5.resultTypes.toList).any (Tryz.prog.veiledRec ·))) = true := by kernel_rfl
theorem fact31 : (Rows.scanNamesRow.veiledFits Tryz.prog Tryz.f5.params.toList (Tryz.f5.params.toList ++ (OpenSpec.ofChange Rows.scanNamesSpec).bare.plain.varTypes Tryz.prog ++ Tryz.f5.resultTypes.toList)) = true := by kernel_rfl
theorem facts : joinedFacts Tryz.prog 5 Tryz.f5 (OpenSpec.ofChange Rows.scanNamesSpec).bare Rows.scanNamesRow = true := @joined_of Tryz.prog 5 Tryz.f5 (OpenSpec.ofChange Rows.scanNamesSpec).bare Rows.scanNamesRow fact0 fact1 fact2 fact3 fact4 fact5 fact6 fact7 fact8 fact9 fact10 fact11 fact12 fact13 fact14 fact15 fact16 fact17 fact18 fact19 fact20 fact21 fact22 fact23 fact24 fact25 fact26 fact27 fact28 fact29 fact30 fact31
theorem wordedFact : Rows.scanNamesRow.wfByText (OpenSpec.ofChange Rows.scanNamesSpec) = true := by kernel_rfl
theorem goesFact : false = Rows.scanNamesRow.goesBy Tryz.pinned.checked.prog := by kernel_rfl
theorem mainFact : Tryz.pinned.checked.prog.mainIs = some (Rows.scanNamesCard.stood.harness.1, Rows.scanNamesCard.stood.harness.2.toList) := by kernel_rfl
theorem looksFact : true = Tryz.pinned.checked.prog.looks [] := by kernel_rfl
end Go.Proofs.YtkodlgmeplggdaaGreatDoor.scanNames
