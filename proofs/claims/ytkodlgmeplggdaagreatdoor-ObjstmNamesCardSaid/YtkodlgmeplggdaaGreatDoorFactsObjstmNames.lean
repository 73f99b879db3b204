/- The closed facts of the row objstmNames, one by one. -/
import Derived.Test.YtkodlgmeplggdaaGreatDoorEngRow
import Derived.Test.YtkodlgmeplggdaaGreatDoorJoined
import Derived.Test.YtkodlgmeplggdaaGreatDoorCards
set_option linter.unusedVariables false
namespace Go.Proofs.YtkodlgmeplggdaaGreatDoor.objstmNames
open Go.ChangeShapes Go.WideShapes Go.ChangeAt Go.RowKit

theorem fact0 : (Rows.objstmNamesRow.wf (OpenSpec.ofChange (OpenSpec.ofChange Rows.objstmNamesSpec).bare)) = true := by kernel_rfl
theorem fact1 : (laidOutB Tryz.prog) = true := by kernel_rfl
theorem fact2 : (mapsRowed Tryz.prog) = true := by kernel_rfl
theorem fact3 : (Tryz.f3.params.all (Tryz.prog.readableRec ·)) = true := by kernel_rfl
theorem fact4 : (namedTie Tryz.prog Rows.objstmNamesRow.named (OpenSpec.ofChange Rows.objstmNamesSpec).bare.vars) = true := by kernel_rfl
theorem fact5 : ((Rows.objstmNamesRow.stops == [])) = true := by kernel_rfl
theorem fact6 : ((Tryz.prog.stops == [])) = true := by kernel_rfl
theorem fact7 : ((Rows.objstmNamesRow.knobs == [])) = true := by kernel_rfl
theorem fact8 : ((Tryz.prog.stopKnobs == [])) = true := by kernel_rfl
theorem fact9 : ((Rows.objstmNamesRow.inPlace == Tryz.prog.inPlace 3)) = true := by kernel_rfl
theorem fact10 : ((Rows.objstmNamesRow.unfollowed == Tryz.prog.unfollowed 3)) = true := by kernel_rfl
theorem fact11 : ((Rows.objstmNamesRow.recurses == Tryz.prog.recurses 3)) = true := by kernel_rfl
theorem fact12 : ((Rows.objstmNamesRow.named == Tryz.prog.varsNamed 3)) = true := by kernel_rfl
theorem fact13 : ((Rows.objstmNamesRow.maps == (Tryz.f3.params.toList ++ (OpenSpec.ofChange Rows.objstmNamesSpec).bare.plain.varTypes Tryz.prog).any (Tryz.prog.mapsRec ·))) = true := by kernel_rfl
theorem fact14 : ((Rows.objstmNamesRow.ifaces == (Tryz.f3.params.toList ++ (OpenSpec.ofChange Rows.objstmNamesSpec).bare.plain.varTypes Tryz.prog).any (Tryz.prog.ifacesRec ·))) = true := by kernel_rfl
theorem fact15 : ((Rows.objstmNamesRow.mapsOut == Tryz.prog.mapsAmong Tryz.f3.resultTypes.toList)) = true := by kernel_rfl
theorem fact16 : ((Rows.objstmNamesRow.loops == (Tryz.f3.params.toList ++ (OpenSpec.ofChange Rows.objstmNamesSpec).bare.plain.varTypes Tryz.prog).any (Tryz.prog.loopsFrom ·))) = true := by kernel_rfl
theorem fact17 : ((Rows.objstmNamesRow.wideKeys == (Tryz.f3.params.toList ++ (OpenSpec.ofChange Rows.objstmNamesSpec).bare.plain.varTypes Tryz.prog ++ Tryz.f3.resultTypes.toList).any (Tryz.prog.wideKeysFrom ·))) = true := by kernel_rfl
theorem fact18 : ((OpenSpec.ofChange Rows.objstmNamesSpec).bare.vars.all (Tryz.prog.varReadable ·)) = true := by kernel_rfl
theorem fact19 : (Tryz.f3.resultTypes.all (fun t => Tryz.prog.readableRec t && decide (t < Tryz.prog.types.size))) = true := by kernel_rfl
theorem fact20 : ((Rows.objstmNamesRow.ifacesOut == Tryz.f3.resultTypes.toList.any (Tryz.prog.ifacesRec ·))) = true := by kernel_rfl
theorem fact21 : ((Rows.objstmNamesRow.loopsOut == Tryz.f3.resultTypes.toList.any (Tryz.prog.loopsFrom ·))) = true := by kernel_rfl
theorem fact22 : ((Rows.objstmNamesRow.plainKeys == Tryz.prog.plainKeys)) = true := by kernel_rfl
theorem fact23 : (Rows.objstmNamesRow.shortTexts.isNone) = true := by kernel_rfl
theorem fact24 : (Tryz.prog.stopsHeard) = true := by kernel_rfl
theorem fact25 : (Tryz.prog.mayEnter) = true := by kernel_rfl
theorem fact26 : ((Rows.objstmNamesRow.lifted == Tryz.prog.liftsFinal)) = true := by kernel_rfl
theorem fact27 : ((Tryz.prog.make == some Rows.objstmNamesRow.make)) = true := by kernel_rfl
theorem fact28 : ((Rows.objstmNamesRow.kinds == (if Rows.objstmNamesRow.domain.isEmpty then [] else kindsOf Tryz.prog Tryz.f3))) = true := by kernel_rfl
theorem fact29 : ((Rows.objstmNamesRow.pinned == Rows.objstmNamesRow.pinnedBy)) = true := by kernel_rfl
theorem fact30 : ((Rows.objstmNamesRow.veiled == (Tryz.f3.params.toList ++ (OpenSpec.ofChange Rows.objstmNamesSpec).bare.plain.varTypes Tryz.prog ++ Tryz.f3.resultTypes.toList).any (Tryz.prog.veiledRec ·))) = true := by kernel_rfl
theorem fact31 : (Rows.objstmNamesRow.veiledFits Tryz.prog Tryz.f3.params.toList (Tryz.f3.params.toList ++ (OpenSpec.ofChange Rows.objstmNamesSpec).bare.plain.varTypes Tryz.prog ++ Tryz.f3.resultTypes.toList)) = true := by kernel_rfl
theorem facts : joinedFacts Tryz.prog 3 Tryz.f3 (OpenSpec.ofChange Rows.objstmNamesSpec).bare Rows.objstmNamesRow = true := @joined_of Tryz.prog 3 Tryz.f3 (OpenSpec.ofChange Rows.objstmNamesSpec).bare Rows.objstmNamesRow fact0 fact1 fact2 fact3 fact4 fact5 fact6 fact7 fact8 fact9 fact10 fact11 fact12 fact13 fact14 fact15 fact16 fact17 fact18 fact19 fact20 fact21 fact22 fact23 fact24 fact25 fact26 fact27 fact28 fact29 fact30 fact31
theorem wordedFact : Rows.objstmNamesRow.wfByText (OpenSpec.ofChange Rows.objstmNamesSpec) = true := by kernel_rfl
theorem goesFact : false = Rows.objstmNamesRow.goesBy Tryz.pinned.checked.prog := by kernel_rfl
theorem mainFact : Tryz.pinned.checked.prog.mainIs = some (Rows.objstmNamesCard.stood.harness.1, Rows.objstmNamesCard.stood.harness.2.toList) := by kernel_rfl
theorem looksFact : true = Tryz.pinned.checked.prog.looks [] := by kernel_rfl
end Go.Proofs.YtkodlgmeplggdaaGreatDoor.objstmNames
