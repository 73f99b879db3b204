/- The closed facts of the row writeNames, one by one. -/
import Derived.Test.YtdpndhodhhhilaaGreatDoorEngRow
import Derived.Test.YtdpndhodhhhilaaGreatDoorJoined
import Derived.Test.YtdpndhodhhhilaaGreatDoorCards
set_option linter.unusedVariables false
namespace Go.Proofs.YtdpndhodhhhilaaGreatDoor.writeNames
open Go.ChangeShapes Go.WideShapes Go.ChangeAt Go.RowKit

theorem fact0 : (Rows.writeNamesRow.wf (OpenSpec.ofChange (OpenSpec.ofChange Rows.writeNamesSpec).bare)) = true := by kernel_rfl
theorem fact1 : (laidOutB Tryz.prog) = true := by kernel_rfl
theorem fact2 : (mapsRowed Tryz.prog) = true := by kernel_rfl
theorem fact3 : (Tryz.f11.params.all (Tryz.prog.readableRec ·)) = true := by kernel_rfl
theorem fact4 : (namedTie Tryz.prog Rows.writeNamesRow.named (OpenSpec.ofChange Rows.writeNamesSpec).bare.vars) = true := by kernel_rfl
theorem fact5 : ((Rows.writeNamesRow.stops == [])) = true := by kernel_rfl
theorem fact6 : ((Tryz.prog.stops == [])) = true := by kernel_rfl
theorem fact7 : ((Rows.writeNamesRow.knobs == [])) = true := by kernel_rfl
theorem fact8 : ((Tryz.prog.stopKnobs == [])) = true := by kernel_rfl
theorem fact9 : ((Rows.writeNamesRow.inPlace == Tryz.prog.inPlace 11)) = true := by kernel_rfl
theorem fact10 : ((Rows.writeNamesRow.unfollowed == Tryz.prog.unfollowed 11)) = true := by kernel_rfl
theorem fact11 : ((Rows.writeNamesRow.recurses == Tryz.prog.recurses 11)) = true := by kernel_rfl
theorem fact12 : ((Rows.writeNamesRow.named == Tryz.prog.varsNamed 11)) = true := by kernel_rfl
theorem fact13 : ((Rows.writeNamesRow.maps == (Tryz.f11.params.toList ++ (OpenSpec.ofChange Rows.writeNamesSpec).bare.plain.varTypes Tryz.prog).any (Tryz.prog.mapsRec ·))) = true := by kernel_rfl
theorem fact14 : ((Rows.writeNamesRow.ifaces == (Tryz.f11.params.toList ++ (OpenSpec.ofChange Rows.writeNamesSpec).bare.plain.varTypes Tryz.prog).any (Tryz.prog.ifacesRec ·))) = true := by kernel_rfl
theorem fact15 : ((Rows.writeNamesRow.mapsOut == Tryz.prog.mapsAmong Tryz.f11.resultTypes.toList)) = true := by kernel_rfl
theorem fact16 : ((Rows.writeNamesRow.loops == (Tryz.f11.params.toList ++ (OpenSpec.ofChange Rows.writeNamesSpec).bare.plain.varTypes Tryz.prog).any (Tryz.prog.loopsFrom ·))) = true := by kernel_rfl
theorem fact17 : ((Rows.writeNamesRow.wideKeys == (Tryz.f11.params.toList ++ (OpenSpec.ofChange Rows.writeNamesSpec).bare.plain.varTypes Tryz.prog ++ Tryz.f11.resultTypes.toList).any (Tryz.prog.wideKeysFrom ·))) = true := by kernel_rfl
theorem fact18 : ((OpenSpec.ofChange Rows.writeNamesSpec).bare.vars.all (Tryz.prog.varReadable ·)) = true := by kernel_rfl
theorem fact19 : (Tryz.f11.resultTypes.all (fun t => Tryz.prog.readableRec t && decide (t < Tryz.prog.types.size))) = true := by kernel_rfl
theorem fact20 : ((Rows.writeNamesRow.ifacesOut == Tryz.f11.resultTypes.toList.any (Tryz.prog.ifacesRec ·))) = true := by kernel_rfl
theorem fact21 : ((Rows.writeNamesRow.loopsOut == Tryz.f11.resultTypes.toList.any (Tryz.prog.loopsFrom ·))) = true := by kernel_rfl
theorem fact22 : ((Rows.writeNamesRow.plainKeys == Tryz.prog.plainKeys)) = true := by kernel_rfl
theorem fact23 : (Rows.writeNamesRow.shortTexts.isNone) = true := by kernel_rfl
theorem fact24 : (Tryz.prog.stopsHeard) = true := by kernel_rfl
theorem fact25 : (Tryz.prog.mayEnter) = true := by kernel_rfl
theorem fact26 : ((Rows.writeNamesRow.lifted == Tryz.prog.liftsFinal)) = true := by kernel_rfl
theorem fact27 : ((Tryz.prog.make == some Rows.writeNamesRow.make)) = true := by kernel_rfl
theorem fact28 : ((Rows.writeNamesRow.kinds == (if Rows.writeNamesRow.domain.isEmpty then [] else kindsOf Tryz.prog Tryz.f11))) = true := by kernel_rfl
theorem fact29 : ((Rows.writeNamesRow.pinned == Rows.writeNamesRow.pinnedBy)) = true := by kernel_rfl
theorem fact30 : ((Rows.writeNamesRow.veiled == (Tryz.f11.params.toList ++ (OpenSpec.ofChange Rows.writeNamesSpec).bare.plain.varTypes Tryz.prog ++ Tryz.f11.resultTypes.toList).any (Tryz.prog.veiledRec ·))) = true := by kernel_rfl
theorem fact31 : (Rows.writeNamesRow.veiledFits Tryz.prog Tryz.f11.params.toList (Tryz.f11.params.toList ++ (OpenSpec.ofChange Rows.writeNamesSpec).bare.plain.varTypes Tryz.prog ++ Tryz.f11.resultTypes.toList)) = true := by kernel_rfl
theorem facts : joinedFacts Tryz.prog 11 Tryz.f11 (OpenSpec.ofChange Rows.writeNamesSpec).bare Rows.writeNamesRow = true := @joined_of Tryz.prog 11 Tryz.f11 (OpenSpec.ofChange Rows.writeNamesSpec).bare Rows.writeNamesRow fact0 fact1 fact2 fact3 fact4 fact5 fact6 fact7 fact8 fact9 fact10 fact11 fact12 fact13 fact14 fact15 fact16 fact17 fact18 fact19 fact20 fact21 fact22 fact23 fact24 fact25 fact26 fact27 fact28 fact29 fact30 fact31
theorem wordedFact : Rows.writeNamesRow.wfByText (OpenSpec.ofChange Rows.writeNamesSpec) = true := by kernel_rfl
theorem goesFact : false = Rows.writeNamesRow.goesBy Tryz.pinned.checked.prog := by kernel_rfl
theorem mainFact : Tryz.pinned.checked.prog.mainIs = some (Rows.writeNamesCard.stood.harness.1, Rows.writeNamesCard.stood.harness.2.toList) := by kernel_rfl
theorem looksFact : false = Tryz.pinned.checked.prog.looks [] := by kernel_rfl
end Go.Proofs.YtdpndhodhhhilaaGreatDoor.writeNames
