/- The closed facts of the row putNames, one by one. -/
import Derived.Test.YtdpndhodhhhilaaGreatDoorEngRow
import Derived.Test.YtdpndhodhhhilaaGreatDoorJoined
import Derived.Test.YtdpndhodhhhilaaGreatDoorCards
set_option linter.unusedVariables false
namespace Go.Proofs.YtdpndhodhhhilaaGreatDoor.putNames
open Go.ChangeShapes Go.WideShapes Go.ChangeAt Go.RowKit

theorem fact0 : (Rows.putNamesRow.wf (OpenSpec.ofChange (OpenSpec.ofChange Rows.putNamesSpec).bare)) = true := by kernel_rfl
theorem fact1 : (laidOutB Tryz.prog) = true := by kernel_rfl
theorem fact2 : (mapsRowed Tryz.prog) = true := by kernel_rfl
theorem fact3 : (Tryz.f6.params.all (Tryz.prog.readableRec ·)) = true := by kernel_rfl
theorem fact4 : (namedTie Tryz.prog Rows.putNamesRow.named (OpenSpec.ofChange Rows.putNamesSpec).bare.vars) = true := by kernel_rfl
theorem fact5 : ((Rows.putNamesRow.stops == [])) = true := by kernel_rfl
theorem fact6 : ((Tryz.prog.stops == [])) = true := by kernel_rfl
theorem fact7 : ((Rows.putNamesRow.knobs == [])) = true := by kernel_rfl
theorem fact8 : ((Tryz.prog.stopKnobs == [])) = true := by kernel_rfl
theorem fact9 : ((Rows.putNamesRow.inPlace == Tryz.prog.inPlace 6)) = true := by kernel_rfl
theorem fact10 : ((Rows.putNamesRow.unfollowed == Tryz.prog.unfollowed 6)) = true := by kernel_rfl
theorem fact11 : ((Rows.putNamesRow.recurses == Tryz.prog.recurses 6)) = true := by kernel_rfl
theorem fact12 : ((Rows.putNamesRow.named == Tryz.prog.varsNamed 6)) = true := by kernel_rfl
theorem fact13 : ((Rows.putNamesRow.maps == (Tryz.f6.params.toList ++ (OpenSpec.ofChange Rows.putNamesSpec).bare.plain.varTypes Tryz.prog).any (Tryz.prog.mapsRec ·))) = true := by kernel_rfl
theorem fact14 : ((Rows.putNamesRow.ifaces == (Tryz.f6.params.toList ++ (OpenSpec.ofChange Rows.putNamesSpec).bare.plain.varTypes Tryz.prog).any (Tryz.prog.ifacesRec ·))) = true := by kernel_rfl
theorem fact15 : ((Rows.putNamesRow.mapsOut == Tryz.prog.mapsAmong Tryz.f6.resultTypes.toList)) = true := by kernel_rfl
theorem fact16 : ((Rows.putNamesRow.loops == (Tryz.f6.params.toList ++ (OpenSpec.ofChange Rows.putNamesSpec).bare.plain.varTypes Tryz.prog).any (Tryz.prog.loopsFrom ·))) = true := by kernel_rfl
theorem fact17 : ((Rows.putNamesRow.wideKeys == (Tryz.f6.params.toList ++ (OpenSpec.ofChange Rows.putNamesSpec).bare.plain.varTypes Tryz.prog ++ Tryz.f6.resultTypes.toList).any (Tryz.prog.wideKeysFrom ·))) = true := by kernel_rfl
theorem fact18 : ((OpenSpec.ofChange Rows.putNamesSpec).bare.vars.all (Tryz.prog.varReadable ·)) = true := by kernel_rfl
theorem fact19 : (Tryz.f6.resultTypes.all (fun t => Tryz.prog.readableRec t && decide (t < Tryz.prog.types.size))) = true := by kernel_rfl
theorem fact20 : ((Rows.putNamesRow.ifacesOut == Tryz.f6.resultTypes.toList.any (Tryz.prog.ifacesRec ·))) = true := by kernel_rfl
theorem fact21 : ((Rows.putNamesRow.loopsOut == Tryz.f6.resultTypes.toList.any (Tryz.prog.loopsFrom ·))) = true := by kernel_rfl
theorem fact22 : ((Rows.putNamesRow.plainKeys == Tryz.prog.plainKeys)) = true := by kernel_rfl
theorem fact23 : (Rows.putNamesRow.shortTexts.isNone) = true := by kernel_rfl
theorem fact24 : (Tryz.prog.stopsHeard) = true := by kernel_rfl
theorem fact25 : (Tryz.prog.mayEnter) = true := by kernel_rfl
theorem fact26 : ((Rows.putNamesRow.lifted == Tryz.prog.liftsFinal)) = true := by kernel_rfl
theorem fact27 : ((Tryz.prog.make == some Rows.putNamesRow.make)) = true := by kernel_rfl
theorem fact28 : ((Rows.putNamesRow.kinds == (if Rows.putNamesRow.domain.isEmpty then [] else kindsOf Tryz.prog Tryz.f6))) = true := by kernel_rfl
theorem fact29 : ((Rows.putNamesRow.pinned == Rows.putNamesRow.pinnedBy)) = true := by kernel_rfl
theorem fact30 : ((Rows.putNamesRow.veiled == (Tryz.f6.params.toList ++ (OpenSpec.ofChange Rows.putNamesSpec).bare.plain.varTypes Tryz.prog ++ Tryz.f6.resultTypes.toList).any (Tryz.prog.veiledRec ·))) = true := by kernel_rfl
theorem fact31 : (Rows.putNamesRow.veiledFits Tryz.prog Tryz.f6.params.toList (Tryz.f6.params.toList ++ (OpenSpec.ofChange Rows.putNamesSpec).bare.plain.varTypes Tryz.prog ++ Tryz.f6.resultTypes.toList)) = true := by kernel_rfl
theorem facts : joinedFacts Tryz.prog 6 Tryz.f6 (OpenSpec.ofChange Rows.putNamesSpec).bare Rows.putNamesRow = true := @joined_of Tryz.prog 6 Tryz.f6 (OpenSpec.ofChange Rows.putNamesSpec).bare Rows.putNamesRow fact0 fact1 fact2 fact3 fact4 fact5 fact6 fact7 fact8 fact9 fact10 fact11 fact12 fact13 fact14 fact15 fact16 fact17 fact18 fact19 fact20 fact21 fact22 fact23 fact24 fact25 fact26 fact27 fact28 fact29 fact30 fact31
theorem wordedFact : Rows.putNamesRow.wfByText (OpenSpec.ofChange Rows.putNamesSpec) = true := by kernel_rfl
theorem goesFact : false = Rows.putNamesRow.goesBy Tryz.pinned.checked.prog := by kernel_rfl
theorem mainFact : Tryz.pinned.checked.prog.mainIs = some (Rows.putNamesCard.stood.harness.1, Rows.putNamesCard.stood.harness.2.toList) := by kernel_rfl
theorem looksFact : false = Tryz.pinned.checked.prog.looks [] := by kernel_rfl
end Go.Proofs.YtdpndhodhhhilaaGreatDoor.putNames
