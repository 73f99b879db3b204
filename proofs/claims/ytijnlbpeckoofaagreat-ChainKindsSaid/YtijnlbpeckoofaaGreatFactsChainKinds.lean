/- The closed facts of the row chainKinds, one by one. -/
import Derived.Test.YtijnlbpeckoofaaGreatEngRow
import Derived.Test.YtijnlbpeckoofaaGreatJoined
set_option linter.unusedVariables false
namespace Go.Proofs.YtijnlbpeckoofaaGreat.chainKinds
open Go.ChangeShapes Go.WideShapes Go.ChangeAt Go.RowKit

theorem fact0 : (Rows.chainKindsRow.wf (OpenSpec.ofChange (OpenSpec.ofChange Rows.chainKindsSpec).bare)) = true := by kernel_rfl
theorem fact1 : (laidOutB Tryz.prog) = true := by kernel_rfl
theorem fact2 : (mapsRowed Tryz.prog) = true := by kernel_rfl
theorem fact3 : (Tryz.f3.params.all (Tryz.prog.readableRec ·)) = true := by kernel_rfl
theorem fact4 : (namedTie Tryz.prog Rows.chainKindsRow.named (OpenSpec.ofChange Rows.chainKindsSpec).bare.vars) = true := by kernel_rfl
theorem fact5 : ((Rows.chainKindsRow.stops == [])) = true := by kernel_rfl
theorem fact6 : ((Tryz.prog.stops == [])) = true := by kernel_rfl
theorem fact7 : ((Rows.chainKindsRow.knobs == [])) = true := by kernel_rfl
theorem fact8 : ((Tryz.prog.stopKnobs == [])) = true := by kernel_rfl
theorem fact9 : ((Rows.chainKindsRow.inPlace == Tryz.prog.inPlace 3)) = true := by kernel_rfl
theorem fact10 : ((Rows.chainKindsRow.unfollowed == Tryz.prog.unfollowed 3)) = true := by kernel_rfl
theorem fact11 : ((Rows.chainKindsRow.recurses == Tryz.prog.recurses 3)) = true := by kernel_rfl
theorem fact12 : ((Rows.chainKindsRow.named == Tryz.prog.varsNamed 3)) = true := by kernel_rfl
theorem fact13 : ((Rows.chainKindsRow.maps == (Tryz.f3.params.toList ++ (OpenSpec.ofChange Rows.chainKindsSpec).bare.plain.varTypes Tryz.prog).any (Tryz.prog.mapsRec ·))) = true := by kernel_rfl
theorem fact14 : ((Rows.chainKindsRow.ifaces == (Tryz.f3.params.toList ++ (OpenSpec.ofChange Rows.chainKindsSpec).bare.plain.varTypes Tryz.prog).any (Tryz.prog.ifacesRec ·))) = true := by kernel_rfl
theorem fact15 : ((Rows.chainKindsRow.mapsOut == Tryz.prog.mapsAmong Tryz.f3.resultTypes.toList)) = true := by kernel_rfl
theorem fact16 : ((Rows.chainKindsRow.loops == (Tryz.f3.params.toList ++ (OpenSpec.ofChange Rows.chainKindsSpec).bare.plain.varTypes Tryz.prog).any (Tryz.prog.loopsFrom ·))) = true := by kernel_rfl
theorem fact17 : ((Rows.chainKindsRow.wideKeys == (Tryz.f3.params.toList ++ (OpenSpec.ofChange Rows.chainKindsSpec).bare.plain.varTypes Tryz.prog ++ Tryz.f3.resultTypes.toList).any (Tryz.prog.wideKeysFrom ·))) = true := by kernel_rfl
theorem fact18 : ((OpenSpec.ofChange Rows.chainKindsSpec).bare.vars.all (Tryz.prog.varReadable ·)) = true := by kernel_rfl
theorem fact19 : (Tryz.f3.resultTypes.all (fun t => Tryz.prog.readableRec t && decide (t < Tryz.prog.types.size))) = true := by kernel_rfl
theorem fact20 : ((Rows.chainKindsRow.ifacesOut == Tryz.f3.resultTypes.toList.any (Tryz.prog.ifacesRec ·))) = true := by kernel_rfl
theorem fact21 : ((Rows.chainKindsRow.loopsOut == Tryz.f3.resultTypes.toList.any (Tryz.prog.loopsFrom ·))) = true := by kernel_rfl
theorem fact22 : ((Rows.chainKindsRow.plainKeys == Tryz.prog.plainKeys)) = true := by kernel_rfl
theorem fact23 : (Rows.chainKindsRow.shortTexts.isNone) = true := by kernel_rfl
theorem fact24 : (Tryz.prog.stopsHeard) = true := by kernel_rfl
theorem fact25 : (Tryz.prog.mayEnter) = true := by kernel_rfl
theorem fact26 : ((Rows.chainKindsRow.lifted == Tryz.prog.liftsFinal)) = true := by kernel_rfl
theorem fact27 : ((Tryz.prog.make == some Rows.chainKindsRow.make)) = true := by kernel_rfl
theorem fact28 : ((Rows.chainKindsRow.kinds == (if Rows.chainKindsRow.domain.isEmpty then [] else kindsOf Tryz.prog Tryz.f3))) = true := by kernel_rfl
theorem fact29 : ((Rows.chainKindsRow.pinned == Rows.chainKindsRow.pinnedBy)) = true := by kernel_rfl
theorem fact30 : ((Rows.chainKindsRow.veiled == (Tryz.f3.params.toList ++ (OpenSpec.ofChange Rows.chainKindsSpec).bare.plain.varTypes Tryz.prog ++ Tryz.f3.resultTypes.toList).any (Tryz.prog.veiledRec ·))) = true := by kernel_rfl
theorem fact31 : (Rows.chainKindsRow.veiledFits Tryz.prog Tryz.f3.params.toList (Tryz.f3.params.toList ++ (OpenSpec.ofChange Rows.chainKindsSpec).bare.plain.varTypes Tryz.prog ++ Tryz.f3.resultTypes.toList)) = true := by kernel_rfl
theorem facts : joinedFacts Tryz.prog 3 Tryz.f3 (OpenSpec.ofChange Rows.chainKindsSpec).bare Rows.chainKindsRow = true := @joined_of Tryz.prog 3 Tryz.f3 (OpenSpec.ofChange Rows.chainKindsSpec).bare Rows.chainKindsRow fact0 fact1 fact2 fact3 fact4 fact5 fact6 fact7 fact8 fact9 fact10 fact11 fact12 fact13 fact14 fact15 fact16 fact17 fact18 fact19 fact20 fact21 fact22 fact23 fact24 fact25 fact26 fact27 fact28 fact29 fact30 fact31
end Go.Proofs.YtijnlbpeckoofaaGreat.chainKinds
