/- The chapter's examples, run by the machine. -/
import Derived.Test.YtkodlgmeplggdaaGreatDoorEngHc
set_option linter.unusedVariables false
namespace Go.Proofs.YtkodlgmeplggdaaGreatDoor
open Go.RowKit
set_option maxRecDepth 10000000 in
theorem objstmNames_runs : isA (evalF cf0 G0 100000 3 []) (.bool true) = true := by kernel_rfl
theorem objstmNames_known : ∀ W, Ev W → Calls Tryz.prog 3 #[] W fun e W' => e = .returned (.bool true) ∧ Below W.heap.size W W' :=
  calls_of_eval (cf := cf0) sound0 rep0 (by kernel_rfl) objstmNames_runs (vs := []) rfl rfl
end Go.Proofs.YtkodlgmeplggdaaGreatDoor
