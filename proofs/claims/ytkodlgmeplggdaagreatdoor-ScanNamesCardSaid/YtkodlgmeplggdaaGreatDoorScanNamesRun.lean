/- The chapter's examples, run by the machine. -/
import Derived.Test.YtkodlgmeplggdaaGreatDoorEngHs
set_option linter.unusedVariables false
namespace Go.Proofs.YtkodlgmeplggdaaGreatDoor
open Go.RowKit
set_option maxRecDepth 10000000 in
theorem scanNames_runs : isA (evalF cf1 G0 100000 5 []) (.bool true) = true := by kernel_rfl
theorem scanNames_known : ∀ W, Ev W → Calls Tryz.prog 5 #[] W fun e W' => e = .returned (.bool true) ∧ Below W.heap.size W W' :=
  calls_of_eval (cf := cf1) sound1 rep0 (by kernel_rfl) scanNames_runs (vs := []) rfl rfl
end Go.Proofs.YtkodlgmeplggdaaGreatDoor
