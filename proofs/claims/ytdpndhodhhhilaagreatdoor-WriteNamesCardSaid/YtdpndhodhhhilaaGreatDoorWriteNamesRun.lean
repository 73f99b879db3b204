/- The chapter's examples, run by the machine. -/
import Derived.Test.YtdpndhodhhhilaaGreatDoorEngHc
set_option linter.unusedVariables false
namespace Go.Proofs.YtdpndhodhhhilaaGreatDoor
set_option maxRecDepth 10000000 in
theorem writeNames_runs : yesA (evalF cf0 .nil 100000 11 []) = true := by kernel_rfl
end Go.Proofs.YtdpndhodhhhilaaGreatDoor
