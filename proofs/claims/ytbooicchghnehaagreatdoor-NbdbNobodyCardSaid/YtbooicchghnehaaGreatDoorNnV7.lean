/- The law, by the evaluator. -/
import Derived.Test.YtbooicchghnehaaGreatDoorNnV6
set_option linter.unusedSimpArgs false
set_option linter.unusedVariables false
set_option maxRecDepth 1000000
namespace Go.Proofs.YtbooicchghnehaaGreatDoor
open Go Go.Vm Go.Proofs

theorem law_run (l kd nm : V) : (callF cz 60 3 [l, kd, nm] ⟨[], 0⟩).map (·.1) = some (.bool true) := by kernel_rfl
end Go.Proofs.YtbooicchghnehaaGreatDoor
