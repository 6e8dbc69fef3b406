/- What must come of every program, by the evaluator. -/
import Derived.Test.YtbgalenfbmaceaaGreatDoorDeV1
set_option linter.unusedSimpArgs false
set_option linter.unusedVariables false
set_option maxRecDepth 1000000
namespace Go.Proofs.YtbgalenfbmaceaaGreatDoor
open Go Go.Vm Go.Proofs

theorem lives_run : ((callF cy 400 4 [] ⟨[], 0⟩).map (·.1)) = some (.bool true) := by kernel_rfl
end Go.Proofs.YtbgalenfbmaceaaGreatDoor
