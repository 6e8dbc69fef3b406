/- The law, by the evaluator. -/
import Derived.Test.YtgffpmhpmkmkeaaGreatDoorDnV1
set_option linter.unusedSimpArgs false
set_option linter.unusedVariables false
set_option maxRecDepth 1000000
namespace Go.Proofs.YtgffpmhpmkmkeaaGreatDoor
open Go Go.Vm Go.Proofs

theorem law_run (l tb : V) (f : Nat → V) : ((callF cy 400 3 [l, .agg ((List.range 49).map f), tb] ⟨[], 0⟩).map (·.1)) = some (.bool true) := by kernel_rfl
end Go.Proofs.YtgffpmhpmkmkeaaGreatDoor
