/- What must come of every program. -/
import Derived.Test.YtklcmgodhpediaaGreatDoorExL1
import Derived.Test.YtklcmgodhpediaaGreatDoorN26
set_option linter.unusedSimpArgs false
set_option linter.unusedVariables false
set_option maxRecDepth 100000
namespace Go.Proofs.YtklcmgodhpediaaGreatDoor
open Go Go.Vm Go.Proofs

theorem livesG (st : St) : callG cl 400 8 [] st = some (.bool true, st) := by kernel_rfl
theorem livesS (st : St) : FnS cx 8 [] st (.bool true) st := ⟨(Fn.ofG (livesG st) ⟨rfl, rfl⟩).tr cl_ok cl_glob cl_x rfl rfl rfl rfl⟩
end Go.Proofs.YtklcmgodhpediaaGreatDoor
