/- The laws, as the program walks them. -/
import Derived.Test.YtklcmgodhpediaaGreatDoorExF1
import Derived.Test.YtklcmgodhpediaaGreatDoorExL1
set_option linter.unusedSimpArgs false
set_option linter.unusedVariables false
set_option maxRecDepth 100000
namespace Go.Proofs.YtklcmgodhpediaaGreatDoor
open Go Go.Vm Go.Proofs

theorem bbE : ∀ b : Bool, (b == b) = true := fun b => by cases b <;> rfl
section
variable (Hh : Int → Bool) (R : Int → Int)
end
theorem chk_of {e : E} (h : okE 1 e = true) : chk e = 0 := by unfold chk; rw [h]; rfl
theorem chk_no {e : E} (h : okE 1 e = false) : chk e = 150 := by unfold chk; rw [h]; rfl
end Go.Proofs.YtklcmgodhpediaaGreatDoor
