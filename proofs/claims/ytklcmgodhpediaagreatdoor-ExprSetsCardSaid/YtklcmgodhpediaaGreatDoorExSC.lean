/- The laws, as the program walks them. -/
import Derived.Test.YtklcmgodhpediaaGreatDoorExF1
import Derived.Test.YtklcmgodhpediaaGreatDoorExL1
set_option linter.unusedSimpArgs false
set_option linter.unusedVariables false
set_option maxRecDepth 100000
namespace Go.Proofs.YtklcmgodhpediaaGreatDoor
open Go Go.Vm Go.Proofs

theorem bbE : ∀ b : Bool, (b == b) = true := fun b => by cases b <;> rfl
theorem node_not : nodeP 4 0 0 0 0 1 := by unfold nodeP; omega
section
variable (Hh : Int → Bool) (R : Int → Int)
theorem hold_is {e : E} (h : okE 1 e = true) : holdsX Hh R e = holdsR Hh R e false := by
  unfold holdsX
  rw [h, holds_eq Hh R e 1 false h]
  rfl
end
end Go.Proofs.YtklcmgodhpediaaGreatDoor
