/- Whether an expression may be: the document. -/
import Derived.Test.YtklcmgodhpediaaGreatDoorExS1
set_option linter.unusedSimpArgs false
set_option linter.unusedVariables false
set_option maxRecDepth 100000
namespace Go.Proofs.YtklcmgodhpediaaGreatDoor
open Go Go.Vm Go.Proofs

theorem okE_ok {d k f o v m : Int} {z : Bool} {ps : List E} (hd : d ≤ 64) (hn : nodeP k f o v m ps.length) : okE d (.mk k f o v m z ps) = okEs (d + 1) ps := by
  rw [okE, decide_eq_true hd, decide_eq_true hn, Bool.true_and, Bool.and_true]
end Go.Proofs.YtklcmgodhpediaaGreatDoor
