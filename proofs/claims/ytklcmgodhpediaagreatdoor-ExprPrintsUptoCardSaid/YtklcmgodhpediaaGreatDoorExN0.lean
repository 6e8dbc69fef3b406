/- The field reg1. -/
import Derived.Test.YtklcmgodhpediaaGreatDoorExC1
set_option maxRecDepth 100000
namespace Go.Proofs.YtklcmgodhpediaaGreatDoor
open Go Go.Vm Go.Proofs
end Go.Proofs.YtklcmgodhpediaaGreatDoor
