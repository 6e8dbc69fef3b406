/- What the row says of the reach: functions in place, variables. -/
import Derived.Test.YtbooicchghnehaaGreatDoorNnV1
import Derived.Test.YtbooicchghnehaaGreatDoorN17
import Derived.Test.YtbooicchghnehaaGreatDoorN18
import Derived.Test.YtbooicchghnehaaGreatDoorCards
import Derived.Test.YtbooicchghnehaaGreatDoorTie
import Derived.WalkKit
import Derived.ProofKit
import Derived.OpenShut
import Derived.Lay
import Derived.Shelf.Vars
import Derived.Deep.DeepHandedRow
import Derived.Lib.LaidTab
import Derived.LaidSub
import Derived.SevenTiedAt
set_option maxRecDepth 1000000
namespace Go.Proofs.YtbooicchghnehaaGreatDoor
open Go Go.Vm Go.Proofs Go.ChangeShapes Go.RowKit
theorem f_inPlace : (Rows.nbdbNobodyRow.inPlace == Tryz.prog.inPlace 3) = true := by kernel_rfl
theorem f_named : (Rows.nbdbNobodyRow.named == Tryz.prog.varsNamed 3) = true := by kernel_rfl
end Go.Proofs.YtbooicchghnehaaGreatDoor
