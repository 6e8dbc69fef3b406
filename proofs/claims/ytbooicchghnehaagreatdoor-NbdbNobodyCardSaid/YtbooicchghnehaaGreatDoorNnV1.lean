/- The seat's program, for the evaluator. -/
import Derived.Test.YtbooicchghnehaaGreatDoorN34
import Derived.Test.YtbooicchghnehaaGreatDoorProg
set_option linter.unusedSimpArgs false
set_option linter.unusedVariables false
set_option maxRecDepth 100000
namespace Go.Proofs.YtbooicchghnehaaGreatDoor
open Go Go.Vm Go.Proofs

/-- The configuration in which rows are collected. -/
noncomputable def cn : Cfg := { P := Tryz.prog, glob := fun _ => .any, X := fun _ _ _ => none, keep := fun k => k == 39 || k == 10, frz := fun _ => false, grow := fun _ => false, pure := fun _ => false, eqs := [] }
theorem cn_ok : COk cn := ⟨fun t ht => (by cases ht), by decide +kernel, by decide +kernel, fun _ _ _ _ => trivial⟩
theorem cn_glob : GlobPure cn := fun _ => rfl
theorem cn_x : XOk cn := XOk.none fun _ _ _ => rfl
end Go.Proofs.YtbooicchghnehaaGreatDoor
