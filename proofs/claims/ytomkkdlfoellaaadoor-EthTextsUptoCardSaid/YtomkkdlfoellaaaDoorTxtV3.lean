/- The seat's types. -/
import Derived.Test.YtomkkdlfoellaaaDoorTxtV1
import Derived.Test.YtomkkdlfoellaaaDoorVm25
set_option linter.unusedSimpArgs false
set_option linter.unusedVariables false
set_option maxRecDepth 100000
namespace Go.Proofs.YtomkkdlfoellaaaDoor
open Go Go.Vm Go.Proofs

theorem tyE : cx.P = Tryd.prog ∧
    (Tryd.prog.underlying 3 = some (.int .i64) ∧ Tryd.prog.underlying 4 = some .bool ∧ Tryd.prog.underlying 5 = some (.int .u8) ∧ Tryd.prog.underlying 9 = some .string ∧ Tryd.prog.underlying 22 = some (.int .u64) ∧ Tryd.prog.underlying 23 = some (.int .u32) ∧ Tryd.prog.underlying 39 = some (.int .u64) ∧ Tryd.prog.underlying 42 = some (.int .i64) ∧ Tryd.prog.underlying 61 = some (.int .i64) ∧ Tryd.prog.underlying 33 = some (.slice 9) ∧ Tryd.prog.underlying 45 = some (.slice 5)) ∧
    (szOf cx 3 = some 1 ∧ szOf cx 4 = some 1 ∧ szOf cx 5 = some 1 ∧ szOf cx 9 = some 1 ∧ szOf cx 22 = some 1 ∧ szOf cx 23 = some 1 ∧ szOf cx 33 = some 1 ∧ szOf cx 36 = some 1 ∧ szOf cx 42 = some 1 ∧ szOf cx 45 = some 1) := by
  refine ⟨rfl, ⟨Tryd.underlying3, Tryd.underlying4, Tryd.underlying5, Tryd.underlying9, Tryd.underlying22, Tryd.underlying23, Tryd.underlying39, Tryd.underlying42, Tryd.underlying61, Tryd.underlying33, Tryd.underlying45⟩, ?_⟩
  refine ⟨?_, ?_, ?_, ?_, ?_, ?_, ?_, ?_, ?_, ?_⟩ <;> decide +kernel
theorem tyX : cx.P = Tryd.prog := rfl
theorem bdE : cx.P = Tryd.prog := rfl
theorem cvE : (∀ H n, convV cx H 3 22 (.int .i64 n) = some (.int .u64 (IntKind.u64.wrap n))) ∧
    (∀ H n, convV cx H 23 22 (.int .u32 n) = some (.int .u64 (IntKind.u64.wrap n))) ∧
    (∀ H n, convV cx H 5 22 (.int .u8 n) = some (.int .u64 (IntKind.u64.wrap n))) ∧
    (∀ H n, convV cx H 3 5 (.int .i64 n) = some (.int .u8 (IntKind.u8.wrap n))) ∧
    (∀ H n, convV cx H 3 39 (.int .i64 n) = some (.int .u64 (IntKind.u64.wrap n))) ∧
    (∀ H n, convV cx H 22 23 (.int .u64 n) = some (.int .u32 (IntKind.u32.wrap n))) ∧
    (∀ H n, convV cx H 3 23 (.int .i64 n) = some (.int .u32 (IntKind.u32.wrap n))) ∧
    (∀ H n, convV cx H 23 3 (.int .u32 n) = some (.int .i64 (IntKind.i64.wrap n))) ∧
    (∀ H n, convV cx H 22 5 (.int .u64 n) = some (.int .u8 (IntKind.u8.wrap n))) := by
  refine ⟨?_, ?_, ?_, ?_, ?_, ?_, ?_, ?_, ?_⟩ <;> intros <;> simp only [convV, tyE]
end Go.Proofs.YtomkkdlfoellaaaDoor
