/- The seat's program, for the evaluator. -/
import Derived.Test.YtfjhanjpacghkaaN20
import Derived.Test.YtfjhanjpacghkaaProg
import Derived.Lib.Join
set_option linter.unusedSimpArgs false
set_option linter.unusedVariables false
namespace Go.Proofs.Ytfjhanjpacghkaa
open Go Go.Vm Go.Proofs

/-- Texts. -/
def textsOf : List V → Option (List (List UInt8))
  | [] => some []
  | .str s :: r => (textsOf r).map (s :: ·)
  | _ => none

/-- strings.Join. -/
def libs : FuncId → List V → St → Option (V × St)
  | 25, [.sl _ xs, .str sep], st => (textsOf xs).bind fun l => if (Lib.join l sep).length ≤ 1048576 ∧ xs.length ≤ 1048576 then some (.str (Lib.join l sep), st) else none
  | _, _, _ => none

noncomputable def cx : Cfg := { P := Try.prog, glob := fun _ => .any, X := libs, keep := fun _ => false, frz := fun k => k == 23, grow := fun k => k == 21, pure := fun k => !(k == 21 || k == 24), eqs := [25, 36] }

theorem tyE : cx.P = Try.prog ∧
    (Try.prog.underlying 3 = some (.int .i64) ∧ Try.prog.underlying 4 = some .bool ∧ Try.prog.underlying 5 = some (.int .u8) ∧ Try.prog.underlying 9 = some .string ∧ Try.prog.underlying 22 = some (.slice 5) ∧ Try.prog.underlying 23 = some (.int .u64) ∧ Try.prog.underlying 26 = some (.int .i64) ∧ Try.prog.underlying 34 = some (.int .u32)) ∧
    (szOf cx 3 = some 1 ∧ szOf cx 4 = some 1 ∧ szOf cx 5 = some 1 ∧ szOf cx 9 = some 1 ∧ szOf cx 22 = some 1 ∧ szOf cx 23 = some 1 ∧ szOf cx 25 = some 5 ∧ szOf cx 26 = some 1 ∧ szOf cx 34 = some 1 ∧ szOf cx 36 = some 5) ∧
    (zeroV cx 25 = some (.agg [.int .u64 0, .int .u64 0, .bool false, .int .i64 0, .int .i64 0]) ∧ zeroV cx 36 = some (.agg [.int .i64 0, .int .u64 0, .int .u32 0, .int .u64 0, .int .u32 0])) := by
  refine ⟨rfl, ⟨Try.underlying3, Try.underlying4, Try.underlying5, Try.underlying9, Try.underlying22, Try.underlying23, Try.underlying26, Try.underlying34⟩, ⟨?_, ?_, ?_, ?_, ?_, ?_, ?_, ?_, ?_, ?_⟩, ?_, ?_⟩
  all_goals first | decide +kernel | rfl
end Go.Proofs.Ytfjhanjpacghkaa
