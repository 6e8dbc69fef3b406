/- The seat's types. -/
import Derived.Test.YtmdiieignlidhaaDoorLexV1
import Derived.Test.YtmdiieignlidhaaDoorVm25
set_option linter.unusedSimpArgs false
set_option linter.unusedVariables false
set_option maxRecDepth 100000
namespace Go.Proofs.YtmdiieignlidhaaDoor
open Go Go.Vm Go.Proofs

theorem tyE : cx.P = Tryd.prog ∧
    (Tryd.prog.underlying 3 = some (.int .i64) ∧ Tryd.prog.underlying 4 = some .bool ∧ Tryd.prog.underlying 5 = some (.int .u8) ∧ Tryd.prog.underlying 9 = some .string ∧ Tryd.prog.underlying 22 = some (.slice 30) ∧ Tryd.prog.underlying 23 = some (.int .i64) ∧ Tryd.prog.underlying 28 = some (.int .u64) ∧ Tryd.prog.underlying 33 = some (.int .u32) ∧
      Tryd.prog.underlying 45 = some (.slice 9) ∧ Tryd.prog.underlying 59 = some (.slice 5) ∧ Tryd.prog.underlying 76 = some (.int .i64) ∧ Tryd.prog.underlying 68 = some (.int .u64)) ∧
    (szOf cx 3 = some 1 ∧ szOf cx 4 = some 1 ∧ szOf cx 5 = some 1 ∧ szOf cx 9 = some 1 ∧ szOf cx 22 = some 1 ∧ szOf cx 23 = some 1 ∧ szOf cx 28 = some 1 ∧ szOf cx 30 = some 4 ∧ szOf cx 33 = some 1 ∧ szOf cx 40 = some 3 ∧ szOf cx 45 = some 1 ∧ szOf cx 54 = some 1 ∧ szOf cx 59 = some 1) := by
  refine ⟨rfl, ⟨Tryd.underlying3, Tryd.underlying4, Tryd.underlying5, Tryd.underlying9, Tryd.underlying22, Tryd.underlying23, Tryd.underlying28, Tryd.underlying33, Tryd.underlying45, Tryd.underlying59, Tryd.underlying76, Tryd.underlying68⟩, ?_⟩
  refine ⟨?_, ?_, ?_, ?_, ?_, ?_, ?_, ?_, ?_, ?_, ?_, ?_, ?_⟩ <;> decide +kernel

theorem tyX : (Tryd.prog.underlying 30 = some (TypeDesc.struct #[{ name := "Kind", type := 3, offset := 0, embedded := false, tag := "", pkgPath := "", byteOffset := 0 }, { name := "Text", type := 9, offset := 1, embedded := false, tag := "", pkgPath := "", byteOffset := 8 }, { name := "Num", type := 28, offset := 2, embedded := false, tag := "", pkgPath := "", byteOffset := 24 }, { name := "At", type := 3, offset := 3, embedded := false, tag := "", pkgPath := "", byteOffset := 32 }])) ∧ (Tryd.prog.underlying 40 = some (TypeDesc.struct #[{ name := "s", type := 9, offset := 0, embedded := false, tag := "", pkgPath := "skein/lex", byteOffset := 0 }, { name := "at", type := 3, offset := 1, embedded := false, tag := "", pkgPath := "skein/lex", byteOffset := 16 }, { name := "out", type := 22, offset := 2, embedded := false, tag := "", pkgPath := "skein/lex", byteOffset := 24 }])) := ⟨Tryd.underlying30, Tryd.underlying40⟩
def tokV (k : Int) (t : List UInt8) (n a : Int) : V := .agg [.int .i64 k, .str t, .int .u64 n, .int .i64 a]
theorem bdE : (∀ a b c d, buildV cx 30 [(0, .int .i64 a), (1, .str b), (2, .int .u64 c), (3, .int .i64 d)] = some (.agg [.int .i64 a, .str b, .int .u64 c, .int .i64 d])) ∧
    (∀ a d, buildV cx 30 [(0, .int .i64 a), (3, .int .i64 d)] = some (.agg [.int .i64 a, .str [], .int .u64 0, .int .i64 d])) ∧
    (∀ s, buildV cx 40 [(0, .str s)] = some (.agg [.str s, .int .i64 0, .sl .full []])) := ⟨fun _ _ _ _ => by rfl, fun _ _ => by rfl, fun _ => by rfl⟩
theorem cvE : (∀ H n, convV cx H 3 28 (.int .i64 n) = some (.int .u64 (IntKind.u64.wrap n))) ∧ (∀ H n, convV cx H 33 28 (.int .u32 n) = some (.int .u64 (IntKind.u64.wrap n))) ∧ (∀ H n, convV cx H 5 28 (.int .u8 n) = some (.int .u64 (IntKind.u64.wrap n))) ∧
    (∀ H n, convV cx H 3 5 (.int .i64 n) = some (.int .u8 (IntKind.u8.wrap n))) ∧ (∀ H n, convV cx H 3 68 (.int .i64 n) = some (.int .u64 (IntKind.u64.wrap n))) ∧ (∀ H n, convV cx H 28 33 (.int .u64 n) = some (.int .u32 (IntKind.u32.wrap n))) := by
  refine ⟨?_, ?_, ?_, ?_, ?_, ?_⟩ <;> intros <;> simp only [convV, tyE]
end Go.Proofs.YtmdiieignlidhaaDoor
