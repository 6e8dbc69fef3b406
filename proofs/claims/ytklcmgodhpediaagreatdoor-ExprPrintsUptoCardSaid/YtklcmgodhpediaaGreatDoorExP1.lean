/- The parser on a text that the law's lives() reads: by evaluation. -/
import Derived.Test.YtklcmgodhpediaaGreatDoorExV1
set_option linter.unusedSimpArgs false
set_option linter.unusedVariables false
set_option maxRecDepth 1000000
namespace Go.Proofs.YtklcmgodhpediaaGreatDoor
open Go Go.Vm Go.Proofs
def T1 : List UInt8 := [105, 112, 52, 46, 115, 114, 99, 32, 61, 61, 32, 49, 48, 46, 48, 46, 48, 46, 48, 47, 56, 32, 38, 38, 32, 33, 105, 99, 109, 112]
def A1 : V := (.tup [(.agg [(.int .i64 5), (.int .i64 0), (.int .i64 0), (.int .u64 0), (.int .u64 0), (.sl .none [(.agg [(.int .i64 3), (.int .i64 10), (.int .i64 1), (.int .u64 167772160), (.int .u64 4278190080), (.sl .none [])]), (.agg [(.int .i64 4), (.int .i64 0), (.int .i64 0), (.int .u64 0), (.int .u64 0), (.sl .none [(.agg [(.int .i64 5), (.int .i64 0), (.int .i64 0), (.int .u64 0), (.int .u64 0), (.sl .none [(.agg [(.int .i64 3), (.int .i64 3), (.int .i64 1), (.int .u64 2048), (.int .u64 65535), (.sl .none [])]), (.agg [(.int .i64 3), (.int .i64 12), (.int .i64 1), (.int .u64 1), (.int .u64 255), (.sl .none [])])])])])])])]), (.int .i64 0), (.int .i64 0)])
theorem parse1 (st : St) : callG cx 400 13 [.str T1, .sl .full []] st = some (A1, st) := by kernel_rfl
end Go.Proofs.YtklcmgodhpediaaGreatDoor
/- The parser on a text that the law's lives() reads: by evaluation. -/
namespace Go.Proofs.YtklcmgodhpediaaGreatDoor
open Go Go.Vm Go.Proofs
def T2 : List UInt8 := [101, 116, 104, 46, 100, 115, 116, 32, 61, 61, 32, 49, 48, 46, 48, 46, 48, 46, 49]
def A2 : V := (.tup [(.agg [(.int .i64 0), (.int .i64 0), (.int .i64 0), (.int .u64 0), (.int .u64 0), (.sl .none [])]), (.int .i64 151), (.int .i64 11)])
theorem parse2 (st : St) : callG cx 400 13 [.str T2, .sl .full []] st = some (A2, st) := by kernel_rfl
end Go.Proofs.YtklcmgodhpediaaGreatDoor
