/- Two flows that send a State to and fro. -/
import Derived.Test.YtbgalenfbmaceaaGreatDoorDeV1
set_option linter.unusedSimpArgs false
set_option linter.unusedVariables false
set_option maxRecDepth 1000000
namespace Go.Proofs.YtbgalenfbmaceaaGreatDoor
open Go Go.Vm Go.Proofs

def actGo (t : Int) : V := .agg [.int .i64 4, .int .i64 0, .int .i64 0, .int .u64 0, .int .u64 0, .int .i64 t, .int .i64 0, .sl .none [], .sl .none [], .int .u64 0, .int .u32 0, .int .u32 0, .int .u32 0, .int .u32 0, .int .u32 0]
def actOut : V := .agg [.int .i64 6, .int .i64 0, .int .i64 0, .int .u64 0, .int .u64 0, .int .i64 0, .int .i64 7, .sl .none [], .sl .none [], .int .u64 0, .int .u32 0, .int .u32 0, .int .u32 0, .int .u32 0, .int .u32 0]
def actClone : V := .agg [.int .i64 5, .int .i64 0, .int .i64 0, .int .u64 0, .int .u64 0, .int .i64 0, .int .i64 0, .sl .none [actOut], .sl .none [], .int .u64 0, .int .u32 0, .int .u32 0, .int .u32 0, .int .u32 0, .int .u32 0]
def flowA (a b : Int) : V := .agg [.int .i64 a, .int .i64 0, .sl .none [], .sl .none [actGo b]]
def flowB (a b : Int) : V := .agg [.int .i64 b, .int .i64 0, .sl .none [], .sl .none [actClone, actGo a]]
def flows (a b : Int) : V := .sl .full [flowA a b, flowB a b]
end Go.Proofs.YtbgalenfbmaceaaGreatDoor
