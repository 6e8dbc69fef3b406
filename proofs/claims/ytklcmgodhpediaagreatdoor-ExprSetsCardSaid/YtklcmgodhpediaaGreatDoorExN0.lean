/- The field reg1. -/
import Derived.Test.YtklcmgodhpediaaGreatDoorExC1
set_option maxRecDepth 100000
namespace Go.Proofs.YtklcmgodhpediaaGreatDoor
open Go Go.Vm Go.Proofs
theorem wordR (st : St) : FnS cx 105 [.str [114, 101, 103, 49]] st (.tup [.agg [.int .i64 0, .int .i64 0, .int .i64 0, .int .u64 0, .int .u64 0, .sl .none []], .bool false]) st := ⟨Fn.ofG (n := 100) (by kernel_rfl) ⟨rfl, rfl⟩⟩
theorem findR (st : St) : FnS cx 106 [.str [114, 101, 103, 49]] st (.tup [.int .i64 26, .bool true]) st := ⟨Fn.ofG (n := 100) (by kernel_rfl) ⟨rfl, rfl⟩⟩
end Go.Proofs.YtklcmgodhpediaaGreatDoor
