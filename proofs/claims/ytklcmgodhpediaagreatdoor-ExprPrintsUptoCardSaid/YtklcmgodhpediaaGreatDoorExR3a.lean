/- Fields by their names. -/
import Derived.Test.YtklcmgodhpediaaGreatDoorExR1
set_option linter.unusedSimpArgs false
set_option linter.unusedVariables false
set_option maxRecDepth 100000
namespace Go.Proofs.YtklcmgodhpediaaGreatDoor.P
open Go Go.Vm Go.Proofs Go.Proofs.YtklcmgodhpediaaGreatDoor

theorem findS0 (f : Int) (h1 : 1 ≤ f) (h2 : f ≤ 7) (st : St) : FnS cx 106 [.str (nmT f)] st (.tup [.int .i64 f, .bool true]) st := by
  have h : f = 1 ∨ f = 2 ∨ f = 3 ∨ f = 4 ∨ f = 5 ∨ f = 6 ∨ f = 7 := by omega
  rcases h with rfl | rfl | rfl | rfl | rfl | rfl | rfl
  all_goals exact ⟨Fn.ofG (n := 100) (by kernel_rfl) ⟨rfl, rfl⟩⟩
end Go.Proofs.YtklcmgodhpediaaGreatDoor.P
/- Fields by their names. -/
namespace Go.Proofs.YtklcmgodhpediaaGreatDoor.P
open Go Go.Vm Go.Proofs Go.Proofs.YtklcmgodhpediaaGreatDoor

theorem findS1 (f : Int) (h1 : 8 ≤ f) (h2 : f ≤ 14) (st : St) : FnS cx 106 [.str (nmT f)] st (.tup [.int .i64 f, .bool true]) st := by
  have h : f = 8 ∨ f = 9 ∨ f = 10 ∨ f = 11 ∨ f = 12 ∨ f = 13 ∨ f = 14 := by omega
  rcases h with rfl | rfl | rfl | rfl | rfl | rfl | rfl
  all_goals exact ⟨Fn.ofG (n := 100) (by kernel_rfl) ⟨rfl, rfl⟩⟩
end Go.Proofs.YtklcmgodhpediaaGreatDoor.P
