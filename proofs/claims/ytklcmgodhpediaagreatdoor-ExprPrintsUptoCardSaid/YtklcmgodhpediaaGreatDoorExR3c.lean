/- Fields by their names. -/
import Derived.Test.YtklcmgodhpediaaGreatDoorExR1
set_option linter.unusedSimpArgs false
set_option linter.unusedVariables false
set_option maxRecDepth 100000
namespace Go.Proofs.YtklcmgodhpediaaGreatDoor.P
open Go Go.Vm Go.Proofs Go.Proofs.YtklcmgodhpediaaGreatDoor

theorem findS2 (f : Int) (h1 : 15 ≤ f) (h2 : f ≤ 21) (st : St) : FnS cx 106 [.str (nmT f)] st (.tup [.int .i64 f, .bool true]) st := by
  have h : f = 15 ∨ f = 16 ∨ f = 17 ∨ f = 18 ∨ f = 19 ∨ f = 20 ∨ f = 21 := by omega
  rcases h with rfl | rfl | rfl | rfl | rfl | rfl | rfl
  all_goals exact ⟨Fn.ofG (n := 100) (by kernel_rfl) ⟨rfl, rfl⟩⟩
end Go.Proofs.YtklcmgodhpediaaGreatDoor.P
/- Fields by their names. -/
namespace Go.Proofs.YtklcmgodhpediaaGreatDoor.P
open Go Go.Vm Go.Proofs Go.Proofs.YtklcmgodhpediaaGreatDoor

theorem findS3 (f : Int) (h1 : 22 ≤ f) (h2 : f ≤ 28) (st : St) : FnS cx 106 [.str (nmT f)] st (.tup [.int .i64 f, .bool true]) st := by
  have h : f = 22 ∨ f = 23 ∨ f = 24 ∨ f = 25 ∨ f = 26 ∨ f = 27 ∨ f = 28 := by omega
  rcases h with rfl | rfl | rfl | rfl | rfl | rfl | rfl
  all_goals exact ⟨Fn.ofG (n := 100) (by kernel_rfl) ⟨rfl, rfl⟩⟩
end Go.Proofs.YtklcmgodhpediaaGreatDoor.P
