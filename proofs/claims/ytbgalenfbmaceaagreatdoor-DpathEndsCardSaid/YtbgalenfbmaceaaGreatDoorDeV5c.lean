/- Actions that may be. -/
import Derived.Test.YtbgalenfbmaceaaGreatDoorDeV4
import Derived.Test.YtbgalenfbmaceaaGreatDoorN26
set_option linter.unusedSimpArgs false
set_option linter.unusedVariables false
set_option maxRecDepth 1000000
namespace Go.Proofs.YtbgalenfbmaceaaGreatDoor
open Go Go.Vm Go.Proofs
theorem ckC (st : St) : FnS cw 49 [actClone] st (.int .i64 0) st := ⟨Vm.Fn.ofG (n := 100) (by kernel_rfl) ⟨rfl, rfl⟩⟩

theorem ckG0 (x : Int) (a : Nat) (h : 0 ≤ a ∧ a < 16) (st : St) : FnS cw 49 [actGo (a : Nat)] st (.int .i64 0) st := by
  have h : a = 0 ∨ a = 1 ∨ a = 2 ∨ a = 3 ∨ a = 4 ∨ a = 5 ∨ a = 6 ∨ a = 7 ∨ a = 8 ∨ a = 9 ∨ a = 10 ∨ a = 11 ∨ a = 12 ∨ a = 13 ∨ a = 14 ∨ a = 15 := by omega
  rcases h with rfl | rfl | rfl | rfl | rfl | rfl | rfl | rfl | rfl | rfl | rfl | rfl | rfl | rfl | rfl | rfl
  all_goals exact ⟨Vm.Fn.ofG (n := 100) (by kernel_rfl) ⟨rfl, rfl⟩⟩

theorem ckG1 (x : Int) (a : Nat) (h : 16 ≤ a ∧ a < 32) (st : St) : FnS cw 49 [actGo (a : Nat)] st (.int .i64 0) st := by
  have h : a = 16 ∨ a = 17 ∨ a = 18 ∨ a = 19 ∨ a = 20 ∨ a = 21 ∨ a = 22 ∨ a = 23 ∨ a = 24 ∨ a = 25 ∨ a = 26 ∨ a = 27 ∨ a = 28 ∨ a = 29 ∨ a = 30 ∨ a = 31 := by omega
  rcases h with rfl | rfl | rfl | rfl | rfl | rfl | rfl | rfl | rfl | rfl | rfl | rfl | rfl | rfl | rfl | rfl
  all_goals exact ⟨Vm.Fn.ofG (n := 100) (by kernel_rfl) ⟨rfl, rfl⟩⟩

theorem ckG2 (x : Int) (a : Nat) (h : 32 ≤ a ∧ a < 48) (st : St) : FnS cw 49 [actGo (a : Nat)] st (.int .i64 0) st := by
  have h : a = 32 ∨ a = 33 ∨ a = 34 ∨ a = 35 ∨ a = 36 ∨ a = 37 ∨ a = 38 ∨ a = 39 ∨ a = 40 ∨ a = 41 ∨ a = 42 ∨ a = 43 ∨ a = 44 ∨ a = 45 ∨ a = 46 ∨ a = 47 := by omega
  rcases h with rfl | rfl | rfl | rfl | rfl | rfl | rfl | rfl | rfl | rfl | rfl | rfl | rfl | rfl | rfl | rfl
  all_goals exact ⟨Vm.Fn.ofG (n := 100) (by kernel_rfl) ⟨rfl, rfl⟩⟩

theorem ckG3 (x : Int) (a : Nat) (h : 48 ≤ a ∧ a < 64) (st : St) : FnS cw 49 [actGo (a : Nat)] st (.int .i64 0) st := by
  have h : a = 48 ∨ a = 49 ∨ a = 50 ∨ a = 51 ∨ a = 52 ∨ a = 53 ∨ a = 54 ∨ a = 55 ∨ a = 56 ∨ a = 57 ∨ a = 58 ∨ a = 59 ∨ a = 60 ∨ a = 61 ∨ a = 62 ∨ a = 63 := by omega
  rcases h with rfl | rfl | rfl | rfl | rfl | rfl | rfl | rfl | rfl | rfl | rfl | rfl | rfl | rfl | rfl | rfl
  all_goals exact ⟨Vm.Fn.ofG (n := 100) (by kernel_rfl) ⟨rfl, rfl⟩⟩

theorem ckG (x : Int) (a : Nat) (h : a < 64) (st : St) : FnS cw 49 [actGo (a : Nat)] st (.int .i64 0) st := by
  have hh : (0 ≤ a ∧ a < 16) ∨ (16 ≤ a ∧ a < 32) ∨ (32 ≤ a ∧ a < 48) ∨ (48 ≤ a ∧ a < 64) := by omega
  rcases hh with h | h | h | h
  · exact ckG0 x a h st
  · exact ckG1 x a h st
  · exact ckG2 x a h st
  · exact ckG3 x a h st
end Go.Proofs.YtbgalenfbmaceaaGreatDoor
