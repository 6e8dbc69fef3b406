/- Two flows, placed. -/
import Derived.Test.YtbgalenfbmaceaaGreatDoorDeV10
set_option linter.unusedSimpArgs false
set_option linter.unusedVariables false
set_option maxRecDepth 1000000
namespace Go.Proofs.YtbgalenfbmaceaaGreatDoor.D
open Go Go.Vm Go.Proofs Go.Proofs.YtbgalenfbmaceaaGreatDoor

theorem bd71 : ∀ (x0 x1 x2 x3 : V) (k : List UInt8), buildV cw 71 [(0, .agg [x0, x1, x2, x3]), (1, .str k)] = some (.agg [x0, x1, x2, x3, .str k]) := fun _ _ _ _ _ => by rfl
theorem bsA (a b : Nat) (k : List UInt8) : buildSliceV cw 63 1 [(0, .agg [.int .i64 (a : Nat), .int .i64 0, .sl .none [], .sl .none [actGo (b : Nat)], .str k])] = some (.sl .full [.agg [.int .i64 (a : Nat), .int .i64 0, .sl .none [], .sl .none [actGo (b : Nat)], .str k]]) := by rfl
theorem bsB (a b : Nat) (k : List UInt8) : buildSliceV cw 63 1 [(0, .agg [.int .i64 (b : Nat), .int .i64 0, .sl .none [], .sl .none [actClone, actGo (a : Nat)], .str k])] = some (.sl .full [.agg [.int .i64 (b : Nat), .int .i64 0, .sl .none [], .sl .none [actClone, actGo (a : Nat)], .str k]]) := by rfl
theorem ap1 (a b : Nat) (u : Tip) (c : List V) (k : List UInt8) (m : List (V × V)) : appendV cw ⟨[(1, .cells c), (0, .map m)], 2⟩ 63 (.sl .full []) (.sl u [.agg [.int .i64 (a : Nat), .int .i64 0, .sl .none [], .sl .none [actGo (b : Nat)], .str k]]) = some (.msl 2 0 1 18446744073709551622, ⟨[(2, .cells [.int .i64 (a : Nat), .int .i64 0, .sl .none [], .sl .none [actGo (b : Nat)], .str k]), (1, .cells c), (0, .map m)], 3⟩) := by rfl
theorem ap2 (a b : Nat) (u : Tip) (c c2 : List V) (k k2 : List UInt8) (m : List (V × V)) : appendV cw ⟨[(3, .cells c2), (2, .cells [.int .i64 (a : Nat), .int .i64 0, .sl .none [], .sl .none [actGo (b : Nat)], .str k]), (1, .cells c), (0, .map m)], 4⟩ 63 (.msl 2 0 1 18446744073709551622) (.sl u [.agg [.int .i64 (b : Nat), .int .i64 0, .sl .none [], .sl .none [actClone, actGo (a : Nat)], .str k2]]) = some (.msl 4 0 2 18446744073709551622, ⟨[(4, .cells [.int .i64 (a : Nat), .int .i64 0, .sl .none [], .sl .none [actGo (b : Nat)], .str k, .int .i64 (b : Nat), .int .i64 0, .sl .none [], .sl .none [actClone, actGo (a : Nat)], .str k2]), (3, .cells c2), (1, .cells c), (0, .map m)], 5⟩) := by rfl
theorem up86 (H : List (Nat × Ob)) (es : List (V × V)) (k : List UInt8) (es2 : List (V × V)) (h : setMap (.str k) (.bool true) es = some es2) : ∀ H1 : List (Nat × Ob), hgetM H1 0 = some es → mapUpdH cw H1 86 (.map 0) (.str k) (.bool true) = some (hset H1 0 (.map es2)) := fun H1 h1 => by
  simp only [mapUpdH, tyE, Vm.keyT, h1, if_true, h, Option.map_some]
theorem setE0 (k : List UInt8) : setMap (.str k) (.bool true) [] = some [(.str k, .bool true)] := rfl
theorem setE1 {k1 k2 : List UInt8} (h : (k2 == k1) = false) : setMap (.str k2) (.bool true) [(.str k1, .bool true)] = some [(.str k1, .bool true), (.str k2, .bool true)] := by
  simp only [setMap, eqCell, h]; rfl
theorem lk0 (k : List UInt8) (H : List (Nat × Ob)) (h : hgetM H 0 = some []) : lookupV cw H 86 (.map 0) (.str k) false = some (.bool false) := by
  have hz : zeroV cw 4 = some (.bool false) := by rfl
  simp only [lookupV, tyE, Vm.keyT, hz, h, if_true, findV]; rfl
theorem lk1 {k1 k2 : List UInt8} (h : (k2 == k1) = false) (H : List (Nat × Ob)) (hh : hgetM H 0 = some [(.str k1, .bool true)]) : lookupV cw H 86 (.map 0) (.str k2) false = some (.bool false) := by
  have hz : zeroV cw 4 = some (.bool false) := by rfl
  simp only [lookupV, tyE, Vm.keyT, hz, hh, if_true, findV, eqCell, h]; rfl
end Go.Proofs.YtbgalenfbmaceaaGreatDoor.D
