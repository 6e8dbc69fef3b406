/- A program of two flows: the walk. -/
import Derived.Test.YtbgalenfbmaceaaGreatDoorDeV13
set_option linter.unusedSimpArgs false
set_option linter.unusedVariables false
set_option maxRecDepth 1000000
namespace Go.Proofs.YtbgalenfbmaceaaGreatDoor.D
open Go Go.Vm Go.Proofs Go.Proofs.YtbgalenfbmaceaaGreatDoor

theorem zv71 : zeroV cw 71 = some (.agg [.int .i64 0, .int .i64 0, .sl .full [], .sl .full [], .str []]) := by rfl
theorem bd69 : buildV cw 69 [(2, .map 1)] = some (.agg [.sl .full [], .sl .full [], .map 1]) := by rfl
theorem bd77 (i : Int) : buildV cw 77 [(0, .int .i64 0), (1, .sl .none []), (2, .int .i64 i)] = some (.agg [.int .i64 0, .sl .none [], .int .i64 i]) := by rfl
theorem bs53 (x : Int) (bx : List V) : buildSliceV cw 53 1 [(0, .agg [.int .i64 x, .int .i64 0, .sl .none [], .sl .none bx])] = some (.sl .full [.agg [.int .i64 x, .int .i64 0, .sl .none [], .sl .none bx]]) := by rfl
theorem bs67 (k : List UInt8) : buildSliceV cw 67 1 [(0, .str k)] = some (.sl .full [.str k]) := by rfl
theorem ap53 (H : List (Nat × Ob)) (n : Nat) (x : Int) (bx : List V) (u : Tip) : appendV cw ⟨H, n⟩ 53 (.sl .full []) (.sl u [.agg [.int .i64 x, .int .i64 0, .sl .none [], .sl .none bx]]) = some (.sl (.own n) [.agg [.int .i64 x, .int .i64 0, .sl .none [], .sl .none bx]], ⟨(n, .tip 4) :: H, n + 1⟩) := by rfl
theorem ap67 (H : List (Nat × Ob)) (n : Nat) (k : List UInt8) (u : Tip) : appendV cw ⟨H, n⟩ 67 (.sl .full []) (.sl u [.str k]) = some (.sl (.own n) [.str k], ⟨(n, .tip 1) :: H, n + 1⟩) := by rfl
theorem ap53b (H : List (Nat × Ob)) (n b : Nat) (x y : Int) (bx by' : List V) (u : Tip) (h : hget H b = some (.tip 4)) : appendV cw ⟨H, n⟩ 53 (.sl (.own b) [.agg [.int .i64 x, .int .i64 0, .sl .none [], .sl .none bx]]) (.sl u [.agg [.int .i64 y, .int .i64 0, .sl .none [], .sl .none by']]) = some (.sl (.own n) [.agg [.int .i64 x, .int .i64 0, .sl .none [], .sl .none bx], .agg [.int .i64 y, .int .i64 0, .sl .none [], .sl .none by']], ⟨(n, .tip 4) :: hdel H b, n + 1⟩) := by
  have e : cw.P.underlying 53 = some (.slice 52) := by rfl
  have e2 : szOf cw 52 = some 4 := by decide +kernel
  have e3 : zeroOk cw 52 4 = true := by decide +kernel
  have e4 : byOf cw 52 ≤ 1000 := by decide +kernel
  have e5 : (1 + 1) * byOf cw 52 ≤ 2 ^ 47 := by omega
  simp only [appendV, e, e2, addedV, h]
  simp [szOk, e3, e5, stripAgg, stripCell, ncells]
theorem ap67b (H : List (Nat × Ob)) (n b : Nat) (k k2 : List UInt8) (u : Tip) (h : hget H b = some (.tip 1)) : appendV cw ⟨H, n⟩ 67 (.sl (.own b) [.str k]) (.sl u [.str k2]) = some (.sl (.own n) [.str k, .str k2], ⟨(n, .tip 1) :: hdel H b, n + 1⟩) := by
  have e : cw.P.underlying 67 = some (.slice 9) := by rfl
  have e2 : szOf cw 9 = some 1 := by decide +kernel
  have e3 : zeroOk cw 9 1 = true := by decide +kernel
  have e4 : byOf cw 9 ≤ 1000 := by decide +kernel
  have e5 : (1 + 1) * byOf cw 9 ≤ 2 ^ 47 := by omega
  simp only [appendV, e, e2, addedV, h]
  simp [szOk, e3, e5, stripAgg, stripCell, ncells]
theorem up66 (es es2 : List (V × V)) (x : Int) (p : V) (h : setMap (.int .i64 x) p es = some es2) : ∀ H1 : List (Nat × Ob), hgetM H1 1 = some es → mapUpdH cw H1 66 (.map 1) (.int .i64 x) p = some (hset H1 1 (.map es2)) := fun H1 h1 => by
  simp only [mapUpdH, tyE, Vm.keyT, h1, if_true, h, Option.map_some]
theorem bnP : (∀ n, binV cw n .eql 73 .nilptr .nilptr = some (.bool true)) ∧ (∀ n a b, binV cw n .eql 73 (.ptr a b) .nilptr = some (.bool false)) := ⟨fun _ => by rfl, fun _ _ _ => by rfl⟩
theorem z73 : zeroV cw 73 = some .nilptr := by rfl
theorem luH (es : List (V × V)) (x : Int) (p : V) (h : (findV (.int .i64 x) es) = some (some p)) : ∀ H : List (Nat × Ob), hgetM H 1 = some es → lookupV cw H 66 (.map 1) (.int .i64 x) false = some p := fun H hh => by
  simp only [lookupV, tyE, Vm.keyT, z73, hh, if_true, h]; rfl
theorem luM (es : List (V × V)) (x : Int) (h : (findV (.int .i64 x) es) = some none) : ∀ H : List (Nat × Ob), hgetM H 1 = some es → lookupV cw H 66 (.map 1) (.int .i64 x) false = some .nilptr := fun H hh => by
  simp only [lookupV, tyE, Vm.keyT, z73, hh, if_true, h]; rfl
theorem fv1 (x : Int) (p : V) : findV (.int .i64 x) [(.int .i64 x, p)] = some (some p) := by simp [findV, eqCell]
theorem fv0 {x y : Int} (h : x ≠ y) (p : V) : findV (.int .i64 y) [(.int .i64 x, p)] = some none := by
  have e : (y == x) = false := beq_eq_false_iff_ne.2 (Ne.symm h)
  simp only [findV, eqCell, e, if_true]
theorem fv2 {x y : Int} (h : x ≠ y) (p q : V) : findV (.int .i64 y) [(.int .i64 x, p), (.int .i64 y, q)] = some (some q) := by
  have e : (y == x) = false := beq_eq_false_iff_ne.2 (Ne.symm h)
  simp [findV, eqCell, e]
theorem sm0 (x : Int) (p : V) : setMap (.int .i64 x) p [] = some [(.int .i64 x, p)] := rfl
theorem sm1 {x y : Int} (h : x ≠ y) (p q : V) : setMap (.int .i64 y) q [(.int .i64 x, p)] = some [(.int .i64 x, p), (.int .i64 y, q)] := by
  have e : (y == x) = false := beq_eq_false_iff_ne.2 (Ne.symm h)
  simp [setMap, eqCell, e]

set_option maxHeartbeats 8000000 in
theorem newG {x y : Int} {ax ay bx by' c0 : List V} {kx ky : List UInt8} {L : V} (hne : x ≠ y) (h8 : ∀ st, FnS cw 8 [L] st (.tup [.sl .none [.agg [.int .i64 x, .int .i64 0, .sl .none [], .sl .none ax, .str kx], .agg [.int .i64 y, .int .i64 0, .sl .none [], .sl .none ay, .str ky]], .int .i64 0]) st) (hX : ∀ st, FnS cw 9 [.agg [.int .i64 x, .int .i64 0, .sl .none [], .sl .none ax]] st (.agg [.int .i64 x, .int .i64 0, .sl .none [], .sl .none bx]) st) (hY : ∀ st, FnS cw 9 [.agg [.int .i64 y, .int .i64 0, .sl .none [], .sl .none ay]] st (.agg [.int .i64 y, .int .i64 0, .sl .none [], .sl .none by']) st) :
    FnS cw 5 [L] ⟨[(0, .cells c0)], 1⟩ (.tup [.ptr 2 0, .int .i64 0]) ⟨[(26, .cells [.sl .full [], .map 25, .int .i64 1]), (25, .map [(.str [], .sl (.own 28) [.agg [.int .i64 0, .sl .none [], .int .i64 2]])]), (22, .cells [.map 20, .map 21]), (20, .map [(.str [], .ptr 26 0)]), (19, .tip 1), (18, .tip 4), (17, .cells [.int .i64 y, .int .i64 0, .sl .none [], .sl .none by']), (16, .cells [.int .i64 y, .int .i64 0, .sl .none [], .sl .none ay, .str ky]), (13, .cells [.sl .full [], .map 12, .int .i64 1]), (12, .map [(.str [], .sl (.own 15) [.agg [.int .i64 0, .sl .none [], .int .i64 1]])]), (9, .cells [.map 7, .map 8]), (7, .map [(.str [], .ptr 13 0)]), (4, .cells [.int .i64 x, .int .i64 0, .sl .none [], .sl .none bx]), (3, .cells [.int .i64 x, .int .i64 0, .sl .none [], .sl .none ax, .str kx]), (2, .cells [.sl (.own 18) [.agg [.int .i64 x, .int .i64 0, .sl .none [], .sl .none bx], .agg [.int .i64 y, .int .i64 0, .sl .none [], .sl .none by']], .sl (.own 19) [.str kx, .str ky], .map 1]), (1, .map [(.int .i64 x, .ptr 9 0), (.int .i64 y, .ptr 22 0)]), (0, .cells c0)], 29⟩ := by
  have hw1 : ∀ H, FnS cw 10 [] ⟨H, 7⟩ (.ptr 9 0) ⟨(9, .cells [.map 7, .map 8]) :: (8, .map []) :: (7, .map []) :: H, 10⟩ := fun H => newC H 7
  have hw2 : ∀ H, FnS cw 10 [] ⟨H, 20⟩ (.ptr 22 0) ⟨(22, .cells [.map 20, .map 21]) :: (21, .map []) :: (20, .map []) :: H, 23⟩ := fun H => newC H 20
  have hA1 := addE1 c0 [.sl (.own 5) [.agg [.int .i64 x, .int .i64 0, .sl .none [], .sl .none bx]], .sl (.own 6) [.str kx], .map 1] [.int .i64 x, .int .i64 0, .sl .none [], .sl .none ax, .str kx] [.int .i64 x, .int .i64 0, .sl .none [], .sl .none bx] [(.int .i64 x, .ptr 9 0)]
  have l1 := luM [] x rfl
  have l2 := luH [(.int .i64 x, .ptr 9 0)] x _ (fv1 x _)
  have l3 := luM [(.int .i64 x, .ptr 9 0)] y (fv0 hne _)
  have l4 := luH [(.int .i64 x, .ptr 9 0), (.int .i64 y, .ptr 22 0)] y _ (fv2 hne _ _)
  have u1 := up66 [] _ x (.ptr 9 0) (sm0 x _)
  have u2 := up66 [(.int .i64 x, .ptr 9 0)] _ y (.ptr 22 0) (sm1 hne _ _)
  have hA2 := addE2 c0 [.sl (.own 18) [.agg [.int .i64 x, .int .i64 0, .sl .none [], .sl .none bx], .agg [.int .i64 y, .int .i64 0, .sl .none [], .sl .none by']], .sl (.own 19) [.str kx, .str ky], .map 1] [.map 7, .map 8] [.sl .full [], .map 12, .int .i64 1] [.int .i64 y, .int .i64 0, .sl .none [], .sl .none ay, .str ky] [.int .i64 y, .int .i64 0, .sl .none [], .sl .none by'] [.int .i64 x, .int .i64 0, .sl .none [], .sl .none bx] [.int .i64 x, .int .i64 0, .sl .none [], .sl .none ax, .str kx] [(.int .i64 x, .ptr 9 0), (.int .i64 y, .ptr 22 0)] [(.str [], .ptr 13 0)] [(.str [], .sl (.own 15) [.agg [.int .i64 0, .sl .none [], .int .i64 1]])]
  have hx3 : ∀ u, appendV cw ⟨[(17, .cells [.int .i64 y, .int .i64 0, .sl .none [], .sl .none by']), (16, .cells [.int .i64 y, .int .i64 0, .sl .none [], .sl .none ay, .str ky]), (13, .cells [.sl .full [], .map 12, .int .i64 1]), (12, .map [(.str [], .sl (.own 15) [.agg [.int .i64 0, .sl .none [], .int .i64 1]])]), (9, .cells [.map 7, .map 8]), (7, .map [(.str [], .ptr 13 0)]), (6, .tip 1), (5, .tip 4), (4, .cells [.int .i64 x, .int .i64 0, .sl .none [], .sl .none bx]), (3, .cells [.int .i64 x, .int .i64 0, .sl .none [], .sl .none ax, .str kx]), (2, .cells [.sl (.own 5) [.agg [.int .i64 x, .int .i64 0, .sl .none [], .sl .none bx]], .sl (.own 6) [.str kx], .map 1]), (1, .map [(.int .i64 x, .ptr 9 0)]), (0, .cells c0)], 18⟩ 53 (.sl (.own 5) [.agg [.int .i64 x, .int .i64 0, .sl .none [], .sl .none bx]]) (.sl u [.agg [.int .i64 y, .int .i64 0, .sl .none [], .sl .none by']]) = some (.sl (.own 18) [.agg [.int .i64 x, .int .i64 0, .sl .none [], .sl .none bx], .agg [.int .i64 y, .int .i64 0, .sl .none [], .sl .none by']], ⟨[(18, .tip 4), (17, .cells [.int .i64 y, .int .i64 0, .sl .none [], .sl .none by']), (16, .cells [.int .i64 y, .int .i64 0, .sl .none [], .sl .none ay, .str ky]), (13, .cells [.sl .full [], .map 12, .int .i64 1]), (12, .map [(.str [], .sl (.own 15) [.agg [.int .i64 0, .sl .none [], .int .i64 1]])]), (9, .cells [.map 7, .map 8]), (7, .map [(.str [], .ptr 13 0)]), (6, .tip 1), (4, .cells [.int .i64 x, .int .i64 0, .sl .none [], .sl .none bx]), (3, .cells [.int .i64 x, .int .i64 0, .sl .none [], .sl .none ax, .str kx]), (2, .cells [.sl (.own 5) [.agg [.int .i64 x, .int .i64 0, .sl .none [], .sl .none bx]], .sl (.own 6) [.str kx], .map 1]), (1, .map [(.int .i64 x, .ptr 9 0)]), (0, .cells c0)], 19⟩) := fun u => ap53b _ _ _ _ _ _ _ u rfl
  have hx4 : ∀ u, appendV cw ⟨[(18, .tip 4), (17, .cells [.int .i64 y, .int .i64 0, .sl .none [], .sl .none by']), (16, .cells [.int .i64 y, .int .i64 0, .sl .none [], .sl .none ay, .str ky]), (13, .cells [.sl .full [], .map 12, .int .i64 1]), (12, .map [(.str [], .sl (.own 15) [.agg [.int .i64 0, .sl .none [], .int .i64 1]])]), (9, .cells [.map 7, .map 8]), (7, .map [(.str [], .ptr 13 0)]), (6, .tip 1), (4, .cells [.int .i64 x, .int .i64 0, .sl .none [], .sl .none bx]), (3, .cells [.int .i64 x, .int .i64 0, .sl .none [], .sl .none ax, .str kx]), (2, .cells [.sl (.own 5) [.agg [.int .i64 x, .int .i64 0, .sl .none [], .sl .none bx]], .sl (.own 6) [.str kx], .map 1]), (1, .map [(.int .i64 x, .ptr 9 0)]), (0, .cells c0)], 19⟩ 67 (.sl (.own 6) [.str kx]) (.sl u [.str ky]) = some (.sl (.own 19) [.str kx, .str ky], ⟨[(19, .tip 1), (18, .tip 4), (17, .cells [.int .i64 y, .int .i64 0, .sl .none [], .sl .none by']), (16, .cells [.int .i64 y, .int .i64 0, .sl .none [], .sl .none ay, .str ky]), (13, .cells [.sl .full [], .map 12, .int .i64 1]), (12, .map [(.str [], .sl (.own 15) [.agg [.int .i64 0, .sl .none [], .int .i64 1]])]), (9, .cells [.map 7, .map 8]), (7, .map [(.str [], .ptr 13 0)]), (4, .cells [.int .i64 x, .int .i64 0, .sl .none [], .sl .none bx]), (3, .cells [.int .i64 x, .int .i64 0, .sl .none [], .sl .none ax, .str kx]), (2, .cells [.sl (.own 5) [.agg [.int .i64 x, .int .i64 0, .sl .none [], .sl .none bx]], .sl (.own 6) [.str kx], .map 1]), (1, .map [(.int .i64 x, .ptr 9 0)]), (0, .cells c0)], 20⟩) := fun u => ap67b _ _ _ _ _ u rfl
  have q1 : lookupV cw [(6, .tip 1), (5, .tip 4), (4, .cells [.int .i64 x, .int .i64 0, .sl .none [], .sl .none bx]), (3, .cells [.int .i64 x, .int .i64 0, .sl .none [], .sl .none ax, .str kx]), (2, .cells [.sl (.own 5) [.agg [.int .i64 x, .int .i64 0, .sl .none [], .sl .none bx]], .sl (.own 6) [.str kx], .map 1]), (1, .map []), (0, .cells c0)] 66 (.map 1) (.int .i64 x) false = some .nilptr := l1 _ rfl
  have q2 : mapUpdH cw [(9, .cells [.map 7, .map 8]), (8, .map []), (7, .map []), (6, .tip 1), (5, .tip 4), (4, .cells [.int .i64 x, .int .i64 0, .sl .none [], .sl .none bx]), (3, .cells [.int .i64 x, .int .i64 0, .sl .none [], .sl .none ax, .str kx]), (2, .cells [.sl (.own 5) [.agg [.int .i64 x, .int .i64 0, .sl .none [], .sl .none bx]], .sl (.own 6) [.str kx], .map 1]), (1, .map []), (0, .cells c0)] 66 (.map 1) (.int .i64 x) (.ptr 9 0) = some [(9, .cells [.map 7, .map 8]), (8, .map []), (7, .map []), (6, .tip 1), (5, .tip 4), (4, .cells [.int .i64 x, .int .i64 0, .sl .none [], .sl .none bx]), (3, .cells [.int .i64 x, .int .i64 0, .sl .none [], .sl .none ax, .str kx]), (2, .cells [.sl (.own 5) [.agg [.int .i64 x, .int .i64 0, .sl .none [], .sl .none bx]], .sl (.own 6) [.str kx], .map 1]), (1, .map [(.int .i64 x, .ptr 9 0)]), (0, .cells c0)] := u1 _ rfl
  have q3 : lookupV cw [(9, .cells [.map 7, .map 8]), (8, .map []), (7, .map []), (6, .tip 1), (5, .tip 4), (4, .cells [.int .i64 x, .int .i64 0, .sl .none [], .sl .none bx]), (3, .cells [.int .i64 x, .int .i64 0, .sl .none [], .sl .none ax, .str kx]), (2, .cells [.sl (.own 5) [.agg [.int .i64 x, .int .i64 0, .sl .none [], .sl .none bx]], .sl (.own 6) [.str kx], .map 1]), (1, .map [(.int .i64 x, .ptr 9 0)]), (0, .cells c0)] 66 (.map 1) (.int .i64 x) false = some (.ptr 9 0) := l2 _ rfl
  have q4 : lookupV cw [(19, .tip 1), (18, .tip 4), (17, .cells [.int .i64 y, .int .i64 0, .sl .none [], .sl .none by']), (16, .cells [.int .i64 y, .int .i64 0, .sl .none [], .sl .none ay, .str ky]), (13, .cells [.sl .full [], .map 12, .int .i64 1]), (12, .map [(.str [], .sl (.own 15) [.agg [.int .i64 0, .sl .none [], .int .i64 1]])]), (9, .cells [.map 7, .map 8]), (7, .map [(.str [], .ptr 13 0)]), (4, .cells [.int .i64 x, .int .i64 0, .sl .none [], .sl .none bx]), (3, .cells [.int .i64 x, .int .i64 0, .sl .none [], .sl .none ax, .str kx]), (2, .cells [.sl (.own 18) [.agg [.int .i64 x, .int .i64 0, .sl .none [], .sl .none bx], .agg [.int .i64 y, .int .i64 0, .sl .none [], .sl .none by']], .sl (.own 19) [.str kx, .str ky], .map 1]), (1, .map [(.int .i64 x, .ptr 9 0)]), (0, .cells c0)] 66 (.map 1) (.int .i64 y) false = some .nilptr := l3 _ rfl
  have q5 : mapUpdH cw [(22, .cells [.map 20, .map 21]), (21, .map []), (20, .map []), (19, .tip 1), (18, .tip 4), (17, .cells [.int .i64 y, .int .i64 0, .sl .none [], .sl .none by']), (16, .cells [.int .i64 y, .int .i64 0, .sl .none [], .sl .none ay, .str ky]), (13, .cells [.sl .full [], .map 12, .int .i64 1]), (12, .map [(.str [], .sl (.own 15) [.agg [.int .i64 0, .sl .none [], .int .i64 1]])]), (9, .cells [.map 7, .map 8]), (7, .map [(.str [], .ptr 13 0)]), (4, .cells [.int .i64 x, .int .i64 0, .sl .none [], .sl .none bx]), (3, .cells [.int .i64 x, .int .i64 0, .sl .none [], .sl .none ax, .str kx]), (2, .cells [.sl (.own 18) [.agg [.int .i64 x, .int .i64 0, .sl .none [], .sl .none bx], .agg [.int .i64 y, .int .i64 0, .sl .none [], .sl .none by']], .sl (.own 19) [.str kx, .str ky], .map 1]), (1, .map [(.int .i64 x, .ptr 9 0)]), (0, .cells c0)] 66 (.map 1) (.int .i64 y) (.ptr 22 0) = some [(22, .cells [.map 20, .map 21]), (21, .map []), (20, .map []), (19, .tip 1), (18, .tip 4), (17, .cells [.int .i64 y, .int .i64 0, .sl .none [], .sl .none by']), (16, .cells [.int .i64 y, .int .i64 0, .sl .none [], .sl .none ay, .str ky]), (13, .cells [.sl .full [], .map 12, .int .i64 1]), (12, .map [(.str [], .sl (.own 15) [.agg [.int .i64 0, .sl .none [], .int .i64 1]])]), (9, .cells [.map 7, .map 8]), (7, .map [(.str [], .ptr 13 0)]), (4, .cells [.int .i64 x, .int .i64 0, .sl .none [], .sl .none bx]), (3, .cells [.int .i64 x, .int .i64 0, .sl .none [], .sl .none ax, .str kx]), (2, .cells [.sl (.own 18) [.agg [.int .i64 x, .int .i64 0, .sl .none [], .sl .none bx], .agg [.int .i64 y, .int .i64 0, .sl .none [], .sl .none by']], .sl (.own 19) [.str kx, .str ky], .map 1]), (1, .map [(.int .i64 x, .ptr 9 0), (.int .i64 y, .ptr 22 0)]), (0, .cells c0)] := u2 _ rfl
  have q6 : lookupV cw [(22, .cells [.map 20, .map 21]), (21, .map []), (20, .map []), (19, .tip 1), (18, .tip 4), (17, .cells [.int .i64 y, .int .i64 0, .sl .none [], .sl .none by']), (16, .cells [.int .i64 y, .int .i64 0, .sl .none [], .sl .none ay, .str ky]), (13, .cells [.sl .full [], .map 12, .int .i64 1]), (12, .map [(.str [], .sl (.own 15) [.agg [.int .i64 0, .sl .none [], .int .i64 1]])]), (9, .cells [.map 7, .map 8]), (7, .map [(.str [], .ptr 13 0)]), (4, .cells [.int .i64 x, .int .i64 0, .sl .none [], .sl .none bx]), (3, .cells [.int .i64 x, .int .i64 0, .sl .none [], .sl .none ax, .str kx]), (2, .cells [.sl (.own 18) [.agg [.int .i64 x, .int .i64 0, .sl .none [], .sl .none bx], .agg [.int .i64 y, .int .i64 0, .sl .none [], .sl .none by']], .sl (.own 19) [.str kx, .str ky], .map 1]), (1, .map [(.int .i64 x, .ptr 9 0), (.int .i64 y, .ptr 22 0)]), (0, .cells c0)] 66 (.map 1) (.int .i64 y) false = some (.ptr 22 0) := l4 _ rfl
  refine goS Tryz.func5 rfl rfl rfl rfl ?_
  intro t ht
  have a0 : tget t 0 = L := ht 0 _ rfl
  clear ht
  have ex := And.intro @a0 (And.intro @hpB (And.intro @hpE @bd69))
  repeat' (first
   | (with_reducible refine isO ?_); first | refine mvA (h := ?_) | refine asA (h := ?_) | refine quA (h := ?_) | refine wnA (h := ?_) | refine caA (hc := (h8 _)) (h := ?_)
   | (with_reducible refine isP ?_); first | refine dqA (h := ?_) | refine dwA (i := 8) (l := [14, 12]) (h := ?_) | refine dwA (i := 16) (l := []) (h := ?_) | refine dnA (i := 19) (l := []) (h := ?_) | refine dnA (i := 22) (l := []) (h := ?_) | refine dnA (i := 7) (l := []) (h := ?_)
   | (with_reducible refine isC ?_); first | refine ctA (h := ?_) | refine cfA (h := ?_) | refine cdA (h1 := fun _ => ?_) (h0 := fun _ => ?_) | refine cbA (h1 := fun _ => ?_) (h0 := fun _ => ?_)
   | (with_reducible refine isR ?_); first
     | refine Ev.drawn (by decide +kernel) (l := [0, 1, 2, 3, 4, 5, 6, 7, 9, 10, 11, 12, 13, 14, 15, 8, 16, 17, 18, 19, 20, 21, 22]) (by decide +kernel) ?_
     | refine Ev.drawn (by decide +kernel) (l := [0, 1, 2, 3, 4, 5, 6, 7]) (by decide +kernel) ?_
     | refine Ev.drawn (by decide +kernel) (l := [0, 1, 2, 3, 4, 5, 6, 7]) (by decide +kernel) ?_
     | refine Ev.drawn (by decide +kernel) (l := [0, 1, 2, 3, 4, 5, 6, 7, 8, 9, 10, 11, 12, 13, 14, 15]) (by decide +kernel) ?_
   | with_reducible first | refine Ev.seq ?_ | refine Ev.ops ?_ | refine NxE ?_ | refine BxN ?_ | refine BxX ?_ | refine NxX ?_ | refine NxR ?_ | refine BxR ?_ | refine Ev.block ?_ | refine Ev.skip ?_ | refine Ev.exit ?_ | refine Ev.ret ?_ | refine EvOps.nil ?_ | refine EvPlan.nil ?_
   | (with_reducible refine BxO ?_ ?_; · decide)
   )
  refine loopT (fun r t st => ((r = 2 ∧ tget t 24 = .int .i64 0 ∧ st = ⟨[(2, .cells [.sl .full [], .sl .full [], .map 1]), (1, .map []), (0, .cells c0)], 3⟩) ∨ (r = 1 ∧ tget t 24 = .int .i64 1 ∧ st = ⟨[(13, .cells [.sl .full [], .map 12, .int .i64 1]), (12, .map [(.str [], .sl (.own 15) [.agg [.int .i64 0, .sl .none [], .int .i64 1]])]), (9, .cells [.map 7, .map 8]), (7, .map [(.str [], .ptr 13 0)]), (6, .tip 1), (5, .tip 4), (4, .cells [.int .i64 x, .int .i64 0, .sl .none [], .sl .none bx]), (3, .cells [.int .i64 x, .int .i64 0, .sl .none [], .sl .none ax, .str kx]), (2, .cells [.sl (.own 5) [.agg [.int .i64 x, .int .i64 0, .sl .none [], .sl .none bx]], .sl (.own 6) [.str kx], .map 1]), (1, .map [(.int .i64 x, .ptr 9 0)]), (0, .cells c0)], 16⟩) ∨ (r = 0 ∧ tget t 24 = .int .i64 2 ∧ st = ⟨[(26, .cells [.sl .full [], .map 25, .int .i64 1]), (25, .map [(.str [], .sl (.own 28) [.agg [.int .i64 0, .sl .none [], .int .i64 2]])]), (22, .cells [.map 20, .map 21]), (20, .map [(.str [], .ptr 26 0)]), (19, .tip 1), (18, .tip 4), (17, .cells [.int .i64 y, .int .i64 0, .sl .none [], .sl .none by']), (16, .cells [.int .i64 y, .int .i64 0, .sl .none [], .sl .none ay, .str ky]), (13, .cells [.sl .full [], .map 12, .int .i64 1]), (12, .map [(.str [], .sl (.own 15) [.agg [.int .i64 0, .sl .none [], .int .i64 1]])]), (9, .cells [.map 7, .map 8]), (7, .map [(.str [], .ptr 13 0)]), (4, .cells [.int .i64 x, .int .i64 0, .sl .none [], .sl .none bx]), (3, .cells [.int .i64 x, .int .i64 0, .sl .none [], .sl .none ax, .str kx]), (2, .cells [.sl (.own 18) [.agg [.int .i64 x, .int .i64 0, .sl .none [], .sl .none bx], .agg [.int .i64 y, .int .i64 0, .sl .none [], .sl .none by']], .sl (.own 19) [.str kx, .str ky], .map 1]), (1, .map [(.int .i64 x, .ptr 9 0), (.int .i64 y, .ptr 22 0)]), (0, .cells c0)], 29⟩)) ∧ tget t 6 = .ptr 2 0 ∧ tget t 22 = .sl .none [.agg [.int .i64 x, .int .i64 0, .sl .none [], .sl .none ax, .str kx], .agg [.int .i64 y, .int .i64 0, .sl .none [], .sl .none ay, .str ky]] ∧ tget t 23 = .int .i64 2) (n := 2) ?_ ?_
  · refine ⟨.inl ⟨rfl, ?_, rfl⟩, ?_, ?_, ?_⟩
    · simp only [↓evP, ↓tgP, ↓reduceIte, Nat.reduceEqDiff, reduceCtorEq, List.map_cons, List.map_nil, List.nil_append, List.append_nil, List.toList_toArray, a0]
    · simp only [↓evP, ↓tgP, ↓reduceIte, Nat.reduceEqDiff, reduceCtorEq, List.map_cons, List.map_nil, List.nil_append, List.append_nil, List.toList_toArray, a0]
    · simp only [↓evP, ↓tgP, ↓reduceIte, Nat.reduceEqDiff, reduceCtorEq, List.map_cons, List.map_nil, List.nil_append, List.append_nil, List.toList_toArray, a0]
    · simp only [↓evP, ↓tgP, ↓reduceIte, Nat.reduceEqDiff, reduceCtorEq, List.map_cons, List.map_nil, List.nil_append, List.append_nil, List.toList_toArray, a0]; rfl
  clear a0
  rintro r t st ⟨(⟨rfl, c24, rfl⟩ | ⟨rfl, c24, rfl⟩ | ⟨rfl, c24, rfl⟩), c6, c22, c23⟩
  · skip
    have ex := And.intro @c6 (And.intro @c22 (And.intro @c23 (And.intro @c24 (And.intro @hpB (And.intro @hpE (And.intro @zvF (And.intro @zv71 (And.intro @bs53 (And.intro @bs67 (And.intro @ap53 (And.intro @ap67 (And.intro @bd77 @bnP))))))))))))
    have exd := And.intro @q1 (And.intro @q2 @q3)
    repeat' (first
     | (with_reducible refine isO ?_); first | refine mvA (h := ?_) | refine asA (h := ?_) | refine quA (h := ?_) | refine wnA (h := ?_) | refine caA (hc := (hX _)) (h := ?_)
     | (with_reducible refine isP ?_); first | refine dqA (h := ?_) | refine dwA (i := 8) (l := [14, 12]) (h := ?_) | refine dwA (i := 16) (l := []) (h := ?_) | refine dnA (i := 19) (l := []) (h := ?_) | refine dnA (i := 22) (l := []) (h := ?_) | refine dcA (i := 6) (l := [5, 3]) (hc := (hw1 _)) (h := ?_) | refine dnA (i := 7) (l := []) (h := ?_) | refine dcA (i := 14) (l := []) (hc := hA1) (h := ?_)
     | (with_reducible refine isC ?_); first | refine ctA (h := ?_) | refine cfA (h := ?_) | refine cdA (h1 := fun _ => ?_) (h0 := fun _ => ?_) | refine cbA (h1 := fun _ => ?_) (h0 := fun _ => ?_)
     | (with_reducible refine isR ?_); first
       | refine Ev.drawn (by decide +kernel) (l := [0, 1, 2, 3, 4, 5, 6, 7, 9, 10, 11, 12, 13, 14, 15, 8, 16, 17, 18, 19, 20, 21, 22]) (by decide +kernel) ?_
       | refine Ev.drawn (by decide +kernel) (l := [0, 1, 2, 3, 4, 5, 6, 7]) (by decide +kernel) ?_
       | refine Ev.drawn (by decide +kernel) (l := [0, 1, 2, 3, 4, 5, 6, 7]) (by decide +kernel) ?_
       | refine Ev.drawn (by decide +kernel) (l := [0, 1, 2, 3, 4, 5, 6, 7, 8, 9, 10, 11, 12, 13, 14, 15]) (by decide +kernel) ?_
     | with_reducible first | refine Ev.seq ?_ | refine Ev.ops ?_ | refine NxE ?_ | refine BxN ?_ | refine BxX ?_ | refine NxX ?_ | refine NxR ?_ | refine BxR ?_ | refine Ev.block ?_ | refine Ev.skip ?_ | refine Ev.exit ?_ | refine Ev.ret ?_ | refine EvOps.nil ?_ | refine EvPlan.nil ?_
     | (with_reducible refine BxO ?_ ?_; · decide)
     )
    refine ⟨1, by omega, rfl, .inr (.inl ⟨rfl, ?_, rfl⟩), ?_, ?_, ?_⟩
    · simp only [↓evP, ↓tgP, ↓reduceIte, Nat.reduceEqDiff, reduceCtorEq, List.map_cons, List.map_nil, List.nil_append, List.append_nil, List.toList_toArray, c24]
    · simp only [↓evP, ↓tgP, ↓reduceIte, Nat.reduceEqDiff, reduceCtorEq, List.map_cons, List.map_nil, List.nil_append, List.append_nil, List.toList_toArray, c6]
    · simp only [↓evP, ↓tgP, ↓reduceIte, Nat.reduceEqDiff, reduceCtorEq, List.map_cons, List.map_nil, List.nil_append, List.append_nil, List.toList_toArray, c22]
    · simp only [↓evP, ↓tgP, ↓reduceIte, Nat.reduceEqDiff, reduceCtorEq, List.map_cons, List.map_nil, List.nil_append, List.append_nil, List.toList_toArray, c23]
  · skip
    have ex := And.intro @c6 (And.intro @c22 (And.intro @c23 (And.intro @c24 (And.intro @hpB (And.intro @hpE (And.intro @zvF (And.intro @zv71 (And.intro @bs53 (And.intro @bs67 (And.intro @hx3 (And.intro @hx4 (And.intro @bd77 @bnP))))))))))))
    have exd := And.intro @q4 (And.intro @q5 @q6)
    repeat' (first
     | (with_reducible refine isO ?_); first | refine mvA (h := ?_) | refine asA (h := ?_) | refine quA (h := ?_) | refine wnA (h := ?_) | refine caA (hc := (hY _)) (h := ?_)
     | (with_reducible refine isP ?_); first | refine dqA (h := ?_) | refine dwA (i := 8) (l := [14, 12]) (h := ?_) | refine dwA (i := 16) (l := []) (h := ?_) | refine dnA (i := 19) (l := []) (h := ?_) | refine dnA (i := 22) (l := []) (h := ?_) | refine dcA (i := 6) (l := [5, 3]) (hc := (hw2 _)) (h := ?_) | refine dnA (i := 7) (l := []) (h := ?_) | refine dcA (i := 14) (l := []) (hc := hA2) (h := ?_)
     | (with_reducible refine isC ?_); first | refine ctA (h := ?_) | refine cfA (h := ?_) | refine cdA (h1 := fun _ => ?_) (h0 := fun _ => ?_) | refine cbA (h1 := fun _ => ?_) (h0 := fun _ => ?_)
     | (with_reducible refine isR ?_); first
       | refine Ev.drawn (by decide +kernel) (l := [0, 1, 2, 3, 4, 5, 6, 7, 9, 10, 11, 12, 13, 14, 15, 8, 16, 17, 18, 19, 20, 21, 22]) (by decide +kernel) ?_
       | refine Ev.drawn (by decide +kernel) (l := [0, 1, 2, 3, 4, 5, 6, 7]) (by decide +kernel) ?_
       | refine Ev.drawn (by decide +kernel) (l := [0, 1, 2, 3, 4, 5, 6, 7]) (by decide +kernel) ?_
       | refine Ev.drawn (by decide +kernel) (l := [0, 1, 2, 3, 4, 5, 6, 7, 8, 9, 10, 11, 12, 13, 14, 15]) (by decide +kernel) ?_
     | with_reducible first | refine Ev.seq ?_ | refine Ev.ops ?_ | refine NxE ?_ | refine BxN ?_ | refine BxX ?_ | refine NxX ?_ | refine NxR ?_ | refine BxR ?_ | refine Ev.block ?_ | refine Ev.skip ?_ | refine Ev.exit ?_ | refine Ev.ret ?_ | refine EvOps.nil ?_ | refine EvPlan.nil ?_
     | (with_reducible refine BxO ?_ ?_; · decide)
     )
    refine ⟨0, by omega, rfl, .inr (.inr ⟨rfl, ?_, rfl⟩), ?_, ?_, ?_⟩
    · simp only [↓evP, ↓tgP, ↓reduceIte, Nat.reduceEqDiff, reduceCtorEq, List.map_cons, List.map_nil, List.nil_append, List.append_nil, List.toList_toArray, c24]
    · simp only [↓evP, ↓tgP, ↓reduceIte, Nat.reduceEqDiff, reduceCtorEq, List.map_cons, List.map_nil, List.nil_append, List.append_nil, List.toList_toArray, c6]
    · simp only [↓evP, ↓tgP, ↓reduceIte, Nat.reduceEqDiff, reduceCtorEq, List.map_cons, List.map_nil, List.nil_append, List.append_nil, List.toList_toArray, c22]
    · simp only [↓evP, ↓tgP, ↓reduceIte, Nat.reduceEqDiff, reduceCtorEq, List.map_cons, List.map_nil, List.nil_append, List.append_nil, List.toList_toArray, c23]
  · skip
    have ex := And.intro @c6 (And.intro @c22 (And.intro @c23 (And.intro @c24 (And.intro @hpB (And.intro @hpE (And.intro @zvF @zv71))))))
    repeat' (first
     | (with_reducible refine isO ?_); first | refine mvA (h := ?_) | refine asA (h := ?_) | refine quA (h := ?_) | refine wnA (h := ?_)
     | (with_reducible refine isP ?_); first | refine dqA (h := ?_) | refine dwA (i := 8) (l := [14, 12]) (h := ?_) | refine dwA (i := 16) (l := []) (h := ?_) | refine dnA (i := 19) (l := []) (h := ?_) | refine dnA (i := 22) (l := []) (h := ?_) | refine dnA (i := 7) (l := []) (h := ?_)
     | (with_reducible refine isC ?_); first | refine ctA (h := ?_) | refine cfA (h := ?_) | refine cdA (h1 := fun _ => ?_) (h0 := fun _ => ?_) | refine cbA (h1 := fun _ => ?_) (h0 := fun _ => ?_)
     | (with_reducible refine isR ?_); first
       | refine Ev.drawn (by decide +kernel) (l := [0, 1, 2, 3, 4, 5, 6, 7, 9, 10, 11, 12, 13, 14, 15, 8, 16, 17, 18, 19, 20, 21, 22]) (by decide +kernel) ?_
       | refine Ev.drawn (by decide +kernel) (l := [0, 1, 2, 3, 4, 5, 6, 7]) (by decide +kernel) ?_
       | refine Ev.drawn (by decide +kernel) (l := [0, 1, 2, 3, 4, 5, 6, 7]) (by decide +kernel) ?_
       | refine Ev.drawn (by decide +kernel) (l := [0, 1, 2, 3, 4, 5, 6, 7, 8, 9, 10, 11, 12, 13, 14, 15]) (by decide +kernel) ?_
     | with_reducible first | refine Ev.seq ?_ | refine Ev.ops ?_ | refine NxE ?_ | refine BxN ?_ | refine BxX ?_ | refine NxX ?_ | refine NxR ?_ | refine BxR ?_ | refine Ev.block ?_ | refine Ev.skip ?_ | refine Ev.exit ?_ | refine Ev.ret ?_ | refine EvOps.nil ?_ | refine EvPlan.nil ?_
     | (with_reducible refine BxO ?_ ?_; · decide)
     )
    refine lsA (rl := [.tmp 2, .tmp 3]) rfl (hv := by
      simp only [leaveV, packV, strip, stripAgg, stripCell, hdrop, Nat.reduceLeDiff, List.map_cons, List.map_nil, show cw.grow 5 = false from rfl, show cw.keep 5 = true from rfl, show cw.frz 5 = false from rfl, if_false, if_true, Bool.false_eq_true]
      first | done | rfl)

end Go.Proofs.YtbgalenfbmaceaaGreatDoor.D
