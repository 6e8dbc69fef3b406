/- A run, whole. -/
import Derived.Test.YtbgalenfbmaceaaGreatDoorDeV19
set_option linter.unusedSimpArgs false
set_option linter.unusedVariables false
set_option maxRecDepth 1000000
namespace Go.Proofs.YtbgalenfbmaceaaGreatDoor.D
open Go Go.Vm Go.Proofs Go.Proofs.YtbgalenfbmaceaaGreatDoor

theorem bnP2 : (∀ n a b, binV cw n .neq 40 (.ptr a b) .nilptr = some (.bool true)) ∧ (∀ n b, binV cw n .neq 66 (.map b) .nilmap = some (.bool true)) ∧ (∀ n a b, binV cw n .eql 54 (.ptr a b) .nilptr = some (.bool false)) ∧ (∀ n a b, binV cw n .eql 40 (.ptr a b) .nilptr = some (.bool false)) := ⟨fun _ _ _ => by rfl, fun _ _ => by rfl, fun _ _ _ => by rfl, fun _ _ _ => by rfl⟩
theorem madeP {H : List (Nat × Ob)} {n c b : Nat} {x y : V} (h : hget H c = some (.cells [x, y, .map b])) (hw : hdrop n H = H) : FnS cw 12 [.ptr c 0] ⟨H, n⟩ (.bool true) ⟨H, n⟩ := by
  refine goS Tryz.func12 rfl rfl rfl rfl ?_
  intro t ht
  have a0 : tget t 0 = .ptr c 0 := ht 0 _ rfl
  clear ht
  have ex := And.intro @a0 (And.intro @h (And.intro @hpB (And.intro @hpE @bnP2)))
  repeat' (first
   | (with_reducible refine isO ?_); first | refine mvA (h := ?_) | refine asA (h := ?_) | refine quA (h := ?_)
   | (with_reducible refine isG ?_); first | refine stA (h := ?_) | refine srA (h := ?_) | refine swA (h := ?_) | refine s1A (h := ?_) | refine s0A (h := ?_) | refine sgA (h1 := fun _ => ?_) (h0 := fun _ => ?_) | refine sbA (h1 := fun _ => ?_) (h0 := fun _ => ?_)
   | (with_reducible refine isC ?_); first | refine ctA (h := ?_) | refine cfA (h := ?_) | refine cdA (h1 := fun _ => ?_) (h0 := fun _ => ?_) | refine cbA (h1 := fun _ => ?_) (h0 := fun _ => ?_)
   | with_reducible first | refine Ev.seq ?_ | refine Ev.ops ?_ | refine NxE ?_ | refine BxN ?_ | refine BxX ?_ | refine NxX ?_ | refine NxR ?_ | refine BxR ?_ | refine Ev.block ?_ | refine Ev.skip ?_ | refine Ev.exit ?_ | refine Ev.ret ?_ | refine EvOps.nil ?_ | refine EvPlan.nil ?_
   | (with_reducible refine BxO ?_ ?_; · decide)
   )
  all_goals refine lsA (rl := [.tmp 2]) rfl (hv := by
      simp only [leaveV, packV, strip, stripAgg, stripCell, List.map_cons, List.map_nil, show cw.grow 12 = false from rfl, show cw.keep 12 = false from rfl, show cw.frz 12 = false from rfl, if_false, if_true, Bool.false_eq_true]
      (try simp (disch := omega) only [hpW, hpA, hw])
      first | done | rfl)
theorem bd83 (a b : V) (ha : cellsOf a = some [a]) (hb : cellsOf b = some [b]) : buildV cw 83 [(0, a), (1, b)] = some (.agg [a, b, .sl .full [], .int .i64 0, .bool false]) := by
  have e1 : cw.P.underlying 83 = some _ := tyX.2.2.2.2.2.2.2.1
  have e2 : zeroV cw 83 = some (.agg [.nilptr, .nilptr, .sl .full [], .int .i64 0, .bool false]) := by rfl
  have e3 : ∃ p, placesV cw [{ name := "p", type := 40, offset := 0, embedded := false, tag := "", pkgPath := "skein/dpath", byteOffset := 0 }, { name := "t", type := 54, offset := 1, embedded := false, tag := "", pkgPath := "skein/dpath", byteOffset := 8 }, { name := "sent", type := 57, offset := 2, embedded := false, tag := "", pkgPath := "skein/dpath", byteOffset := 16 }, { name := "goes", type := 3, offset := 3, embedded := false, tag := "", pkgPath := "skein/dpath", byteOffset := 40 }, { name := "over", type := 4, offset := 4, embedded := false, tag := "", pkgPath := "skein/dpath", byteOffset := 48 }] = some ((0, 1) :: (1, 1) :: p) := ⟨[(2, 1), (3, 1), (4, 1)], by decide +kernel⟩
  obtain ⟨p, e3⟩ := e3
  simp [buildV, e1, e2, e3, fillV, ha, hb, putAt]

set_option maxHeartbeats 8000000 in
theorem runG {B H : List (Nat × Ob)} {tt : Nat} {x y : Int} {cs : List V} {P1 P2 : V} {pm : Nat} (hx : 0 ≤ x ∧ x < 64) (hcs : cs.length = 49) (hst : cs.map stripCell = cs) (hB : Plain B) (hK : Keeps B H) (hw : LT 32 H) (hp : hget H 2 = some (.cells [P1, P2, .map pm]))
    (hfa : FindsAll B cs tt x (.sl .none [.agg [.int .i64 4, .int .i64 0, .int .i64 0, .int .u64 0, .int .u64 0, .int .i64 y, .int .i64 0, .sl .full [], .sl .full [], .int .u64 0, .int .u32 0, .int .u32 0, .int .u32 0, .int .u32 0, .int .u32 0]])) (hfb : FindsAll B cs tt y (.sl .none [.agg [.int .i64 5, .int .i64 0, .int .i64 0, .int .u64 0, .int .u64 0, .int .i64 0, .int .i64 0, .sl .none [actOutF], .sl .full [], .int .u64 0, .int .u32 0, .int .u32 0, .int .u32 0, .int .u32 0, .int .u32 0], .agg [.int .i64 4, .int .i64 0, .int .i64 0, .int .u64 0, .int .u64 0, .int .i64 x, .int .i64 0, .sl .full [], .sl .full [], .int .u64 0, .int .u32 0, .int .u32 0, .int .u32 0, .int .u32 0, .int .u32 0]])) :
    Vm.Fn cw 7 [.ptr 2 0, .ptr tt 0, .int .i64 x, .agg cs] ⟨H, 32⟩ fun v st' => ∃ xs, xs.length = 2048 ∧ v = .tup [.sl .none xs, .int .i64 4096, .int .i64 130] := by
  have ht49 : cs.take 49 = cs := List.take_of_length_le (by omega)
  have hdz : cs.drop 49 = [] := List.drop_eq_nil_of_le (by omega)
  have han := List.append_nil cs
  have h1 : decide (x < 0) = false := by simp; omega
  have h2 : decide (x ≥ 64) = false := by simp; omega
  have hbd := bd83 (.ptr 2 0) (.ptr tt 0) rfl rfl
  have hm := madeP (H := (32, .cells cs) :: H) (n := 33) (c := 2) (x := P1) (y := P2) (b := pm) (by simp (disch := omega) only [hpE, hp]) ((hw.le (by omega)).cons (by omega)).drop
  have hfd := hfa ((33, (.cells [.ptr 2 0, .ptr tt 0, .sl .full [], .int .i64 0, .bool false])) :: (32, .cells cs) :: H) 34 (.sl .full []) (.int .i64 0) (fun p hp => by
        have := (hB p hp).1
        simp (disch := omega) only [hpE]; exact hK p hp) (by omega) (((hw.le (by omega)).cons (by omega)).cons (by omega)) (by simp (disch := omega) only [hpE])
  refine goI Tryz.func7 rfl rfl rfl rfl ?_
  intro t ht
  have a0 : tget t 0 = .ptr 2 0 := ht 0 _ rfl
  have a1 : tget t 1 = .ptr tt 0 := ht 1 _ rfl
  have a2 : tget t 2 = .int .i64 x := ht 2 _ rfl
  have a3 : tget t 3 = .agg cs := ht 3 _ rfl
  clear ht
  have ex := And.intro @a0 (And.intro @a1 (And.intro @a2 (And.intro @a3 (And.intro @h1 (And.intro @h2 (And.intro @hbd (And.intro @ht49 (And.intro @hpB (And.intro @hpE (And.intro @bnP2 @zvE))))))))))
  repeat' (first
   | (with_reducible refine isO ?_); first | refine mvA (h := ?_) | refine asA (h := ?_) | refine quA (h := ?_) | refine caA (hc := hm) (h := ?_)
   | (with_reducible refine isG ?_); first | refine stA (h := ?_) | refine srA (h := ?_) | refine swA (h := ?_) | refine s1A (h := ?_) | refine s0A (h := ?_) | refine sgA (h1 := fun _ => ?_) (h0 := fun _ => ?_) | refine sbA (h1 := fun _ => ?_) (h0 := fun _ => ?_)
   | (with_reducible refine isP ?_); first | refine dqA (h := ?_) | refine dcA (i := 4) (l := [5]) (hc := hfd) (h := ?_)
   | (with_reducible refine isC ?_); first | refine ctA (h := ?_) | refine cfA (h := ?_) | refine cdA (h1 := fun _ => ?_) (h0 := fun _ => ?_) | refine cbA (h1 := fun _ => ?_) (h0 := fun _ => ?_)
   | (with_reducible refine isR ?_); first
     | refine Ev.drawn (by decide +kernel) (l := [0, 1, 2, 3, 5, 4, 6]) (by decide +kernel) ?_
     | refine Ev.drawn (by decide +kernel) (l := [0, 1, 2, 3, 4, 5, 6, 7, 8, 9, 10]) (by decide +kernel) ?_
     | refine Ev.drawn (by decide +kernel) (l := [0, 1, 2, 3, 4, 5, 6, 7, 8, 9, 10]) (by decide +kernel) ?_
   | with_reducible first | refine Ev.seq ?_ | refine Ev.ops ?_ | refine NxE ?_ | refine BxN ?_ | refine BxX ?_ | refine NxX ?_ | refine NxR ?_ | refine BxR ?_ | refine Ev.block ?_ | refine Ev.skip ?_ | refine Ev.exit ?_ | refine Ev.ret ?_ | refine EvOps.nil ?_ | refine EvPlan.nil ?_
   | (with_reducible refine BxO ?_ ?_; · decide)
   )
  refine dX (i := 6) (l := []) (k := 13) (fi := []) (ca := []) («as» := [.ptr 33 0, .sl .none [.agg [.int .i64 4, .int .i64 0, .int .i64 0, .int .u64 0, .int .u64 0, .int .i64 y, .int .i64 0, .sl .full [], .sl .full [], .int .u64 0, .int .u32 0, .int .u32 0, .int .u32 0, .int .u32 0, .int .u32 0]], .agg cs]) (by rfl) (by decide +kernel) (by with_reducible exact wN) (by simp only [↓evP, ↓tgP, ↓reduceIte, Nat.reduceEqDiff, reduceCtorEq, List.map_cons, List.map_nil, List.nil_append, List.append_nil, List.toList_toArray, a0]) (by simp only [↓evP, ↓tgP, ↓reduceIte, Nat.reduceEqDiff, reduceCtorEq, List.map_cons, List.map_nil, List.nil_append, List.append_nil, List.toList_toArray, a0]) (by decide +kernel) ?_
  refine Vm.Fn.mono (listRun (B := B) (H := (33, (.cells [.ptr 2 0, .ptr tt 0, .sl .full [], .int .i64 0, .bool false])) :: (32, .cells cs) :: H) (tt := tt) (x := x) (y := y) hcs hst hB (fun p hp => by
        have := (hB p hp).1
        simp (disch := omega) only [hpE]; exact hK p hp) (by omega) (((hw.le (by omega)).cons (by omega)).cons (by omega)) (by simp (disch := omega) only [hpE]) hfa hfb) ?_
  rintro v st' ⟨rfl, tip, xs, h33, hxl⟩
  refine ⟨by simp only [List.all_nil], ?_⟩
  obtain ⟨H2, n2⟩ := st'
  simp only at h33
  have ex := And.intro @a0 (And.intro @a1 (And.intro @a2 (And.intro @a3 (And.intro @h33 (And.intro @hpB (And.intro @hpE @zvE))))))
  repeat' (first
   | (with_reducible refine isO ?_); first | refine mvA (h := ?_) | refine asA (h := ?_) | refine quA (h := ?_)
   | (with_reducible refine isG ?_); first | refine stA (h := ?_) | refine srA (h := ?_) | refine swA (h := ?_) | refine s1A (h := ?_) | refine s0A (h := ?_) | refine sgA (h1 := fun _ => ?_) (h0 := fun _ => ?_) | refine sbA (h1 := fun _ => ?_) (h0 := fun _ => ?_)
   | (with_reducible refine isP ?_); first | refine dqA (h := ?_)
   | (with_reducible refine isC ?_); first | refine ctA (h := ?_) | refine cfA (h := ?_) | refine cdA (h1 := fun _ => ?_) (h0 := fun _ => ?_) | refine cbA (h1 := fun _ => ?_) (h0 := fun _ => ?_)
   | (with_reducible refine isR ?_); first
     | refine Ev.drawn (by decide +kernel) (l := [0, 1, 2, 3, 5, 4, 6]) (by decide +kernel) ?_
     | refine Ev.drawn (by decide +kernel) (l := [0, 1, 2, 3, 4, 5, 6, 7, 8, 9, 10]) (by decide +kernel) ?_
     | refine Ev.drawn (by decide +kernel) (l := [0, 1, 2, 3, 4, 5, 6, 7, 8, 9, 10]) (by decide +kernel) ?_
   | with_reducible first | refine Ev.seq ?_ | refine Ev.ops ?_ | refine NxE ?_ | refine BxN ?_ | refine BxX ?_ | refine NxX ?_ | refine NxR ?_ | refine BxR ?_ | refine Ev.block ?_ | refine Ev.skip ?_ | refine Ev.exit ?_ | refine Ev.ret ?_ | refine EvOps.nil ?_ | refine EvPlan.nil ?_
   | (with_reducible refine BxO ?_ ?_; · decide)
   )
  all_goals exact ⟨rfl, _, by simp (disch := (first | assumption | omega)) only [↓opE, ↓evP, stE, binE, ldE, ↓tgP, ↓reduceIte, clE, ncE, szE, hgE, intBin, shiftBin, strBin, unV, indexAddrV, indexV, lenV, partV, isAggT, sliceV, boundsV, bndV, asIntV, fieldAddrV, fieldV, putAt, nilCheckV, makeIfaceV, stripAgg, stripCell, decide_eq_true_eq, beqD, bneD, notD, beqS, if_true, if_false, ite_true, ite_false, Bool.true_eq_false, Bool.false_eq_true, Nat.reduceEqDiff, Nat.reduceBEq, Nat.reduceAdd, Nat.reduceSub, Nat.reduceMul, Nat.min_def, Nat.reducePow, Nat.reduceLeDiff, Nat.reduceLT, Int.reduceEq, Int.reduceNe, Int.reduceLT, Int.reduceLE, Int.reduceToNat, Int.reduceAdd, Int.reduceSub, Int.reduceMul, Int.reducePow, Int.reduceNeg, Option.map_some, Option.map_none, Option.bind_some, Option.getD_some, Option.getD_none, ofBytes_length, ofBytes_get, ofBytes_take, ofBytes_drop, Int.toNat_natCast, Int.natCast_nonneg, and_self, true_and, and_true, List.getElem?_cons_zero, List.getElem?_cons_succ, decide_true, decide_false, Bool.not_true, Bool.not_false, List.getElem_toArray, List.getElem?_toArray, List.getElem_cons_succ, List.getElem_cons_zero, List.toList_toArray, List.map_cons, List.map_nil, List.take_succ_cons, List.take_zero, List.drop_succ_cons, List.drop_zero, List.length_cons, List.length_nil, List.nil_append, List.cons_append, List.append_nil, Nat.le_refl, Nat.zero_add, Nat.mul_one, Nat.add_zero, Nat.zero_lt_one, List.length_singleton, IntKind.bits, reduceCtorEq, not_true_eq_false, not_false_eq_true, ne_eq, if_pos, if_neg, wI64, wI32, wU8, wU16, wU32, wU64, Int.emod_eq_of_lt, Int.fdiv_eq_ediv_of_nonneg, Int.tdiv_eq_ediv_of_nonneg, Int.tmod_eq_emod_of_nonneg, tyE, resultsV, show Tryz.f7.results.toList = [.tmp 8, .tmp 9, .tmp 10] from rfl]; with_reducible rfl, xs, hxl, rfl⟩
end Go.Proofs.YtbgalenfbmaceaaGreatDoor.D
