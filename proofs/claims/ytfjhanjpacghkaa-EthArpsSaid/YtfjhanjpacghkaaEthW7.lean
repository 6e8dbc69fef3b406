/- Bytes behind bytes; ARP packets as bytes. -/
import Derived.Test.YtfjhanjpacghkaaEthW6
set_option linter.unusedSimpArgs false
set_option linter.unusedVariables false
set_option maxRecDepth 100000
namespace Go.Proofs.Ytfjhanjpacghkaa
open Go Go.Vm Go.Proofs

theorem cv8 (H : List (Nat × Ob)) (n : Int) : convV cx H 23 5 (.int .u64 n) = some (.int .u8 (IntKind.u8.wrap n)) := by simp only [convV, tyE]
theorem bs1 (z : Int) : buildSliceV cx 22 1 [(0, .int .u8 z)] = some (.sl .full [.int .u8 z]) := by rfl
theorem app1 {a : List UInt8} {z : Int} {tip : Tip} {H : List (Nat × Ob)} {n k : Nat} (h0 : 0 ≤ z) (h1 : z < 256) (h2 : a.length ≤ 1000000) :
    appendV cx ⟨(k, .tip 1) :: H, n⟩ 22 (.sl (.own k) (ofBytes a)) (.sl tip [.int .u8 z]) = some (.sl (.own n) (ofBytes (a ++ [UInt8.ofNat z.toNat])), ⟨(n, .tip 1) :: H, n + 1⟩) := by
  have e : [V.int .u8 z] = ofBytes [UInt8.ofNat z.toNat] := by
    simp only [ofBytes, List.map_cons, List.map_nil, UInt8.toNat_ofNat']
    congr 2
    omega
  rw [e]
  exact appO (by simp) (by simp; omega)
theorem app1F {a : List UInt8} {z : Int} {tip : Tip} {H : List (Nat × Ob)} {n : Nat} (h0 : 0 ≤ z) (h1 : z < 256) (h2 : a.length ≤ 1000000) :
    appendV cx ⟨H, n⟩ 22 (.sl .full (ofBytes a)) (.sl tip [.int .u8 z]) = some (.sl (.own n) (ofBytes (a ++ [UInt8.ofNat z.toNat])), ⟨(n, .tip 1) :: H, n + 1⟩) := by
  have e : [V.int .u8 z] = ofBytes [UInt8.ofNat z.toNat] := by
    simp only [ofBytes, List.map_cons, List.map_nil, UInt8.toNat_ofNat']
    congr 2
    omega
  rw [e]
  exact appF (by simp) (by simp; omega)

theorem fdiv2 (x : Int) (n : Nat) : Int.fdiv x (2 ^ n) = x / 2 ^ n := Int.fdiv_eq_ediv_of_nonneg _ (Int.le_of_lt (Int.pow_pos (by omega)))

set_option maxHeartbeats 4000000 in
theorem putS (H : List (Nat × Ob)) (n k : Nat) (hk : k < n) (hH : hdrop n H = H) (l : List UInt8) (hl : l.length ≤ 1000) (x : Int) (hx : 0 ≤ x) (m : Nat) (hm1 : 1 ≤ m) (hm : m ≤ 8) :
    FnS cx 21 [.sl (.own k) (ofBytes l), .int .u64 x, .int .i64 m] ⟨(k, .tip 1) :: H, n⟩ (.sl (.own (n + m - 1)) (ofBytes (l ++ bytesL x m))) ⟨(n + m - 1, .tip 1) :: H, n + m⟩ := by
  refine goS Try.func21 rfl rfl rfl rfl ?_
  intro t ht
  have a0 : tget t 0 = .sl (.own k) (ofBytes l) := ht 0 _ rfl
  have a1 : tget t 1 = .int .u64 x := ht 1 _ rfl
  have a2 : tget t 2 = .int .i64 m := ht 2 _ rfl
  clear ht
  repeat' (first
   | (with_reducible refine isO ?_); first
     | refine sMv (by simp only [↓evP, ↓tgP, ↓reduceIte, Nat.reduceEqDiff, reduceCtorEq, List.map_cons, List.map_nil, List.nil_append, List.append_nil, List.toList_toArray, a0, a1, a2]; with_reducible rfl) ?_
     | refine sAs (by simp only [↓evP, ↓tgP, ↓reduceIte, Nat.reduceEqDiff, reduceCtorEq, List.map_cons, List.map_nil, List.nil_append, List.append_nil, List.toList_toArray, a0, a1, a2]; with_reducible rfl) ?_
     | refine sQ (by simp (disch := (first | assumption | omega | (simp only [List.length_append, bytesL_length, List.length_take, List.length_drop, List.length_cons, List.length_nil]; omega))) only [↓opE, ↓evP, stE, binE, ldE, ↓tgP, ↓reduceIte, clE, ncE, szE, hgE, intBin, shiftBin, strBin, unV, indexAddrV, indexV, lenV, partV, isAggT, sliceV, boundsV, bndV, asIntV, fieldAddrV, fieldV, putAt, nilCheckV, makeIfaceV, stripAgg, stripCell, decide_eq_true_eq, beqD, bneD, notD, beqS, if_true, if_false, ite_true, ite_false, Bool.true_eq_false, Bool.false_eq_true, Nat.reduceEqDiff, Nat.reduceBEq, Nat.reduceAdd, Nat.reduceSub, Nat.reduceMul, Nat.min_def, Nat.reducePow, Nat.reduceLeDiff, Nat.reduceLT, Int.reduceEq, Int.reduceNe, Int.reduceLT, Int.reduceLE, Int.reduceToNat, Int.reduceAdd, Int.reduceSub, Int.reduceMul, Int.reducePow, Int.reduceNeg, Option.map_some, Option.map_none, Option.bind_some, Option.getD_some, Option.getD_none, ofBytes_length, ofBytes_get, ofBytes_take, ofBytes_drop, Int.toNat_natCast, Int.natCast_nonneg, and_self, true_and, and_true, List.getElem?_cons_zero, List.getElem?_cons_succ, decide_true, decide_false, Bool.not_true, Bool.not_false, List.getElem_toArray, List.getElem?_toArray, List.getElem_cons_succ, List.getElem_cons_zero, List.toList_toArray, List.map_cons, List.map_nil, List.take_succ_cons, List.take_zero, List.drop_succ_cons, List.drop_zero, List.length_cons, List.length_nil, List.nil_append, List.cons_append, List.append_nil, Nat.le_refl, Nat.zero_add, Nat.mul_one, Nat.add_zero, Nat.zero_lt_one, List.length_singleton, IntKind.bits, reduceCtorEq, not_true_eq_false, not_false_eq_true, ne_eq, if_pos, if_neg, wI64, wI32, wU8, wU16, wU32, wU64, Int.emod_eq_of_lt, Int.fdiv_eq_ediv_of_nonneg, Int.tdiv_eq_ediv_of_nonneg, Int.tmod_eq_emod_of_nonneg, tyE, Try.underlying25, Try.underlying36, convS, convE, cvE, bdE, a0, a1, a2]; with_reducible rfl) ?_
     | refine sW rfl (by simp (disch := (first | assumption | omega | (simp only [List.length_append, bytesL_length, List.length_take, List.length_drop, List.length_cons, List.length_nil]; omega))) only [↓opE, ↓evP, stE, binE, ldE, ↓tgP, ↓reduceIte, clE, ncE, szE, hgE, intBin, shiftBin, strBin, unV, indexAddrV, indexV, lenV, partV, isAggT, sliceV, boundsV, bndV, asIntV, fieldAddrV, fieldV, putAt, nilCheckV, makeIfaceV, stripAgg, stripCell, decide_eq_true_eq, beqD, bneD, notD, beqS, if_true, if_false, ite_true, ite_false, Bool.true_eq_false, Bool.false_eq_true, Nat.reduceEqDiff, Nat.reduceBEq, Nat.reduceAdd, Nat.reduceSub, Nat.reduceMul, Nat.min_def, Nat.reducePow, Nat.reduceLeDiff, Nat.reduceLT, Int.reduceEq, Int.reduceNe, Int.reduceLT, Int.reduceLE, Int.reduceToNat, Int.reduceAdd, Int.reduceSub, Int.reduceMul, Int.reducePow, Int.reduceNeg, Option.map_some, Option.map_none, Option.bind_some, Option.getD_some, Option.getD_none, ofBytes_length, ofBytes_get, ofBytes_take, ofBytes_drop, Int.toNat_natCast, Int.natCast_nonneg, and_self, true_and, and_true, List.getElem?_cons_zero, List.getElem?_cons_succ, decide_true, decide_false, Bool.not_true, Bool.not_false, List.getElem_toArray, List.getElem?_toArray, List.getElem_cons_succ, List.getElem_cons_zero, List.toList_toArray, List.map_cons, List.map_nil, List.take_succ_cons, List.take_zero, List.drop_succ_cons, List.drop_zero, List.length_cons, List.length_nil, List.nil_append, List.cons_append, List.append_nil, Nat.le_refl, Nat.zero_add, Nat.mul_one, Nat.add_zero, Nat.zero_lt_one, List.length_singleton, IntKind.bits, reduceCtorEq, not_true_eq_false, not_false_eq_true, ne_eq, if_pos, if_neg, wI64, wI32, wU8, wU16, wU32, wU64, Int.emod_eq_of_lt, Int.fdiv_eq_ediv_of_nonneg, Int.tdiv_eq_ediv_of_nonneg, Int.tmod_eq_emod_of_nonneg, tyE, Try.underlying25, Try.underlying36, convS, convE, cvE, bdE, wrOp, a0, a1, a2]; with_reducible rfl) ?_
   | (with_reducible refine isC ?_); first
     | refine condT (by (simp (disch := (first | assumption | omega)) only [↓evP, ↓tgP, ↓reduceIte, Nat.reduceEqDiff, reduceCtorEq, decide_true, decide_false, notD, Bool.not_true, Bool.not_false, decide_eq_true, decide_eq_false, a0, a1, a2]); first | done | fail) ?_
     | refine condF (by (simp (disch := (first | assumption | omega)) only [↓evP, ↓tgP, ↓reduceIte, Nat.reduceEqDiff, reduceCtorEq, decide_true, decide_false, notD, Bool.not_true, Bool.not_false, decide_eq_true, decide_eq_false, a0, a1, a2]); first | done | fail) ?_
     | refine condD (by simp only [↓evP, ↓tgP, ↓reduceIte, Nat.reduceEqDiff, reduceCtorEq, List.map_cons, List.map_nil, List.nil_append, List.append_nil, List.toList_toArray, a0, a1, a2]; with_reducible rfl) (fun _ => ?_) (fun _ => ?_)
     | refine condB (by simp only [↓evP, ↓tgP, ↓reduceIte, Nat.reduceEqDiff, reduceCtorEq, List.map_cons, List.map_nil, List.nil_append, List.append_nil, List.toList_toArray, a0, a1, a2]; with_reducible rfl) (fun _ => ?_) (fun _ => ?_)
   | with_reducible refine Ev.seq ?_
   | with_reducible refine Ev.ops ?_
   | with_reducible refine NxE ?_
   | with_reducible refine BxN ?_
   | with_reducible refine BxX ?_
   | with_reducible refine NxX ?_
   | with_reducible refine NxR ?_
   | with_reducible refine BxR ?_
   | with_reducible refine NxG ?_
   | with_reducible refine BxG ?_
   | with_reducible refine GxR ?_
   | with_reducible refine GxN ?_
   | with_reducible refine GxX ?_
   | with_reducible refine Ev.goto ?_
   | with_reducible refine Ev.block ?_
   | with_reducible refine Ev.skip ?_
   | with_reducible refine Ev.exit ?_
   | with_reducible refine Ev.ret ?_
   | with_reducible refine Ev.label ?_
   | with_reducible refine EvOps.nil ?_
   | with_reducible refine EvPlan.nil ?_
   | (with_reducible refine BxO ?_ ?_; · decide)
   )
  refine loopT (fun r t st => ∃ kj, (r = m ∧ kj = k ∨ r < m ∧ kj = n + (m - r) - 1) ∧ r ≤ m ∧ tget t 0 = .sl (.own kj) (ofBytes (l ++ upTo x m (m - r))) ∧ tget t 1 = .int .u64 x ∧ tget t 7 = .int .i64 ((r : Int) - 1) ∧ st = ⟨(kj, .tip 1) :: H, n + (m - r)⟩) (n := m) ?_ ?_
  · refine ⟨k, .inl ⟨rfl, rfl⟩, Nat.le_refl _, ?_, ?_, ?_, ?_⟩
    · simp only [↓evP, ↓tgP, ↓reduceIte, Nat.reduceEqDiff, reduceCtorEq, List.map_cons, List.map_nil, List.nil_append, List.append_nil, List.toList_toArray, a0]; simp [upTo]
    · simp only [↓evP, ↓tgP, ↓reduceIte, Nat.reduceEqDiff, reduceCtorEq, List.map_cons, List.map_nil, List.nil_append, List.append_nil, List.toList_toArray, a1]
    · simp only [↓evP, ↓tgP, ↓reduceIte, Nat.reduceEqDiff, reduceCtorEq, List.map_cons, List.map_nil, List.nil_append, List.append_nil, List.toList_toArray, a0]
    · simp
  rintro r t st ⟨kj, hkj, hr, c0, c1, c7, rfl⟩
  have hlen : (l ++ upTo x m (m - r)).length ≤ 1000000 := by simp [upTo, bytesL_length]; omega
  repeat' (first
   | (with_reducible refine isO ?_); first
     | refine sMv (by simp only [↓evP, ↓tgP, ↓reduceIte, Nat.reduceEqDiff, reduceCtorEq, List.map_cons, List.map_nil, List.nil_append, List.append_nil, List.toList_toArray, c0, c1, c7, cv8, bs1, app1, fdiv2]; with_reducible rfl) ?_
     | refine sAs (by simp only [↓evP, ↓tgP, ↓reduceIte, Nat.reduceEqDiff, reduceCtorEq, List.map_cons, List.map_nil, List.nil_append, List.append_nil, List.toList_toArray, c0, c1, c7, cv8, bs1, app1, fdiv2]; with_reducible rfl) ?_
     | refine sQ (by simp (disch := (first | assumption | omega | (simp only [List.length_append, bytesL_length, List.length_take, List.length_drop, List.length_cons, List.length_nil]; omega))) only [↓opE, ↓evP, stE, binE, ldE, ↓tgP, ↓reduceIte, clE, ncE, szE, hgE, intBin, shiftBin, strBin, unV, indexAddrV, indexV, lenV, partV, isAggT, sliceV, boundsV, bndV, asIntV, fieldAddrV, fieldV, putAt, nilCheckV, makeIfaceV, stripAgg, stripCell, decide_eq_true_eq, beqD, bneD, notD, beqS, if_true, if_false, ite_true, ite_false, Bool.true_eq_false, Bool.false_eq_true, Nat.reduceEqDiff, Nat.reduceBEq, Nat.reduceAdd, Nat.reduceSub, Nat.reduceMul, Nat.min_def, Nat.reducePow, Nat.reduceLeDiff, Nat.reduceLT, Int.reduceEq, Int.reduceNe, Int.reduceLT, Int.reduceLE, Int.reduceToNat, Int.reduceAdd, Int.reduceSub, Int.reduceMul, Int.reducePow, Int.reduceNeg, Option.map_some, Option.map_none, Option.bind_some, Option.getD_some, Option.getD_none, ofBytes_length, ofBytes_get, ofBytes_take, ofBytes_drop, Int.toNat_natCast, Int.natCast_nonneg, and_self, true_and, and_true, List.getElem?_cons_zero, List.getElem?_cons_succ, decide_true, decide_false, Bool.not_true, Bool.not_false, List.getElem_toArray, List.getElem?_toArray, List.getElem_cons_succ, List.getElem_cons_zero, List.toList_toArray, List.map_cons, List.map_nil, List.take_succ_cons, List.take_zero, List.drop_succ_cons, List.drop_zero, List.length_cons, List.length_nil, List.nil_append, List.cons_append, List.append_nil, Nat.le_refl, Nat.zero_add, Nat.mul_one, Nat.add_zero, Nat.zero_lt_one, List.length_singleton, IntKind.bits, reduceCtorEq, not_true_eq_false, not_false_eq_true, ne_eq, if_pos, if_neg, wI64, wI32, wU8, wU16, wU32, wU64, Int.emod_eq_of_lt, Int.fdiv_eq_ediv_of_nonneg, Int.tdiv_eq_ediv_of_nonneg, Int.tmod_eq_emod_of_nonneg, tyE, Try.underlying25, Try.underlying36, convS, convE, cvE, bdE, c0, c1, c7, cv8, bs1, app1, fdiv2]; with_reducible rfl) ?_
     | refine sW rfl (by simp (disch := (first | assumption | omega | (simp only [List.length_append, bytesL_length, List.length_take, List.length_drop, List.length_cons, List.length_nil]; omega))) only [↓opE, ↓evP, stE, binE, ldE, ↓tgP, ↓reduceIte, clE, ncE, szE, hgE, intBin, shiftBin, strBin, unV, indexAddrV, indexV, lenV, partV, isAggT, sliceV, boundsV, bndV, asIntV, fieldAddrV, fieldV, putAt, nilCheckV, makeIfaceV, stripAgg, stripCell, decide_eq_true_eq, beqD, bneD, notD, beqS, if_true, if_false, ite_true, ite_false, Bool.true_eq_false, Bool.false_eq_true, Nat.reduceEqDiff, Nat.reduceBEq, Nat.reduceAdd, Nat.reduceSub, Nat.reduceMul, Nat.min_def, Nat.reducePow, Nat.reduceLeDiff, Nat.reduceLT, Int.reduceEq, Int.reduceNe, Int.reduceLT, Int.reduceLE, Int.reduceToNat, Int.reduceAdd, Int.reduceSub, Int.reduceMul, Int.reducePow, Int.reduceNeg, Option.map_some, Option.map_none, Option.bind_some, Option.getD_some, Option.getD_none, ofBytes_length, ofBytes_get, ofBytes_take, ofBytes_drop, Int.toNat_natCast, Int.natCast_nonneg, and_self, true_and, and_true, List.getElem?_cons_zero, List.getElem?_cons_succ, decide_true, decide_false, Bool.not_true, Bool.not_false, List.getElem_toArray, List.getElem?_toArray, List.getElem_cons_succ, List.getElem_cons_zero, List.toList_toArray, List.map_cons, List.map_nil, List.take_succ_cons, List.take_zero, List.drop_succ_cons, List.drop_zero, List.length_cons, List.length_nil, List.nil_append, List.cons_append, List.append_nil, Nat.le_refl, Nat.zero_add, Nat.mul_one, Nat.add_zero, Nat.zero_lt_one, List.length_singleton, IntKind.bits, reduceCtorEq, not_true_eq_false, not_false_eq_true, ne_eq, if_pos, if_neg, wI64, wI32, wU8, wU16, wU32, wU64, Int.emod_eq_of_lt, Int.fdiv_eq_ediv_of_nonneg, Int.tdiv_eq_ediv_of_nonneg, Int.tmod_eq_emod_of_nonneg, tyE, Try.underlying25, Try.underlying36, convS, convE, cvE, bdE, wrOp, c0, c1, c7, cv8, bs1, app1, fdiv2]; with_reducible rfl) ?_
   | (with_reducible refine isC ?_); first
     | refine condT (by (simp (disch := (first | assumption | omega)) only [↓evP, ↓tgP, ↓reduceIte, Nat.reduceEqDiff, reduceCtorEq, decide_true, decide_false, notD, Bool.not_true, Bool.not_false, decide_eq_true, decide_eq_false, c0, c1, c7, cv8, bs1, app1, fdiv2]); first | done | fail) ?_
     | refine condF (by (simp (disch := (first | assumption | omega)) only [↓evP, ↓tgP, ↓reduceIte, Nat.reduceEqDiff, reduceCtorEq, decide_true, decide_false, notD, Bool.not_true, Bool.not_false, decide_eq_true, decide_eq_false, c0, c1, c7, cv8, bs1, app1, fdiv2]); first | done | fail) ?_
     | refine condD (by simp only [↓evP, ↓tgP, ↓reduceIte, Nat.reduceEqDiff, reduceCtorEq, List.map_cons, List.map_nil, List.nil_append, List.append_nil, List.toList_toArray, c0, c1, c7, cv8, bs1, app1, fdiv2]; with_reducible rfl) (fun _ => ?_) (fun _ => ?_)
     | refine condB (by simp only [↓evP, ↓tgP, ↓reduceIte, Nat.reduceEqDiff, reduceCtorEq, List.map_cons, List.map_nil, List.nil_append, List.append_nil, List.toList_toArray, c0, c1, c7, cv8, bs1, app1, fdiv2]; with_reducible rfl) (fun _ => ?_) (fun _ => ?_)
   | with_reducible refine Ev.seq ?_
   | with_reducible refine Ev.ops ?_
   | with_reducible refine NxE ?_
   | with_reducible refine BxN ?_
   | with_reducible refine BxX ?_
   | with_reducible refine NxX ?_
   | with_reducible refine NxR ?_
   | with_reducible refine BxR ?_
   | with_reducible refine NxG ?_
   | with_reducible refine BxG ?_
   | with_reducible refine GxR ?_
   | with_reducible refine GxN ?_
   | with_reducible refine GxX ?_
   | with_reducible refine Ev.goto ?_
   | with_reducible refine Ev.block ?_
   | with_reducible refine Ev.skip ?_
   | with_reducible refine Ev.exit ?_
   | with_reducible refine Ev.ret ?_
   | with_reducible refine Ev.label ?_
   | with_reducible refine EvOps.nil ?_
   | with_reducible refine EvPlan.nil ?_
   | (with_reducible refine BxO ?_ ?_; · decide)
   )
  · have e1 : (8 * ((r : Int) - 1)).toNat = 8 * (m - 1 - (m - r)) := by omega
    have e2 : upTo x m (m - (r - 1)) = upTo x m (m - r) ++ [byteAt x (m - 1 - (m - r))] := by
      rw [show m - (r - 1) = (m - r) + 1 by omega]; exact upTo_succ x (by omega)
    refine ⟨r - 1, by omega, rfl, n + (m - r), .inr ⟨by omega, by omega⟩, by omega, ?_, ?_, ?_, ?_⟩
    · simp only [↓evP, ↓tgP, ↓reduceIte, Nat.reduceEqDiff, reduceCtorEq, List.map_cons, List.map_nil, List.nil_append, List.append_nil, List.toList_toArray, c0]
      rw [e1, e2, ← List.append_assoc]; rfl
    · simp only [↓evP, ↓tgP, ↓reduceIte, Nat.reduceEqDiff, reduceCtorEq, List.map_cons, List.map_nil, List.nil_append, List.append_nil, List.toList_toArray, c1]
    · simp only [↓evP, ↓tgP, ↓reduceIte, Nat.reduceEqDiff, reduceCtorEq, List.map_cons, List.map_nil, List.nil_append, List.append_nil, List.toList_toArray, c7]
      congr 1; omega
    · rw [show n + (m - r) + 1 = n + (m - (r - 1)) by omega]
  · obtain rfl : r = 0 := by omega
    obtain rfl : kj = n + m - 1 := by omega
    refine leafS (vs := [.sl (.own (n + m - 1)) (ofBytes (l ++ upTo x m (m - 0)))]) (by simp (disch := (first | assumption | omega | (simp only [List.length_append, bytesL_length, List.length_take, List.length_drop, List.length_cons, List.length_nil]; omega))) only [↓opE, ↓evP, stE, binE, ldE, ↓tgP, ↓reduceIte, clE, ncE, szE, hgE, intBin, shiftBin, strBin, unV, indexAddrV, indexV, lenV, partV, isAggT, sliceV, boundsV, bndV, asIntV, fieldAddrV, fieldV, putAt, nilCheckV, makeIfaceV, stripAgg, stripCell, decide_eq_true_eq, beqD, bneD, notD, beqS, if_true, if_false, ite_true, ite_false, Bool.true_eq_false, Bool.false_eq_true, Nat.reduceEqDiff, Nat.reduceBEq, Nat.reduceAdd, Nat.reduceSub, Nat.reduceMul, Nat.min_def, Nat.reducePow, Nat.reduceLeDiff, Nat.reduceLT, Int.reduceEq, Int.reduceNe, Int.reduceLT, Int.reduceLE, Int.reduceToNat, Int.reduceAdd, Int.reduceSub, Int.reduceMul, Int.reducePow, Int.reduceNeg, Option.map_some, Option.map_none, Option.bind_some, Option.getD_some, Option.getD_none, ofBytes_length, ofBytes_get, ofBytes_take, ofBytes_drop, Int.toNat_natCast, Int.natCast_nonneg, and_self, true_and, and_true, List.getElem?_cons_zero, List.getElem?_cons_succ, decide_true, decide_false, Bool.not_true, Bool.not_false, List.getElem_toArray, List.getElem?_toArray, List.getElem_cons_succ, List.getElem_cons_zero, List.toList_toArray, List.map_cons, List.map_nil, List.take_succ_cons, List.take_zero, List.drop_succ_cons, List.drop_zero, List.length_cons, List.length_nil, List.nil_append, List.cons_append, List.append_nil, Nat.le_refl, Nat.zero_add, Nat.mul_one, Nat.add_zero, Nat.zero_lt_one, List.length_singleton, IntKind.bits, reduceCtorEq, not_true_eq_false, not_false_eq_true, ne_eq, if_pos, if_neg, wI64, wI32, wU8, wU16, wU32, wU64, Int.emod_eq_of_lt, Int.fdiv_eq_ediv_of_nonneg, Int.tdiv_eq_ediv_of_nonneg, Int.tmod_eq_emod_of_nonneg, tyE, Try.underlying25, Try.underlying36, convS, convE, cvE, bdE, resultsV, show Try.f21.results.toList = [.tmp 6] from rfl]) ?_
    have e : upTo x m (m - 0) = bytesL x m := by unfold upTo; rw [List.take_of_length_le (by rw [bytesL_length]; omega)]
    simp only [leaveV, packV, show cx.grow 21 = true from rfl, show cx.keep 21 = false from rfl, show cx.frz 21 = false from rfl, if_false, if_true, Bool.false_eq_true, hgE, beq_self_eq_true, hdrop]
    rw [if_pos (by omega), if_pos (by omega), hH, e, Nat.sub_zero]

theorem put2 (H : List (Nat × Ob)) (n k : Nat) (hk : k < n) (hH : hdrop n H = H) (l : List UInt8) (hl : l.length ≤ 1000) (x : Int) (hx : 0 ≤ x) : FnS cx 21 [.sl (.own k) (ofBytes l), .int .u64 x, .int .i64 2] ⟨(k, .tip 1) :: H, n⟩ (.sl (.own (n + 1)) (ofBytes (l ++ bytesL x 2))) ⟨(n + 1, .tip 1) :: H, n + 2⟩ := putS H n k hk hH l hl x hx 2 (by omega) (by omega)
theorem put4 (H : List (Nat × Ob)) (n k : Nat) (hk : k < n) (hH : hdrop n H = H) (l : List UInt8) (hl : l.length ≤ 1000) (x : Int) (hx : 0 ≤ x) : FnS cx 21 [.sl (.own k) (ofBytes l), .int .u64 x, .int .i64 4] ⟨(k, .tip 1) :: H, n⟩ (.sl (.own (n + 3)) (ofBytes (l ++ bytesL x 4))) ⟨(n + 3, .tip 1) :: H, n + 4⟩ := putS H n k hk hH l hl x hx 4 (by omega) (by omega)
theorem put6 (H : List (Nat × Ob)) (n k : Nat) (hk : k < n) (hH : hdrop n H = H) (l : List UInt8) (hl : l.length ≤ 1000) (x : Int) (hx : 0 ≤ x) : FnS cx 21 [.sl (.own k) (ofBytes l), .int .u64 x, .int .i64 6] ⟨(k, .tip 1) :: H, n⟩ (.sl (.own (n + 5)) (ofBytes (l ++ bytesL x 6))) ⟨(n + 5, .tip 1) :: H, n + 6⟩ := putS H n k hk hH l hl x hx 6 (by omega) (by omega)

set_option maxHeartbeats 4000000 in
theorem putF (H : List (Nat × Ob)) (n : Nat) (hH : hdrop n H = H) (l : List UInt8) (hl : l.length ≤ 1000) (x : Int) (hx : 0 ≤ x) (m : Nat) (hm1 : 1 ≤ m) (hm : m ≤ 8) :
    FnS cx 21 [.sl .full (ofBytes l), .int .u64 x, .int .i64 m] ⟨H, n⟩ (.sl (.own (n + m - 1)) (ofBytes (l ++ bytesL x m))) ⟨(n + m - 1, .tip 1) :: H, n + m⟩ := by
  refine goS Try.func21 rfl rfl rfl rfl ?_
  intro t ht
  have a0 : tget t 0 = .sl .full (ofBytes l) := ht 0 _ rfl
  have a1 : tget t 1 = .int .u64 x := ht 1 _ rfl
  have a2 : tget t 2 = .int .i64 m := ht 2 _ rfl
  clear ht
  repeat' (first
   | (with_reducible refine isO ?_); first
     | refine sMv (by simp only [↓evP, ↓tgP, ↓reduceIte, Nat.reduceEqDiff, reduceCtorEq, List.map_cons, List.map_nil, List.nil_append, List.append_nil, List.toList_toArray, a0, a1, a2]; with_reducible rfl) ?_
     | refine sAs (by simp only [↓evP, ↓tgP, ↓reduceIte, Nat.reduceEqDiff, reduceCtorEq, List.map_cons, List.map_nil, List.nil_append, List.append_nil, List.toList_toArray, a0, a1, a2]; with_reducible rfl) ?_
     | refine sQ (by simp (disch := (first | assumption | omega | (simp only [List.length_append, bytesL_length, List.length_take, List.length_drop, List.length_cons, List.length_nil]; omega))) only [↓opE, ↓evP, stE, binE, ldE, ↓tgP, ↓reduceIte, clE, ncE, szE, hgE, intBin, shiftBin, strBin, unV, indexAddrV, indexV, lenV, partV, isAggT, sliceV, boundsV, bndV, asIntV, fieldAddrV, fieldV, putAt, nilCheckV, makeIfaceV, stripAgg, stripCell, decide_eq_true_eq, beqD, bneD, notD, beqS, if_true, if_false, ite_true, ite_false, Bool.true_eq_false, Bool.false_eq_true, Nat.reduceEqDiff, Nat.reduceBEq, Nat.reduceAdd, Nat.reduceSub, Nat.reduceMul, Nat.min_def, Nat.reducePow, Nat.reduceLeDiff, Nat.reduceLT, Int.reduceEq, Int.reduceNe, Int.reduceLT, Int.reduceLE, Int.reduceToNat, Int.reduceAdd, Int.reduceSub, Int.reduceMul, Int.reducePow, Int.reduceNeg, Option.map_some, Option.map_none, Option.bind_some, Option.getD_some, Option.getD_none, ofBytes_length, ofBytes_get, ofBytes_take, ofBytes_drop, Int.toNat_natCast, Int.natCast_nonneg, and_self, true_and, and_true, List.getElem?_cons_zero, List.getElem?_cons_succ, decide_true, decide_false, Bool.not_true, Bool.not_false, List.getElem_toArray, List.getElem?_toArray, List.getElem_cons_succ, List.getElem_cons_zero, List.toList_toArray, List.map_cons, List.map_nil, List.take_succ_cons, List.take_zero, List.drop_succ_cons, List.drop_zero, List.length_cons, List.length_nil, List.nil_append, List.cons_append, List.append_nil, Nat.le_refl, Nat.zero_add, Nat.mul_one, Nat.add_zero, Nat.zero_lt_one, List.length_singleton, IntKind.bits, reduceCtorEq, not_true_eq_false, not_false_eq_true, ne_eq, if_pos, if_neg, wI64, wI32, wU8, wU16, wU32, wU64, Int.emod_eq_of_lt, Int.fdiv_eq_ediv_of_nonneg, Int.tdiv_eq_ediv_of_nonneg, Int.tmod_eq_emod_of_nonneg, tyE, Try.underlying25, Try.underlying36, convS, convE, cvE, bdE, a0, a1, a2]; with_reducible rfl) ?_
     | refine sW rfl (by simp (disch := (first | assumption | omega | (simp only [List.length_append, bytesL_length, List.length_take, List.length_drop, List.length_cons, List.length_nil]; omega))) only [↓opE, ↓evP, stE, binE, ldE, ↓tgP, ↓reduceIte, clE, ncE, szE, hgE, intBin, shiftBin, strBin, unV, indexAddrV, indexV, lenV, partV, isAggT, sliceV, boundsV, bndV, asIntV, fieldAddrV, fieldV, putAt, nilCheckV, makeIfaceV, stripAgg, stripCell, decide_eq_true_eq, beqD, bneD, notD, beqS, if_true, if_false, ite_true, ite_false, Bool.true_eq_false, Bool.false_eq_true, Nat.reduceEqDiff, Nat.reduceBEq, Nat.reduceAdd, Nat.reduceSub, Nat.reduceMul, Nat.min_def, Nat.reducePow, Nat.reduceLeDiff, Nat.reduceLT, Int.reduceEq, Int.reduceNe, Int.reduceLT, Int.reduceLE, Int.reduceToNat, Int.reduceAdd, Int.reduceSub, Int.reduceMul, Int.reducePow, Int.reduceNeg, Option.map_some, Option.map_none, Option.bind_some, Option.getD_some, Option.getD_none, ofBytes_length, ofBytes_get, ofBytes_take, ofBytes_drop, Int.toNat_natCast, Int.natCast_nonneg, and_self, true_and, and_true, List.getElem?_cons_zero, List.getElem?_cons_succ, decide_true, decide_false, Bool.not_true, Bool.not_false, List.getElem_toArray, List.getElem?_toArray, List.getElem_cons_succ, List.getElem_cons_zero, List.toList_toArray, List.map_cons, List.map_nil, List.take_succ_cons, List.take_zero, List.drop_succ_cons, List.drop_zero, List.length_cons, List.length_nil, List.nil_append, List.cons_append, List.append_nil, Nat.le_refl, Nat.zero_add, Nat.mul_one, Nat.add_zero, Nat.zero_lt_one, List.length_singleton, IntKind.bits, reduceCtorEq, not_true_eq_false, not_false_eq_true, ne_eq, if_pos, if_neg, wI64, wI32, wU8, wU16, wU32, wU64, Int.emod_eq_of_lt, Int.fdiv_eq_ediv_of_nonneg, Int.tdiv_eq_ediv_of_nonneg, Int.tmod_eq_emod_of_nonneg, tyE, Try.underlying25, Try.underlying36, convS, convE, cvE, bdE, wrOp, a0, a1, a2]; with_reducible rfl) ?_
   | (with_reducible refine isC ?_); first
     | refine condT (by (simp (disch := (first | assumption | omega)) only [↓evP, ↓tgP, ↓reduceIte, Nat.reduceEqDiff, reduceCtorEq, decide_true, decide_false, notD, Bool.not_true, Bool.not_false, decide_eq_true, decide_eq_false, a0, a1, a2]); first | done | fail) ?_
     | refine condF (by (simp (disch := (first | assumption | omega)) only [↓evP, ↓tgP, ↓reduceIte, Nat.reduceEqDiff, reduceCtorEq, decide_true, decide_false, notD, Bool.not_true, Bool.not_false, decide_eq_true, decide_eq_false, a0, a1, a2]); first | done | fail) ?_
     | refine condD (by simp only [↓evP, ↓tgP, ↓reduceIte, Nat.reduceEqDiff, reduceCtorEq, List.map_cons, List.map_nil, List.nil_append, List.append_nil, List.toList_toArray, a0, a1, a2]; with_reducible rfl) (fun _ => ?_) (fun _ => ?_)
     | refine condB (by simp only [↓evP, ↓tgP, ↓reduceIte, Nat.reduceEqDiff, reduceCtorEq, List.map_cons, List.map_nil, List.nil_append, List.append_nil, List.toList_toArray, a0, a1, a2]; with_reducible rfl) (fun _ => ?_) (fun _ => ?_)
   | with_reducible refine Ev.seq ?_
   | with_reducible refine Ev.ops ?_
   | with_reducible refine NxE ?_
   | with_reducible refine BxN ?_
   | with_reducible refine BxX ?_
   | with_reducible refine NxX ?_
   | with_reducible refine NxR ?_
   | with_reducible refine BxR ?_
   | with_reducible refine NxG ?_
   | with_reducible refine BxG ?_
   | with_reducible refine GxR ?_
   | with_reducible refine GxN ?_
   | with_reducible refine GxX ?_
   | with_reducible refine Ev.goto ?_
   | with_reducible refine Ev.block ?_
   | with_reducible refine Ev.skip ?_
   | with_reducible refine Ev.exit ?_
   | with_reducible refine Ev.ret ?_
   | with_reducible refine Ev.label ?_
   | with_reducible refine EvOps.nil ?_
   | with_reducible refine EvPlan.nil ?_
   | (with_reducible refine BxO ?_ ?_; · decide)
   )
  refine loopT (fun r t st => ((r = m ∧ tget t 0 = .sl .full (ofBytes l) ∧ st = ⟨H, n⟩) ∨ (r < m ∧ tget t 0 = .sl (.own (n + (m - r) - 1)) (ofBytes (l ++ upTo x m (m - r))) ∧ st = ⟨(n + (m - r) - 1, .tip 1) :: H, n + (m - r)⟩)) ∧ tget t 1 = .int .u64 x ∧ tget t 7 = .int .i64 ((r : Int) - 1)) (n := m) ?_ ?_
  · refine ⟨.inl ⟨rfl, ?_, ?_⟩, ?_, ?_⟩
    · simp only [↓evP, ↓tgP, ↓reduceIte, Nat.reduceEqDiff, reduceCtorEq, List.map_cons, List.map_nil, List.nil_append, List.append_nil, List.toList_toArray, a0]
    · rfl
    · simp only [↓evP, ↓tgP, ↓reduceIte, Nat.reduceEqDiff, reduceCtorEq, List.map_cons, List.map_nil, List.nil_append, List.append_nil, List.toList_toArray, a1]
    · simp only [↓evP, ↓tgP, ↓reduceIte, Nat.reduceEqDiff, reduceCtorEq, List.map_cons, List.map_nil, List.nil_append, List.append_nil, List.toList_toArray, a0]
  rintro r t st ⟨⟨rfl, c0, rfl⟩ | ⟨hr, c0, rfl⟩, c1, c7⟩
  · have hlen : l.length ≤ 1000000 := by omega
    repeat' (first
     | (with_reducible refine isO ?_); first
       | refine sMv (by simp only [↓evP, ↓tgP, ↓reduceIte, Nat.reduceEqDiff, reduceCtorEq, List.map_cons, List.map_nil, List.nil_append, List.append_nil, List.toList_toArray, c0, c1, c7, cv8, bs1, app1F, fdiv2]; with_reducible rfl) ?_
       | refine sAs (by simp only [↓evP, ↓tgP, ↓reduceIte, Nat.reduceEqDiff, reduceCtorEq, List.map_cons, List.map_nil, List.nil_append, List.append_nil, List.toList_toArray, c0, c1, c7, cv8, bs1, app1F, fdiv2]; with_reducible rfl) ?_
       | refine sQ (by simp (disch := (first | assumption | omega | (simp only [List.length_append, bytesL_length, List.length_take, List.length_drop, List.length_cons, List.length_nil]; omega))) only [↓opE, ↓evP, stE, binE, ldE, ↓tgP, ↓reduceIte, clE, ncE, szE, hgE, intBin, shiftBin, strBin, unV, indexAddrV, indexV, lenV, partV, isAggT, sliceV, boundsV, bndV, asIntV, fieldAddrV, fieldV, putAt, nilCheckV, makeIfaceV, stripAgg, stripCell, decide_eq_true_eq, beqD, bneD, notD, beqS, if_true, if_false, ite_true, ite_false, Bool.true_eq_false, Bool.false_eq_true, Nat.reduceEqDiff, Nat.reduceBEq, Nat.reduceAdd, Nat.reduceSub, Nat.reduceMul, Nat.min_def, Nat.reducePow, Nat.reduceLeDiff, Nat.reduceLT, Int.reduceEq, Int.reduceNe, Int.reduceLT, Int.reduceLE, Int.reduceToNat, Int.reduceAdd, Int.reduceSub, Int.reduceMul, Int.reducePow, Int.reduceNeg, Option.map_some, Option.map_none, Option.bind_some, Option.getD_some, Option.getD_none, ofBytes_length, ofBytes_get, ofBytes_take, ofBytes_drop, Int.toNat_natCast, Int.natCast_nonneg, and_self, true_and, and_true, List.getElem?_cons_zero, List.getElem?_cons_succ, decide_true, decide_false, Bool.not_true, Bool.not_false, List.getElem_toArray, List.getElem?_toArray, List.getElem_cons_succ, List.getElem_cons_zero, List.toList_toArray, List.map_cons, List.map_nil, List.take_succ_cons, List.take_zero, List.drop_succ_cons, List.drop_zero, List.length_cons, List.length_nil, List.nil_append, List.cons_append, List.append_nil, Nat.le_refl, Nat.zero_add, Nat.mul_one, Nat.add_zero, Nat.zero_lt_one, List.length_singleton, IntKind.bits, reduceCtorEq, not_true_eq_false, not_false_eq_true, ne_eq, if_pos, if_neg, wI64, wI32, wU8, wU16, wU32, wU64, Int.emod_eq_of_lt, Int.fdiv_eq_ediv_of_nonneg, Int.tdiv_eq_ediv_of_nonneg, Int.tmod_eq_emod_of_nonneg, tyE, Try.underlying25, Try.underlying36, convS, convE, cvE, bdE, c0, c1, c7, cv8, bs1, app1F, fdiv2]; with_reducible rfl) ?_
       | refine sW rfl (by simp (disch := (first | assumption | omega | (simp only [List.length_append, bytesL_length, List.length_take, List.length_drop, List.length_cons, List.length_nil]; omega))) only [↓opE, ↓evP, stE, binE, ldE, ↓tgP, ↓reduceIte, clE, ncE, szE, hgE, intBin, shiftBin, strBin, unV, indexAddrV, indexV, lenV, partV, isAggT, sliceV, boundsV, bndV, asIntV, fieldAddrV, fieldV, putAt, nilCheckV, makeIfaceV, stripAgg, stripCell, decide_eq_true_eq, beqD, bneD, notD, beqS, if_true, if_false, ite_true, ite_false, Bool.true_eq_false, Bool.false_eq_true, Nat.reduceEqDiff, Nat.reduceBEq, Nat.reduceAdd, Nat.reduceSub, Nat.reduceMul, Nat.min_def, Nat.reducePow, Nat.reduceLeDiff, Nat.reduceLT, Int.reduceEq, Int.reduceNe, Int.reduceLT, Int.reduceLE, Int.reduceToNat, Int.reduceAdd, Int.reduceSub, Int.reduceMul, Int.reducePow, Int.reduceNeg, Option.map_some, Option.map_none, Option.bind_some, Option.getD_some, Option.getD_none, ofBytes_length, ofBytes_get, ofBytes_take, ofBytes_drop, Int.toNat_natCast, Int.natCast_nonneg, and_self, true_and, and_true, List.getElem?_cons_zero, List.getElem?_cons_succ, decide_true, decide_false, Bool.not_true, Bool.not_false, List.getElem_toArray, List.getElem?_toArray, List.getElem_cons_succ, List.getElem_cons_zero, List.toList_toArray, List.map_cons, List.map_nil, List.take_succ_cons, List.take_zero, List.drop_succ_cons, List.drop_zero, List.length_cons, List.length_nil, List.nil_append, List.cons_append, List.append_nil, Nat.le_refl, Nat.zero_add, Nat.mul_one, Nat.add_zero, Nat.zero_lt_one, List.length_singleton, IntKind.bits, reduceCtorEq, not_true_eq_false, not_false_eq_true, ne_eq, if_pos, if_neg, wI64, wI32, wU8, wU16, wU32, wU64, Int.emod_eq_of_lt, Int.fdiv_eq_ediv_of_nonneg, Int.tdiv_eq_ediv_of_nonneg, Int.tmod_eq_emod_of_nonneg, tyE, Try.underlying25, Try.underlying36, convS, convE, cvE, bdE, wrOp, c0, c1, c7, cv8, bs1, app1F, fdiv2]; with_reducible rfl) ?_
     | (with_reducible refine isC ?_); first
       | refine condT (by (simp (disch := (first | assumption | omega)) only [↓evP, ↓tgP, ↓reduceIte, Nat.reduceEqDiff, reduceCtorEq, decide_true, decide_false, notD, Bool.not_true, Bool.not_false, decide_eq_true, decide_eq_false, c0, c1, c7, cv8, bs1, app1F, fdiv2]); first | done | fail) ?_
       | refine condF (by (simp (disch := (first | assumption | omega)) only [↓evP, ↓tgP, ↓reduceIte, Nat.reduceEqDiff, reduceCtorEq, decide_true, decide_false, notD, Bool.not_true, Bool.not_false, decide_eq_true, decide_eq_false, c0, c1, c7, cv8, bs1, app1F, fdiv2]); first | done | fail) ?_
       | refine condD (by simp only [↓evP, ↓tgP, ↓reduceIte, Nat.reduceEqDiff, reduceCtorEq, List.map_cons, List.map_nil, List.nil_append, List.append_nil, List.toList_toArray, c0, c1, c7, cv8, bs1, app1F, fdiv2]; with_reducible rfl) (fun _ => ?_) (fun _ => ?_)
       | refine condB (by simp only [↓evP, ↓tgP, ↓reduceIte, Nat.reduceEqDiff, reduceCtorEq, List.map_cons, List.map_nil, List.nil_append, List.append_nil, List.toList_toArray, c0, c1, c7, cv8, bs1, app1F, fdiv2]; with_reducible rfl) (fun _ => ?_) (fun _ => ?_)
     | with_reducible refine Ev.seq ?_
     | with_reducible refine Ev.ops ?_
     | with_reducible refine NxE ?_
     | with_reducible refine BxN ?_
     | with_reducible refine BxX ?_
     | with_reducible refine NxX ?_
     | with_reducible refine NxR ?_
     | with_reducible refine BxR ?_
     | with_reducible refine NxG ?_
     | with_reducible refine BxG ?_
     | with_reducible refine GxR ?_
     | with_reducible refine GxN ?_
     | with_reducible refine GxX ?_
     | with_reducible refine Ev.goto ?_
     | with_reducible refine Ev.block ?_
     | with_reducible refine Ev.skip ?_
     | with_reducible refine Ev.exit ?_
     | with_reducible refine Ev.ret ?_
     | with_reducible refine Ev.label ?_
     | with_reducible refine EvOps.nil ?_
     | with_reducible refine EvPlan.nil ?_
     | (with_reducible refine BxO ?_ ?_; · decide)
     )
    · have e1 : (8 * ((r : Int) - 1)).toNat = 8 * (r - 1 - 0) := by omega
      have e2 : upTo x r (r - (r - 1)) = [byteAt x (r - 1 - 0)] := by
        rw [show r - (r - 1) = 0 + 1 by omega, upTo_succ x (by omega)]; simp [upTo]
      refine ⟨r - 1, by omega, rfl, .inr ⟨by omega, ?_, ?_⟩, ?_, ?_⟩
      · simp only [↓evP, ↓tgP, ↓reduceIte, Nat.reduceEqDiff, reduceCtorEq, List.map_cons, List.map_nil, List.nil_append, List.append_nil, List.toList_toArray, c0]
        rw [e1, e2, show n + (r - (r - 1)) - 1 = n by omega]; rfl
      · rw [show n + (r - (r - 1)) - 1 = n by omega, show n + (r - (r - 1)) = n + 1 by omega]
      · simp only [↓evP, ↓tgP, ↓reduceIte, Nat.reduceEqDiff, reduceCtorEq, List.map_cons, List.map_nil, List.nil_append, List.append_nil, List.toList_toArray, c1]
      · simp only [↓evP, ↓tgP, ↓reduceIte, Nat.reduceEqDiff, reduceCtorEq, List.map_cons, List.map_nil, List.nil_append, List.append_nil, List.toList_toArray, c7]
        congr 1; omega
  have hlen : (l ++ upTo x m (m - r)).length ≤ 1000000 := by simp [upTo, bytesL_length]; omega
  repeat' (first
   | (with_reducible refine isO ?_); first
     | refine sMv (by simp only [↓evP, ↓tgP, ↓reduceIte, Nat.reduceEqDiff, reduceCtorEq, List.map_cons, List.map_nil, List.nil_append, List.append_nil, List.toList_toArray, c0, c1, c7, cv8, bs1, app1, fdiv2]; with_reducible rfl) ?_
     | refine sAs (by simp only [↓evP, ↓tgP, ↓reduceIte, Nat.reduceEqDiff, reduceCtorEq, List.map_cons, List.map_nil, List.nil_append, List.append_nil, List.toList_toArray, c0, c1, c7, cv8, bs1, app1, fdiv2]; with_reducible rfl) ?_
     | refine sQ (by simp (disch := (first | assumption | omega | (simp only [List.length_append, bytesL_length, List.length_take, List.length_drop, List.length_cons, List.length_nil]; omega))) only [↓opE, ↓evP, stE, binE, ldE, ↓tgP, ↓reduceIte, clE, ncE, szE, hgE, intBin, shiftBin, strBin, unV, indexAddrV, indexV, lenV, partV, isAggT, sliceV, boundsV, bndV, asIntV, fieldAddrV, fieldV, putAt, nilCheckV, makeIfaceV, stripAgg, stripCell, decide_eq_true_eq, beqD, bneD, notD, beqS, if_true, if_false, ite_true, ite_false, Bool.true_eq_false, Bool.false_eq_true, Nat.reduceEqDiff, Nat.reduceBEq, Nat.reduceAdd, Nat.reduceSub, Nat.reduceMul, Nat.min_def, Nat.reducePow, Nat.reduceLeDiff, Nat.reduceLT, Int.reduceEq, Int.reduceNe, Int.reduceLT, Int.reduceLE, Int.reduceToNat, Int.reduceAdd, Int.reduceSub, Int.reduceMul, Int.reducePow, Int.reduceNeg, Option.map_some, Option.map_none, Option.bind_some, Option.getD_some, Option.getD_none, ofBytes_length, ofBytes_get, ofBytes_take, ofBytes_drop, Int.toNat_natCast, Int.natCast_nonneg, and_self, true_and, and_true, List.getElem?_cons_zero, List.getElem?_cons_succ, decide_true, decide_false, Bool.not_true, Bool.not_false, List.getElem_toArray, List.getElem?_toArray, List.getElem_cons_succ, List.getElem_cons_zero, List.toList_toArray, List.map_cons, List.map_nil, List.take_succ_cons, List.take_zero, List.drop_succ_cons, List.drop_zero, List.length_cons, List.length_nil, List.nil_append, List.cons_append, List.append_nil, Nat.le_refl, Nat.zero_add, Nat.mul_one, Nat.add_zero, Nat.zero_lt_one, List.length_singleton, IntKind.bits, reduceCtorEq, not_true_eq_false, not_false_eq_true, ne_eq, if_pos, if_neg, wI64, wI32, wU8, wU16, wU32, wU64, Int.emod_eq_of_lt, Int.fdiv_eq_ediv_of_nonneg, Int.tdiv_eq_ediv_of_nonneg, Int.tmod_eq_emod_of_nonneg, tyE, Try.underlying25, Try.underlying36, convS, convE, cvE, bdE, c0, c1, c7, cv8, bs1, app1, fdiv2]; with_reducible rfl) ?_
     | refine sW rfl (by simp (disch := (first | assumption | omega | (simp only [List.length_append, bytesL_length, List.length_take, List.length_drop, List.length_cons, List.length_nil]; omega))) only [↓opE, ↓evP, stE, binE, ldE, ↓tgP, ↓reduceIte, clE, ncE, szE, hgE, intBin, shiftBin, strBin, unV, indexAddrV, indexV, lenV, partV, isAggT, sliceV, boundsV, bndV, asIntV, fieldAddrV, fieldV, putAt, nilCheckV, makeIfaceV, stripAgg, stripCell, decide_eq_true_eq, beqD, bneD, notD, beqS, if_true, if_false, ite_true, ite_false, Bool.true_eq_false, Bool.false_eq_true, Nat.reduceEqDiff, Nat.reduceBEq, Nat.reduceAdd, Nat.reduceSub, Nat.reduceMul, Nat.min_def, Nat.reducePow, Nat.reduceLeDiff, Nat.reduceLT, Int.reduceEq, Int.reduceNe, Int.reduceLT, Int.reduceLE, Int.reduceToNat, Int.reduceAdd, Int.reduceSub, Int.reduceMul, Int.reducePow, Int.reduceNeg, Option.map_some, Option.map_none, Option.bind_some, Option.getD_some, Option.getD_none, ofBytes_length, ofBytes_get, ofBytes_take, ofBytes_drop, Int.toNat_natCast, Int.natCast_nonneg, and_self, true_and, and_true, List.getElem?_cons_zero, List.getElem?_cons_succ, decide_true, decide_false, Bool.not_true, Bool.not_false, List.getElem_toArray, List.getElem?_toArray, List.getElem_cons_succ, List.getElem_cons_zero, List.toList_toArray, List.map_cons, List.map_nil, List.take_succ_cons, List.take_zero, List.drop_succ_cons, List.drop_zero, List.length_cons, List.length_nil, List.nil_append, List.cons_append, List.append_nil, Nat.le_refl, Nat.zero_add, Nat.mul_one, Nat.add_zero, Nat.zero_lt_one, List.length_singleton, IntKind.bits, reduceCtorEq, not_true_eq_false, not_false_eq_true, ne_eq, if_pos, if_neg, wI64, wI32, wU8, wU16, wU32, wU64, Int.emod_eq_of_lt, Int.fdiv_eq_ediv_of_nonneg, Int.tdiv_eq_ediv_of_nonneg, Int.tmod_eq_emod_of_nonneg, tyE, Try.underlying25, Try.underlying36, convS, convE, cvE, bdE, wrOp, c0, c1, c7, cv8, bs1, app1, fdiv2]; with_reducible rfl) ?_
   | (with_reducible refine isC ?_); first
     | refine condT (by (simp (disch := (first | assumption | omega)) only [↓evP, ↓tgP, ↓reduceIte, Nat.reduceEqDiff, reduceCtorEq, decide_true, decide_false, notD, Bool.not_true, Bool.not_false, decide_eq_true, decide_eq_false, c0, c1, c7, cv8, bs1, app1, fdiv2]); first | done | fail) ?_
     | refine condF (by (simp (disch := (first | assumption | omega)) only [↓evP, ↓tgP, ↓reduceIte, Nat.reduceEqDiff, reduceCtorEq, decide_true, decide_false, notD, Bool.not_true, Bool.not_false, decide_eq_true, decide_eq_false, c0, c1, c7, cv8, bs1, app1, fdiv2]); first | done | fail) ?_
     | refine condD (by simp only [↓evP, ↓tgP, ↓reduceIte, Nat.reduceEqDiff, reduceCtorEq, List.map_cons, List.map_nil, List.nil_append, List.append_nil, List.toList_toArray, c0, c1, c7, cv8, bs1, app1, fdiv2]; with_reducible rfl) (fun _ => ?_) (fun _ => ?_)
     | refine condB (by simp only [↓evP, ↓tgP, ↓reduceIte, Nat.reduceEqDiff, reduceCtorEq, List.map_cons, List.map_nil, List.nil_append, List.append_nil, List.toList_toArray, c0, c1, c7, cv8, bs1, app1, fdiv2]; with_reducible rfl) (fun _ => ?_) (fun _ => ?_)
   | with_reducible refine Ev.seq ?_
   | with_reducible refine Ev.ops ?_
   | with_reducible refine NxE ?_
   | with_reducible refine BxN ?_
   | with_reducible refine BxX ?_
   | with_reducible refine NxX ?_
   | with_reducible refine NxR ?_
   | with_reducible refine BxR ?_
   | with_reducible refine NxG ?_
   | with_reducible refine BxG ?_
   | with_reducible refine GxR ?_
   | with_reducible refine GxN ?_
   | with_reducible refine GxX ?_
   | with_reducible refine Ev.goto ?_
   | with_reducible refine Ev.block ?_
   | with_reducible refine Ev.skip ?_
   | with_reducible refine Ev.exit ?_
   | with_reducible refine Ev.ret ?_
   | with_reducible refine Ev.label ?_
   | with_reducible refine EvOps.nil ?_
   | with_reducible refine EvPlan.nil ?_
   | (with_reducible refine BxO ?_ ?_; · decide)
   )
  · have e1 : (8 * ((r : Int) - 1)).toNat = 8 * (m - 1 - (m - r)) := by omega
    have e2 : upTo x m (m - (r - 1)) = upTo x m (m - r) ++ [byteAt x (m - 1 - (m - r))] := by
      rw [show m - (r - 1) = (m - r) + 1 by omega]; exact upTo_succ x (by omega)
    refine ⟨r - 1, by omega, rfl, .inr ⟨by omega, ?_, ?_⟩, ?_, ?_⟩
    · simp only [↓evP, ↓tgP, ↓reduceIte, Nat.reduceEqDiff, reduceCtorEq, List.map_cons, List.map_nil, List.nil_append, List.append_nil, List.toList_toArray, c0]
      rw [e1, e2, ← List.append_assoc, show n + (m - (r - 1)) - 1 = n + (m - r) by omega]; rfl
    · rw [show n + (m - (r - 1)) - 1 = n + (m - r) by omega, show n + (m - r) + 1 = n + (m - (r - 1)) by omega]
    · simp only [↓evP, ↓tgP, ↓reduceIte, Nat.reduceEqDiff, reduceCtorEq, List.map_cons, List.map_nil, List.nil_append, List.append_nil, List.toList_toArray, c1]
    · simp only [↓evP, ↓tgP, ↓reduceIte, Nat.reduceEqDiff, reduceCtorEq, List.map_cons, List.map_nil, List.nil_append, List.append_nil, List.toList_toArray, c7]
      congr 1; omega
  · obtain rfl : r = 0 := by omega
    refine leafS (vs := [.sl (.own (n + (m - 0) - 1)) (ofBytes (l ++ upTo x m (m - 0)))]) (by simp (disch := (first | assumption | omega | (simp only [List.length_append, bytesL_length, List.length_take, List.length_drop, List.length_cons, List.length_nil]; omega))) only [↓opE, ↓evP, stE, binE, ldE, ↓tgP, ↓reduceIte, clE, ncE, szE, hgE, intBin, shiftBin, strBin, unV, indexAddrV, indexV, lenV, partV, isAggT, sliceV, boundsV, bndV, asIntV, fieldAddrV, fieldV, putAt, nilCheckV, makeIfaceV, stripAgg, stripCell, decide_eq_true_eq, beqD, bneD, notD, beqS, if_true, if_false, ite_true, ite_false, Bool.true_eq_false, Bool.false_eq_true, Nat.reduceEqDiff, Nat.reduceBEq, Nat.reduceAdd, Nat.reduceSub, Nat.reduceMul, Nat.min_def, Nat.reducePow, Nat.reduceLeDiff, Nat.reduceLT, Int.reduceEq, Int.reduceNe, Int.reduceLT, Int.reduceLE, Int.reduceToNat, Int.reduceAdd, Int.reduceSub, Int.reduceMul, Int.reducePow, Int.reduceNeg, Option.map_some, Option.map_none, Option.bind_some, Option.getD_some, Option.getD_none, ofBytes_length, ofBytes_get, ofBytes_take, ofBytes_drop, Int.toNat_natCast, Int.natCast_nonneg, and_self, true_and, and_true, List.getElem?_cons_zero, List.getElem?_cons_succ, decide_true, decide_false, Bool.not_true, Bool.not_false, List.getElem_toArray, List.getElem?_toArray, List.getElem_cons_succ, List.getElem_cons_zero, List.toList_toArray, List.map_cons, List.map_nil, List.take_succ_cons, List.take_zero, List.drop_succ_cons, List.drop_zero, List.length_cons, List.length_nil, List.nil_append, List.cons_append, List.append_nil, Nat.le_refl, Nat.zero_add, Nat.mul_one, Nat.add_zero, Nat.zero_lt_one, List.length_singleton, IntKind.bits, reduceCtorEq, not_true_eq_false, not_false_eq_true, ne_eq, if_pos, if_neg, wI64, wI32, wU8, wU16, wU32, wU64, Int.emod_eq_of_lt, Int.fdiv_eq_ediv_of_nonneg, Int.tdiv_eq_ediv_of_nonneg, Int.tmod_eq_emod_of_nonneg, tyE, Try.underlying25, Try.underlying36, convS, convE, cvE, bdE, resultsV, show Try.f21.results.toList = [.tmp 6] from rfl]) ?_
    have e : upTo x m (m - 0) = bytesL x m := by unfold upTo; rw [List.take_of_length_le (by rw [bytesL_length]; omega)]
    simp only [leaveV, packV, show cx.grow 21 = true from rfl, show cx.keep 21 = false from rfl, show cx.frz 21 = false from rfl, if_false, if_true, Bool.false_eq_true, hgE, beq_self_eq_true, hdrop]
    rw [if_pos (by omega), if_pos (by omega), hH, e, Nat.sub_zero]

theorem putF2 (H : List (Nat × Ob)) (n : Nat) (hH : hdrop n H = H) (l : List UInt8) (hl : l.length ≤ 1000) (x : Int) (hx : 0 ≤ x) : FnS cx 21 [.sl .full (ofBytes l), .int .u64 x, .int .i64 2] ⟨H, n⟩ (.sl (.own (n + 1)) (ofBytes (l ++ bytesL x 2))) ⟨(n + 1, .tip 1) :: H, n + 2⟩ := putF H n hH l hl x hx 2 (by omega) (by omega)
end Go.Proofs.Ytfjhanjpacghkaa
