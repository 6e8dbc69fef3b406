/- The bytes of heads: the program's. -/
import Derived.Test.YtfjhanjpacghkaaEtV6
set_option linter.unusedSimpArgs false
set_option linter.unusedVariables false
set_option maxRecDepth 100000
namespace Go.Proofs.Ytfjhanjpacghkaa
open Go Go.Vm Go.Proofs

/-- May a head be? -/
def okHead (d s : Int) (tg : Bool) (tag ty : Int) : Prop := d ≤ 281474976710655 ∧ s ≤ 281474976710655 ∧ (0 ≤ tag ∧ tag ≤ 65535) ∧ (0 ≤ ty ∧ ty ≤ 65535) ∧ ty ≠ 33024 ∧ (tg = true ∨ tag = 0)
instance (d s : Int) (tg : Bool) (tag ty : Int) : Decidable (okHead d s tg tag ty) := by unfold okHead; infer_instance
/-- Its bytes. -/
def encL (d s : Int) (tg : Bool) (tag ty : Int) : List UInt8 := bytesL d 6 ++ bytesL s 6 ++ (if tg then bytesL 33024 2 ++ bytesL tag 2 else []) ++ bytesL ty 2
def encV (d s : Int) (tg : Bool) (tag ty : Int) : V := if okHead d s tg tag ty then .tup [.sl .none (ofBytes (encL d s tg tag ty)), .int .i64 0] else .tup [.sl .none [], .int .i64 1]

set_option maxHeartbeats 4000000 in
theorem ethEnc_bad (d s tag ty : Int) (tg : Bool) (hno : ¬ okHead d s tg tag ty) (st : St) (Q : V → St → Prop) (hQ : Q (.tup [.sl .none [], .int .i64 1]) st) : Vm.Fn cx 11 [ethV d s tg tag ty] st Q := by
  refine fnP (t0 := [(0, ethV d s tg tag ty), (1, .any), (2, .any), (3, .any), (4, .any), (5, .any), (6, .any), (7, .any), (8, .any), (9, .any), (10, .any), (11, .any), (12, .any), (13, .any), (14, .any), (15, .any), (16, .any), (17, .any), (18, .any), (19, .any), (20, .any), (21, .any), (22, .any), (23, .any), (24, .any), (25, .any), (26, .any), (27, .any), (28, .any), (29, .any), (30, .any), (31, .any), (32, .any), (33, .any), (34, .any), (35, .any), (36, .any), (37, .any), (38, .any), (39, .any), (40, .any), (41, .any), (42, .any), (43, .any), (44, .any), (45, .any), (46, .any), (47, .any), (48, .any), (49, .any), (50, .any), (51, .any), (52, .any), (53, .any), (54, .any), (55, .any), (56, .any), (57, .any), (58, .any)]) Try.func11 rfl rfl rfl rfl rfl rfl rfl ?_
  by_cases c1 : d > 281474976710655
  · have c1 : (d > 281474976710655) = True := eq_true c1
    repeat (first
     | with_reducible refine Ev.seq ?_
     | with_reducible refine Ev.ops ?_
     | with_reducible refine NxE ?_
     | with_reducible refine BxN ?_
     | with_reducible refine BxX ?_
     | with_reducible refine NxX ?_
     | with_reducible refine NxR ?_
     | with_reducible refine BxR ?_
     | with_reducible refine NxG ?_
     | with_reducible refine GxR ?_
     | with_reducible refine GxN ?_
     | with_reducible refine Ev.goto ?_
     | with_reducible refine Ev.block ?_
     | with_reducible refine Ev.skip ?_
     | with_reducible refine Ev.exit ?_
     | with_reducible refine Ev.ret ?_
     | with_reducible refine Ev.label ?_
     | with_reducible refine EvOps.nil ?_
     | with_reducible refine EvPlan.nil ?_
     | refine evQ rfl (by simp only [opE, evE, stE, Nat.reduceAdd,  binE, ldE, tgE, clE, ncE, szE, hgE, tyE, intBin, shiftBin, indexAddrV, convV, lenV, partV, isAggT, sliceV, boundsV, bndV, asIntV, beq_self_eq_true, if_true, Nat.reduceBEq, Bool.false_eq_true, if_false, Option.map_some, Option.map_none, Option.bind_some, ofBytes_length, ofBytes_get, Int.toNat_natCast, Int.natCast_nonneg, Nat.zero_lt_one, and_self, Nat.reduceLT, Int.reduceLT, true_and, and_true, List.getElem?_cons_zero, unV, decide_true, decide_false, Bool.not_true, Bool.not_false, fieldAddrV, fieldV, buildV, placesV, fillV, Try.underlying25, putAt, List.getElem_toArray, List.getElem_cons_succ, List.getElem_cons_zero, List.toList_toArray, Array.toList, List.map_cons, List.map_nil, List.take_succ_cons, List.take_zero, List.drop_succ_cons, List.drop_zero, List.length_singleton, List.nil_append, List.cons_append, List.append_nil, List.length_cons, List.length_nil, Nat.le_refl, Nat.reduceLeDiff, Nat.zero_add, ofBytes_take, ofBytes_drop, Int.reduceToNat, Int.reduceLE, Option.getD_some, Option.getD_none, Nat.reduceMul, ethV, not_true_eq_false, not_false_eq_true, decide_true, decide_false, if_true, c1]; rfl) (by simp only [tsE, tgE, beq_self_eq_true, if_true, Nat.reduceBEq, Bool.false_eq_true, if_false]; rfl) ?_
     | refine evW rfl rfl (by simp only [opE, evE, stE, Nat.reduceAdd,  binE, ldE, tgE, clE, ncE, szE, hgE, tyE, intBin, shiftBin, indexAddrV, convV, lenV, partV, isAggT, sliceV, boundsV, bndV, asIntV, beq_self_eq_true, if_true, Nat.reduceBEq, Bool.false_eq_true, if_false, Option.map_some, Option.map_none, Option.bind_some, ofBytes_length, ofBytes_get, Int.toNat_natCast, Int.natCast_nonneg, Nat.zero_lt_one, and_self, Nat.reduceLT, Int.reduceLT, true_and, and_true, List.getElem?_cons_zero, unV, decide_true, decide_false, Bool.not_true, Bool.not_false, wrOp, storeH, hset, putAt, fieldAddrV, fieldV, buildV, placesV, fillV, Try.underlying25, putAt, List.getElem_toArray, List.getElem_cons_succ, List.getElem_cons_zero, List.toList_toArray, Array.toList, List.map_cons, List.map_nil, List.take_succ_cons, List.take_zero, List.drop_succ_cons, List.drop_zero, List.length_singleton, List.nil_append, List.cons_append, List.append_nil, List.length_cons, List.length_nil, Nat.le_refl, Nat.reduceLeDiff, Nat.zero_add, ofBytes_take, ofBytes_drop, Int.reduceToNat, Int.reduceLE, Option.getD_some, Option.getD_none, Nat.reduceMul, ethV, not_true_eq_false, not_false_eq_true, decide_true, decide_false, if_true, c1]; rfl) (by simp only [tsE, tgE, beq_self_eq_true, if_true, Nat.reduceBEq, Bool.false_eq_true, if_false]; rfl) ?_
     | refine evS rfl (by simp only [tsE, tgE, beq_self_eq_true, if_true, Nat.reduceBEq, Bool.false_eq_true, if_false]; rfl) ?_
     | refine evC (by rfl) (by rfl) (by simp only [opE, evE, stE, Nat.reduceAdd,  binE, ldE, tgE, clE, ncE, szE, hgE, tyE, intBin, shiftBin, indexAddrV, convV, lenV, partV, isAggT, sliceV, boundsV, bndV, asIntV, beq_self_eq_true, if_true, Nat.reduceBEq, Bool.false_eq_true, if_false, Option.map_some, Option.map_none, Option.bind_some, ofBytes_length, ofBytes_get, Int.toNat_natCast, Int.natCast_nonneg, Nat.zero_lt_one, and_self, Nat.reduceLT, Int.reduceLT, true_and, and_true, List.getElem?_cons_zero, unV, decide_true, decide_false, Bool.not_true, Bool.not_false, fieldAddrV, fieldV, buildV, placesV, fillV, Try.underlying25, putAt, List.getElem_toArray, List.getElem_cons_succ, List.getElem_cons_zero, List.toList_toArray, Array.toList, List.map_cons, List.map_nil, List.take_succ_cons, List.take_zero, List.drop_succ_cons, List.drop_zero, List.length_singleton, List.nil_append, List.cons_append, List.append_nil, List.length_cons, List.length_nil, Nat.le_refl, Nat.reduceLeDiff, Nat.zero_add, ofBytes_take, ofBytes_drop, Int.reduceToNat, Int.reduceLE, Option.getD_some, Option.getD_none, Nat.reduceMul]; rfl) (word_run _ _ _ (evF (by simp only [tsE, tgE, beq_self_eq_true, if_true, Nat.reduceBEq, Bool.false_eq_true, if_false]; rfl) ?_))
     | refine GxJ (by rfl) (EvS.of ?_)
     | refine condF (by (simp only [evE, tsE, tgE, beq_self_eq_true, if_true, Nat.reduceBEq, Bool.false_eq_true, if_false]); first | done | fail) ?_
     | refine condT (by (simp only [evE, tsE, tgE, beq_self_eq_true, if_true, Nat.reduceBEq, Bool.false_eq_true, if_false]); first | done | fail) ?_
     )
    exact LvE (.inl rfl) rfl rfl rfl ⟨rfl, hQ⟩
  have c1 : (d > 281474976710655) = False := eq_false c1
  by_cases c2 : s > 281474976710655
  · have c2 : (s > 281474976710655) = True := eq_true c2
    repeat (first
     | with_reducible refine Ev.seq ?_
     | with_reducible refine Ev.ops ?_
     | with_reducible refine NxE ?_
     | with_reducible refine BxN ?_
     | with_reducible refine BxX ?_
     | with_reducible refine NxX ?_
     | with_reducible refine NxR ?_
     | with_reducible refine BxR ?_
     | with_reducible refine NxG ?_
     | with_reducible refine GxR ?_
     | with_reducible refine GxN ?_
     | with_reducible refine Ev.goto ?_
     | with_reducible refine Ev.block ?_
     | with_reducible refine Ev.skip ?_
     | with_reducible refine Ev.exit ?_
     | with_reducible refine Ev.ret ?_
     | with_reducible refine Ev.label ?_
     | with_reducible refine EvOps.nil ?_
     | with_reducible refine EvPlan.nil ?_
     | refine evQ rfl (by simp only [opE, evE, stE, Nat.reduceAdd,  binE, ldE, tgE, clE, ncE, szE, hgE, tyE, intBin, shiftBin, indexAddrV, convV, lenV, partV, isAggT, sliceV, boundsV, bndV, asIntV, beq_self_eq_true, if_true, Nat.reduceBEq, Bool.false_eq_true, if_false, Option.map_some, Option.map_none, Option.bind_some, ofBytes_length, ofBytes_get, Int.toNat_natCast, Int.natCast_nonneg, Nat.zero_lt_one, and_self, Nat.reduceLT, Int.reduceLT, true_and, and_true, List.getElem?_cons_zero, unV, decide_true, decide_false, Bool.not_true, Bool.not_false, fieldAddrV, fieldV, buildV, placesV, fillV, Try.underlying25, putAt, List.getElem_toArray, List.getElem_cons_succ, List.getElem_cons_zero, List.toList_toArray, Array.toList, List.map_cons, List.map_nil, List.take_succ_cons, List.take_zero, List.drop_succ_cons, List.drop_zero, List.length_singleton, List.nil_append, List.cons_append, List.append_nil, List.length_cons, List.length_nil, Nat.le_refl, Nat.reduceLeDiff, Nat.zero_add, ofBytes_take, ofBytes_drop, Int.reduceToNat, Int.reduceLE, Option.getD_some, Option.getD_none, Nat.reduceMul, ethV, not_true_eq_false, not_false_eq_true, decide_true, decide_false, if_true, c1, c2]; rfl) (by simp only [tsE, tgE, beq_self_eq_true, if_true, Nat.reduceBEq, Bool.false_eq_true, if_false]; rfl) ?_
     | refine evW rfl rfl (by simp only [opE, evE, stE, Nat.reduceAdd,  binE, ldE, tgE, clE, ncE, szE, hgE, tyE, intBin, shiftBin, indexAddrV, convV, lenV, partV, isAggT, sliceV, boundsV, bndV, asIntV, beq_self_eq_true, if_true, Nat.reduceBEq, Bool.false_eq_true, if_false, Option.map_some, Option.map_none, Option.bind_some, ofBytes_length, ofBytes_get, Int.toNat_natCast, Int.natCast_nonneg, Nat.zero_lt_one, and_self, Nat.reduceLT, Int.reduceLT, true_and, and_true, List.getElem?_cons_zero, unV, decide_true, decide_false, Bool.not_true, Bool.not_false, wrOp, storeH, hset, putAt, fieldAddrV, fieldV, buildV, placesV, fillV, Try.underlying25, putAt, List.getElem_toArray, List.getElem_cons_succ, List.getElem_cons_zero, List.toList_toArray, Array.toList, List.map_cons, List.map_nil, List.take_succ_cons, List.take_zero, List.drop_succ_cons, List.drop_zero, List.length_singleton, List.nil_append, List.cons_append, List.append_nil, List.length_cons, List.length_nil, Nat.le_refl, Nat.reduceLeDiff, Nat.zero_add, ofBytes_take, ofBytes_drop, Int.reduceToNat, Int.reduceLE, Option.getD_some, Option.getD_none, Nat.reduceMul, ethV, not_true_eq_false, not_false_eq_true, decide_true, decide_false, if_true, c1, c2]; rfl) (by simp only [tsE, tgE, beq_self_eq_true, if_true, Nat.reduceBEq, Bool.false_eq_true, if_false]; rfl) ?_
     | refine evS rfl (by simp only [tsE, tgE, beq_self_eq_true, if_true, Nat.reduceBEq, Bool.false_eq_true, if_false]; rfl) ?_
     | refine evC (by rfl) (by rfl) (by simp only [opE, evE, stE, Nat.reduceAdd,  binE, ldE, tgE, clE, ncE, szE, hgE, tyE, intBin, shiftBin, indexAddrV, convV, lenV, partV, isAggT, sliceV, boundsV, bndV, asIntV, beq_self_eq_true, if_true, Nat.reduceBEq, Bool.false_eq_true, if_false, Option.map_some, Option.map_none, Option.bind_some, ofBytes_length, ofBytes_get, Int.toNat_natCast, Int.natCast_nonneg, Nat.zero_lt_one, and_self, Nat.reduceLT, Int.reduceLT, true_and, and_true, List.getElem?_cons_zero, unV, decide_true, decide_false, Bool.not_true, Bool.not_false, fieldAddrV, fieldV, buildV, placesV, fillV, Try.underlying25, putAt, List.getElem_toArray, List.getElem_cons_succ, List.getElem_cons_zero, List.toList_toArray, Array.toList, List.map_cons, List.map_nil, List.take_succ_cons, List.take_zero, List.drop_succ_cons, List.drop_zero, List.length_singleton, List.nil_append, List.cons_append, List.append_nil, List.length_cons, List.length_nil, Nat.le_refl, Nat.reduceLeDiff, Nat.zero_add, ofBytes_take, ofBytes_drop, Int.reduceToNat, Int.reduceLE, Option.getD_some, Option.getD_none, Nat.reduceMul]; rfl) (word_run _ _ _ (evF (by simp only [tsE, tgE, beq_self_eq_true, if_true, Nat.reduceBEq, Bool.false_eq_true, if_false]; rfl) ?_))
     | refine GxJ (by rfl) (EvS.of ?_)
     | refine condF (by (simp only [evE, tsE, tgE, beq_self_eq_true, if_true, Nat.reduceBEq, Bool.false_eq_true, if_false]); first | done | fail) ?_
     | refine condT (by (simp only [evE, tsE, tgE, beq_self_eq_true, if_true, Nat.reduceBEq, Bool.false_eq_true, if_false]); first | done | fail) ?_
     )
    exact LvE (.inl rfl) rfl rfl rfl ⟨rfl, hQ⟩
  have c2 : (s > 281474976710655) = False := eq_false c2
  by_cases c3 : ¬ (0 ≤ tag ∧ tag ≤ 65535)
  · have c3 : (0 ≤ tag ∧ tag ≤ 65535) = False := eq_false c3
    repeat (first
     | with_reducible refine Ev.seq ?_
     | with_reducible refine Ev.ops ?_
     | with_reducible refine NxE ?_
     | with_reducible refine BxN ?_
     | with_reducible refine BxX ?_
     | with_reducible refine NxX ?_
     | with_reducible refine NxR ?_
     | with_reducible refine BxR ?_
     | with_reducible refine NxG ?_
     | with_reducible refine GxR ?_
     | with_reducible refine GxN ?_
     | with_reducible refine Ev.goto ?_
     | with_reducible refine Ev.block ?_
     | with_reducible refine Ev.skip ?_
     | with_reducible refine Ev.exit ?_
     | with_reducible refine Ev.ret ?_
     | with_reducible refine Ev.label ?_
     | with_reducible refine EvOps.nil ?_
     | with_reducible refine EvPlan.nil ?_
     | refine evQ rfl (by simp only [opE, evE, stE, Nat.reduceAdd,  binE, ldE, tgE, clE, ncE, szE, hgE, tyE, intBin, shiftBin, indexAddrV, convV, lenV, partV, isAggT, sliceV, boundsV, bndV, asIntV, beq_self_eq_true, if_true, Nat.reduceBEq, Bool.false_eq_true, if_false, Option.map_some, Option.map_none, Option.bind_some, ofBytes_length, ofBytes_get, Int.toNat_natCast, Int.natCast_nonneg, Nat.zero_lt_one, and_self, Nat.reduceLT, Int.reduceLT, true_and, and_true, List.getElem?_cons_zero, unV, decide_true, decide_false, Bool.not_true, Bool.not_false, fieldAddrV, fieldV, buildV, placesV, fillV, Try.underlying25, putAt, List.getElem_toArray, List.getElem_cons_succ, List.getElem_cons_zero, List.toList_toArray, Array.toList, List.map_cons, List.map_nil, List.take_succ_cons, List.take_zero, List.drop_succ_cons, List.drop_zero, List.length_singleton, List.nil_append, List.cons_append, List.append_nil, List.length_cons, List.length_nil, Nat.le_refl, Nat.reduceLeDiff, Nat.zero_add, ofBytes_take, ofBytes_drop, Int.reduceToNat, Int.reduceLE, Option.getD_some, Option.getD_none, Nat.reduceMul, ethV, not_true_eq_false, not_false_eq_true, decide_true, decide_false, if_true, c1, c2, c3]; rfl) (by simp only [tsE, tgE, beq_self_eq_true, if_true, Nat.reduceBEq, Bool.false_eq_true, if_false]; rfl) ?_
     | refine evW rfl rfl (by simp only [opE, evE, stE, Nat.reduceAdd,  binE, ldE, tgE, clE, ncE, szE, hgE, tyE, intBin, shiftBin, indexAddrV, convV, lenV, partV, isAggT, sliceV, boundsV, bndV, asIntV, beq_self_eq_true, if_true, Nat.reduceBEq, Bool.false_eq_true, if_false, Option.map_some, Option.map_none, Option.bind_some, ofBytes_length, ofBytes_get, Int.toNat_natCast, Int.natCast_nonneg, Nat.zero_lt_one, and_self, Nat.reduceLT, Int.reduceLT, true_and, and_true, List.getElem?_cons_zero, unV, decide_true, decide_false, Bool.not_true, Bool.not_false, wrOp, storeH, hset, putAt, fieldAddrV, fieldV, buildV, placesV, fillV, Try.underlying25, putAt, List.getElem_toArray, List.getElem_cons_succ, List.getElem_cons_zero, List.toList_toArray, Array.toList, List.map_cons, List.map_nil, List.take_succ_cons, List.take_zero, List.drop_succ_cons, List.drop_zero, List.length_singleton, List.nil_append, List.cons_append, List.append_nil, List.length_cons, List.length_nil, Nat.le_refl, Nat.reduceLeDiff, Nat.zero_add, ofBytes_take, ofBytes_drop, Int.reduceToNat, Int.reduceLE, Option.getD_some, Option.getD_none, Nat.reduceMul, ethV, not_true_eq_false, not_false_eq_true, decide_true, decide_false, if_true, c1, c2, c3]; rfl) (by simp only [tsE, tgE, beq_self_eq_true, if_true, Nat.reduceBEq, Bool.false_eq_true, if_false]; rfl) ?_
     | refine evS rfl (by simp only [tsE, tgE, beq_self_eq_true, if_true, Nat.reduceBEq, Bool.false_eq_true, if_false]; rfl) ?_
     | refine evC (by rfl) (by rfl) (by simp only [opE, evE, stE, Nat.reduceAdd,  binE, ldE, tgE, clE, ncE, szE, hgE, tyE, intBin, shiftBin, indexAddrV, convV, lenV, partV, isAggT, sliceV, boundsV, bndV, asIntV, beq_self_eq_true, if_true, Nat.reduceBEq, Bool.false_eq_true, if_false, Option.map_some, Option.map_none, Option.bind_some, ofBytes_length, ofBytes_get, Int.toNat_natCast, Int.natCast_nonneg, Nat.zero_lt_one, and_self, Nat.reduceLT, Int.reduceLT, true_and, and_true, List.getElem?_cons_zero, unV, decide_true, decide_false, Bool.not_true, Bool.not_false, fieldAddrV, fieldV, buildV, placesV, fillV, Try.underlying25, putAt, List.getElem_toArray, List.getElem_cons_succ, List.getElem_cons_zero, List.toList_toArray, Array.toList, List.map_cons, List.map_nil, List.take_succ_cons, List.take_zero, List.drop_succ_cons, List.drop_zero, List.length_singleton, List.nil_append, List.cons_append, List.append_nil, List.length_cons, List.length_nil, Nat.le_refl, Nat.reduceLeDiff, Nat.zero_add, ofBytes_take, ofBytes_drop, Int.reduceToNat, Int.reduceLE, Option.getD_some, Option.getD_none, Nat.reduceMul]; rfl) (word_run _ _ _ (evF (by simp only [tsE, tgE, beq_self_eq_true, if_true, Nat.reduceBEq, Bool.false_eq_true, if_false]; rfl) ?_))
     | refine GxJ (by rfl) (EvS.of ?_)
     | refine condF (by (simp only [evE, tsE, tgE, beq_self_eq_true, if_true, Nat.reduceBEq, Bool.false_eq_true, if_false]); first | done | fail) ?_
     | refine condT (by (simp only [evE, tsE, tgE, beq_self_eq_true, if_true, Nat.reduceBEq, Bool.false_eq_true, if_false]); first | done | fail) ?_
     )
    exact LvE (.inl rfl) rfl rfl rfl ⟨rfl, hQ⟩
  have c3 : (0 ≤ tag ∧ tag ≤ 65535) = True := eq_true (Classical.not_not.1 c3)
  by_cases c4 : ¬ (0 ≤ ty ∧ ty ≤ 65535)
  · have c4 : (0 ≤ ty ∧ ty ≤ 65535) = False := eq_false c4
    repeat (first
     | with_reducible refine Ev.seq ?_
     | with_reducible refine Ev.ops ?_
     | with_reducible refine NxE ?_
     | with_reducible refine BxN ?_
     | with_reducible refine BxX ?_
     | with_reducible refine NxX ?_
     | with_reducible refine NxR ?_
     | with_reducible refine BxR ?_
     | with_reducible refine NxG ?_
     | with_reducible refine GxR ?_
     | with_reducible refine GxN ?_
     | with_reducible refine Ev.goto ?_
     | with_reducible refine Ev.block ?_
     | with_reducible refine Ev.skip ?_
     | with_reducible refine Ev.exit ?_
     | with_reducible refine Ev.ret ?_
     | with_reducible refine Ev.label ?_
     | with_reducible refine EvOps.nil ?_
     | with_reducible refine EvPlan.nil ?_
     | refine evQ rfl (by simp only [opE, evE, stE, Nat.reduceAdd,  binE, ldE, tgE, clE, ncE, szE, hgE, tyE, intBin, shiftBin, indexAddrV, convV, lenV, partV, isAggT, sliceV, boundsV, bndV, asIntV, beq_self_eq_true, if_true, Nat.reduceBEq, Bool.false_eq_true, if_false, Option.map_some, Option.map_none, Option.bind_some, ofBytes_length, ofBytes_get, Int.toNat_natCast, Int.natCast_nonneg, Nat.zero_lt_one, and_self, Nat.reduceLT, Int.reduceLT, true_and, and_true, List.getElem?_cons_zero, unV, decide_true, decide_false, Bool.not_true, Bool.not_false, fieldAddrV, fieldV, buildV, placesV, fillV, Try.underlying25, putAt, List.getElem_toArray, List.getElem_cons_succ, List.getElem_cons_zero, List.toList_toArray, Array.toList, List.map_cons, List.map_nil, List.take_succ_cons, List.take_zero, List.drop_succ_cons, List.drop_zero, List.length_singleton, List.nil_append, List.cons_append, List.append_nil, List.length_cons, List.length_nil, Nat.le_refl, Nat.reduceLeDiff, Nat.zero_add, ofBytes_take, ofBytes_drop, Int.reduceToNat, Int.reduceLE, Option.getD_some, Option.getD_none, Nat.reduceMul, ethV, not_true_eq_false, not_false_eq_true, decide_true, decide_false, if_true, c1, c2, c3, c4]; rfl) (by simp only [tsE, tgE, beq_self_eq_true, if_true, Nat.reduceBEq, Bool.false_eq_true, if_false]; rfl) ?_
     | refine evW rfl rfl (by simp only [opE, evE, stE, Nat.reduceAdd,  binE, ldE, tgE, clE, ncE, szE, hgE, tyE, intBin, shiftBin, indexAddrV, convV, lenV, partV, isAggT, sliceV, boundsV, bndV, asIntV, beq_self_eq_true, if_true, Nat.reduceBEq, Bool.false_eq_true, if_false, Option.map_some, Option.map_none, Option.bind_some, ofBytes_length, ofBytes_get, Int.toNat_natCast, Int.natCast_nonneg, Nat.zero_lt_one, and_self, Nat.reduceLT, Int.reduceLT, true_and, and_true, List.getElem?_cons_zero, unV, decide_true, decide_false, Bool.not_true, Bool.not_false, wrOp, storeH, hset, putAt, fieldAddrV, fieldV, buildV, placesV, fillV, Try.underlying25, putAt, List.getElem_toArray, List.getElem_cons_succ, List.getElem_cons_zero, List.toList_toArray, Array.toList, List.map_cons, List.map_nil, List.take_succ_cons, List.take_zero, List.drop_succ_cons, List.drop_zero, List.length_singleton, List.nil_append, List.cons_append, List.append_nil, List.length_cons, List.length_nil, Nat.le_refl, Nat.reduceLeDiff, Nat.zero_add, ofBytes_take, ofBytes_drop, Int.reduceToNat, Int.reduceLE, Option.getD_some, Option.getD_none, Nat.reduceMul, ethV, not_true_eq_false, not_false_eq_true, decide_true, decide_false, if_true, c1, c2, c3, c4]; rfl) (by simp only [tsE, tgE, beq_self_eq_true, if_true, Nat.reduceBEq, Bool.false_eq_true, if_false]; rfl) ?_
     | refine evS rfl (by simp only [tsE, tgE, beq_self_eq_true, if_true, Nat.reduceBEq, Bool.false_eq_true, if_false]; rfl) ?_
     | refine evC (by rfl) (by rfl) (by simp only [opE, evE, stE, Nat.reduceAdd,  binE, ldE, tgE, clE, ncE, szE, hgE, tyE, intBin, shiftBin, indexAddrV, convV, lenV, partV, isAggT, sliceV, boundsV, bndV, asIntV, beq_self_eq_true, if_true, Nat.reduceBEq, Bool.false_eq_true, if_false, Option.map_some, Option.map_none, Option.bind_some, ofBytes_length, ofBytes_get, Int.toNat_natCast, Int.natCast_nonneg, Nat.zero_lt_one, and_self, Nat.reduceLT, Int.reduceLT, true_and, and_true, List.getElem?_cons_zero, unV, decide_true, decide_false, Bool.not_true, Bool.not_false, fieldAddrV, fieldV, buildV, placesV, fillV, Try.underlying25, putAt, List.getElem_toArray, List.getElem_cons_succ, List.getElem_cons_zero, List.toList_toArray, Array.toList, List.map_cons, List.map_nil, List.take_succ_cons, List.take_zero, List.drop_succ_cons, List.drop_zero, List.length_singleton, List.nil_append, List.cons_append, List.append_nil, List.length_cons, List.length_nil, Nat.le_refl, Nat.reduceLeDiff, Nat.zero_add, ofBytes_take, ofBytes_drop, Int.reduceToNat, Int.reduceLE, Option.getD_some, Option.getD_none, Nat.reduceMul]; rfl) (word_run _ _ _ (evF (by simp only [tsE, tgE, beq_self_eq_true, if_true, Nat.reduceBEq, Bool.false_eq_true, if_false]; rfl) ?_))
     | refine GxJ (by rfl) (EvS.of ?_)
     | refine condF (by (simp only [evE, tsE, tgE, beq_self_eq_true, if_true, Nat.reduceBEq, Bool.false_eq_true, if_false]); first | done | fail) ?_
     | refine condT (by (simp only [evE, tsE, tgE, beq_self_eq_true, if_true, Nat.reduceBEq, Bool.false_eq_true, if_false]); first | done | fail) ?_
     )
    exact LvE (.inl rfl) rfl rfl rfl ⟨rfl, hQ⟩
  have c4 : (0 ≤ ty ∧ ty ≤ 65535) = True := eq_true (Classical.not_not.1 c4)
  by_cases c5 : ty = 33024
  · subst c5
    have c5' : ((33024 : Int) == 33024) = true := rfl
    repeat (first
     | with_reducible refine Ev.seq ?_
     | with_reducible refine Ev.ops ?_
     | with_reducible refine NxE ?_
     | with_reducible refine BxN ?_
     | with_reducible refine BxX ?_
     | with_reducible refine NxX ?_
     | with_reducible refine NxR ?_
     | with_reducible refine BxR ?_
     | with_reducible refine NxG ?_
     | with_reducible refine GxR ?_
     | with_reducible refine GxN ?_
     | with_reducible refine Ev.goto ?_
     | with_reducible refine Ev.block ?_
     | with_reducible refine Ev.skip ?_
     | with_reducible refine Ev.exit ?_
     | with_reducible refine Ev.ret ?_
     | with_reducible refine Ev.label ?_
     | with_reducible refine EvOps.nil ?_
     | with_reducible refine EvPlan.nil ?_
     | refine evQ rfl (by simp only [opE, evE, stE, Nat.reduceAdd,  binE, ldE, tgE, clE, ncE, szE, hgE, tyE, intBin, shiftBin, indexAddrV, convV, lenV, partV, isAggT, sliceV, boundsV, bndV, asIntV, beq_self_eq_true, if_true, Nat.reduceBEq, Bool.false_eq_true, if_false, Option.map_some, Option.map_none, Option.bind_some, ofBytes_length, ofBytes_get, Int.toNat_natCast, Int.natCast_nonneg, Nat.zero_lt_one, and_self, Nat.reduceLT, Int.reduceLT, true_and, and_true, List.getElem?_cons_zero, unV, decide_true, decide_false, Bool.not_true, Bool.not_false, fieldAddrV, fieldV, buildV, placesV, fillV, Try.underlying25, putAt, List.getElem_toArray, List.getElem_cons_succ, List.getElem_cons_zero, List.toList_toArray, Array.toList, List.map_cons, List.map_nil, List.take_succ_cons, List.take_zero, List.drop_succ_cons, List.drop_zero, List.length_singleton, List.nil_append, List.cons_append, List.append_nil, List.length_cons, List.length_nil, Nat.le_refl, Nat.reduceLeDiff, Nat.zero_add, ofBytes_take, ofBytes_drop, Int.reduceToNat, Int.reduceLE, Option.getD_some, Option.getD_none, Nat.reduceMul, ethV, not_true_eq_false, not_false_eq_true, decide_true, decide_false, if_true, c1, c2, c3, c4, c5']; rfl) (by simp only [tsE, tgE, beq_self_eq_true, if_true, Nat.reduceBEq, Bool.false_eq_true, if_false]; rfl) ?_
     | refine evW rfl rfl (by simp only [opE, evE, stE, Nat.reduceAdd,  binE, ldE, tgE, clE, ncE, szE, hgE, tyE, intBin, shiftBin, indexAddrV, convV, lenV, partV, isAggT, sliceV, boundsV, bndV, asIntV, beq_self_eq_true, if_true, Nat.reduceBEq, Bool.false_eq_true, if_false, Option.map_some, Option.map_none, Option.bind_some, ofBytes_length, ofBytes_get, Int.toNat_natCast, Int.natCast_nonneg, Nat.zero_lt_one, and_self, Nat.reduceLT, Int.reduceLT, true_and, and_true, List.getElem?_cons_zero, unV, decide_true, decide_false, Bool.not_true, Bool.not_false, wrOp, storeH, hset, putAt, fieldAddrV, fieldV, buildV, placesV, fillV, Try.underlying25, putAt, List.getElem_toArray, List.getElem_cons_succ, List.getElem_cons_zero, List.toList_toArray, Array.toList, List.map_cons, List.map_nil, List.take_succ_cons, List.take_zero, List.drop_succ_cons, List.drop_zero, List.length_singleton, List.nil_append, List.cons_append, List.append_nil, List.length_cons, List.length_nil, Nat.le_refl, Nat.reduceLeDiff, Nat.zero_add, ofBytes_take, ofBytes_drop, Int.reduceToNat, Int.reduceLE, Option.getD_some, Option.getD_none, Nat.reduceMul, ethV, not_true_eq_false, not_false_eq_true, decide_true, decide_false, if_true, c1, c2, c3, c4, c5']; rfl) (by simp only [tsE, tgE, beq_self_eq_true, if_true, Nat.reduceBEq, Bool.false_eq_true, if_false]; rfl) ?_
     | refine evS rfl (by simp only [tsE, tgE, beq_self_eq_true, if_true, Nat.reduceBEq, Bool.false_eq_true, if_false]; rfl) ?_
     | refine evC (by rfl) (by rfl) (by simp only [opE, evE, stE, Nat.reduceAdd,  binE, ldE, tgE, clE, ncE, szE, hgE, tyE, intBin, shiftBin, indexAddrV, convV, lenV, partV, isAggT, sliceV, boundsV, bndV, asIntV, beq_self_eq_true, if_true, Nat.reduceBEq, Bool.false_eq_true, if_false, Option.map_some, Option.map_none, Option.bind_some, ofBytes_length, ofBytes_get, Int.toNat_natCast, Int.natCast_nonneg, Nat.zero_lt_one, and_self, Nat.reduceLT, Int.reduceLT, true_and, and_true, List.getElem?_cons_zero, unV, decide_true, decide_false, Bool.not_true, Bool.not_false, fieldAddrV, fieldV, buildV, placesV, fillV, Try.underlying25, putAt, List.getElem_toArray, List.getElem_cons_succ, List.getElem_cons_zero, List.toList_toArray, Array.toList, List.map_cons, List.map_nil, List.take_succ_cons, List.take_zero, List.drop_succ_cons, List.drop_zero, List.length_singleton, List.nil_append, List.cons_append, List.append_nil, List.length_cons, List.length_nil, Nat.le_refl, Nat.reduceLeDiff, Nat.zero_add, ofBytes_take, ofBytes_drop, Int.reduceToNat, Int.reduceLE, Option.getD_some, Option.getD_none, Nat.reduceMul]; rfl) (word_run _ _ _ (evF (by simp only [tsE, tgE, beq_self_eq_true, if_true, Nat.reduceBEq, Bool.false_eq_true, if_false]; rfl) ?_))
     | refine GxJ (by rfl) (EvS.of ?_)
     | refine condF (by (simp only [evE, tsE, tgE, beq_self_eq_true, if_true, Nat.reduceBEq, Bool.false_eq_true, if_false]); first | done | fail) ?_
     | refine condT (by (simp only [evE, tsE, tgE, beq_self_eq_true, if_true, Nat.reduceBEq, Bool.false_eq_true, if_false]); first | done | fail) ?_
     )
    exact LvE (.inl rfl) rfl rfl rfl ⟨rfl, hQ⟩
  have c5 : (ty == 33024) = false := by simpa using c5
  have c6 : tg = false ∧ tag ≠ 0 := by
    have h1 := of_eq_true c3
    have h2 := of_eq_true c4
    have h3 := of_eq_false c1
    have h4 := of_eq_false c2
    have h5 : ty ≠ 33024 := by simpa using c5
    cases tg
    · refine ⟨rfl, fun h => hno ⟨by omega, by omega, h1, h2, h5, .inr h⟩⟩
    · exact absurd ⟨by omega, by omega, h1, h2, h5, .inl rfl⟩ hno
  obtain ⟨rfl, c6⟩ := c6
  have c6 : (tag != 0) = true := by simpa using c6
  repeat (first
   | with_reducible refine Ev.seq ?_
   | with_reducible refine Ev.ops ?_
   | with_reducible refine NxE ?_
   | with_reducible refine BxN ?_
   | with_reducible refine BxX ?_
   | with_reducible refine NxX ?_
   | with_reducible refine NxR ?_
   | with_reducible refine BxR ?_
   | with_reducible refine NxG ?_
   | with_reducible refine GxR ?_
   | with_reducible refine GxN ?_
   | with_reducible refine Ev.goto ?_
   | with_reducible refine Ev.block ?_
   | with_reducible refine Ev.skip ?_
   | with_reducible refine Ev.exit ?_
   | with_reducible refine Ev.ret ?_
   | with_reducible refine Ev.label ?_
   | with_reducible refine EvOps.nil ?_
   | with_reducible refine EvPlan.nil ?_
   | refine evQ rfl (by simp only [opE, evE, stE, Nat.reduceAdd,  binE, ldE, tgE, clE, ncE, szE, hgE, tyE, intBin, shiftBin, indexAddrV, convV, lenV, partV, isAggT, sliceV, boundsV, bndV, asIntV, beq_self_eq_true, if_true, Nat.reduceBEq, Bool.false_eq_true, if_false, Option.map_some, Option.map_none, Option.bind_some, ofBytes_length, ofBytes_get, Int.toNat_natCast, Int.natCast_nonneg, Nat.zero_lt_one, and_self, Nat.reduceLT, Int.reduceLT, true_and, and_true, List.getElem?_cons_zero, unV, decide_true, decide_false, Bool.not_true, Bool.not_false, fieldAddrV, fieldV, buildV, placesV, fillV, Try.underlying25, putAt, List.getElem_toArray, List.getElem_cons_succ, List.getElem_cons_zero, List.toList_toArray, Array.toList, List.map_cons, List.map_nil, List.take_succ_cons, List.take_zero, List.drop_succ_cons, List.drop_zero, List.length_singleton, List.nil_append, List.cons_append, List.append_nil, List.length_cons, List.length_nil, Nat.le_refl, Nat.reduceLeDiff, Nat.zero_add, ofBytes_take, ofBytes_drop, Int.reduceToNat, Int.reduceLE, Option.getD_some, Option.getD_none, Nat.reduceMul, ethV, not_true_eq_false, not_false_eq_true, decide_true, decide_false, if_true, c1, c2, c3, c4, c5, c6]; rfl) (by simp only [tsE, tgE, beq_self_eq_true, if_true, Nat.reduceBEq, Bool.false_eq_true, if_false]; rfl) ?_
   | refine evW rfl rfl (by simp only [opE, evE, stE, Nat.reduceAdd,  binE, ldE, tgE, clE, ncE, szE, hgE, tyE, intBin, shiftBin, indexAddrV, convV, lenV, partV, isAggT, sliceV, boundsV, bndV, asIntV, beq_self_eq_true, if_true, Nat.reduceBEq, Bool.false_eq_true, if_false, Option.map_some, Option.map_none, Option.bind_some, ofBytes_length, ofBytes_get, Int.toNat_natCast, Int.natCast_nonneg, Nat.zero_lt_one, and_self, Nat.reduceLT, Int.reduceLT, true_and, and_true, List.getElem?_cons_zero, unV, decide_true, decide_false, Bool.not_true, Bool.not_false, wrOp, storeH, hset, putAt, fieldAddrV, fieldV, buildV, placesV, fillV, Try.underlying25, putAt, List.getElem_toArray, List.getElem_cons_succ, List.getElem_cons_zero, List.toList_toArray, Array.toList, List.map_cons, List.map_nil, List.take_succ_cons, List.take_zero, List.drop_succ_cons, List.drop_zero, List.length_singleton, List.nil_append, List.cons_append, List.append_nil, List.length_cons, List.length_nil, Nat.le_refl, Nat.reduceLeDiff, Nat.zero_add, ofBytes_take, ofBytes_drop, Int.reduceToNat, Int.reduceLE, Option.getD_some, Option.getD_none, Nat.reduceMul, ethV, not_true_eq_false, not_false_eq_true, decide_true, decide_false, if_true, c1, c2, c3, c4, c5, c6]; rfl) (by simp only [tsE, tgE, beq_self_eq_true, if_true, Nat.reduceBEq, Bool.false_eq_true, if_false]; rfl) ?_
   | refine evS rfl (by simp only [tsE, tgE, beq_self_eq_true, if_true, Nat.reduceBEq, Bool.false_eq_true, if_false]; rfl) ?_
   | refine evC (by rfl) (by rfl) (by simp only [opE, evE, stE, Nat.reduceAdd,  binE, ldE, tgE, clE, ncE, szE, hgE, tyE, intBin, shiftBin, indexAddrV, convV, lenV, partV, isAggT, sliceV, boundsV, bndV, asIntV, beq_self_eq_true, if_true, Nat.reduceBEq, Bool.false_eq_true, if_false, Option.map_some, Option.map_none, Option.bind_some, ofBytes_length, ofBytes_get, Int.toNat_natCast, Int.natCast_nonneg, Nat.zero_lt_one, and_self, Nat.reduceLT, Int.reduceLT, true_and, and_true, List.getElem?_cons_zero, unV, decide_true, decide_false, Bool.not_true, Bool.not_false, fieldAddrV, fieldV, buildV, placesV, fillV, Try.underlying25, putAt, List.getElem_toArray, List.getElem_cons_succ, List.getElem_cons_zero, List.toList_toArray, Array.toList, List.map_cons, List.map_nil, List.take_succ_cons, List.take_zero, List.drop_succ_cons, List.drop_zero, List.length_singleton, List.nil_append, List.cons_append, List.append_nil, List.length_cons, List.length_nil, Nat.le_refl, Nat.reduceLeDiff, Nat.zero_add, ofBytes_take, ofBytes_drop, Int.reduceToNat, Int.reduceLE, Option.getD_some, Option.getD_none, Nat.reduceMul]; rfl) (word_run _ _ _ (evF (by simp only [tsE, tgE, beq_self_eq_true, if_true, Nat.reduceBEq, Bool.false_eq_true, if_false]; rfl) ?_))
   | refine GxJ (by rfl) (EvS.of ?_)
   | refine condF (by (simp only [evE, tsE, tgE, beq_self_eq_true, if_true, Nat.reduceBEq, Bool.false_eq_true, if_false]); first | done | fail) ?_
   | refine condT (by (simp only [evE, tsE, tgE, beq_self_eq_true, if_true, Nat.reduceBEq, Bool.false_eq_true, if_false]); first | done | fail) ?_
   )
  exact LvE (.inl rfl) rfl rfl rfl ⟨rfl, hQ⟩
end Go.Proofs.Ytfjhanjpacghkaa
