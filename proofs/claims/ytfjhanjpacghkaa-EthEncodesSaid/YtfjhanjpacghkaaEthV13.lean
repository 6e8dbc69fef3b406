/- The head of any bytes: every case. -/
import Derived.Test.YtfjhanjpacghkaaEthV10
import Derived.Test.YtfjhanjpacghkaaEthV12
set_option linter.unusedSimpArgs false
set_option linter.unusedVariables false
set_option maxRecDepth 100000
namespace Go.Proofs.Ytfjhanjpacghkaa
open Go Go.Vm Go.Proofs

theorem app_none (u : Tip) (st : St) : appendV cx st 22 (.sl .full []) (.sl u (ofBytes [])) = some (.sl .full [], st) := by
  simp only [appendV, tyE, addedV, szE, if_true]
  rfl

set_option maxHeartbeats 4000000 in
theorem heads_empty (u : Tip) (hn : ([] : List UInt8).length ≤ maxLen) (hL : ([] : List UInt8).length ≤ 2 ^ 47) (hu : unown (.sl u (ofBytes [])) = .sl u (ofBytes []))  (hv : headV [] = .tup [ethV 0 0 false 0 0, .int .i64 0, .int .i64 20]) (st : St) : Vm.Fn cx 3 [.sl u (ofBytes [])] st (fun v _ => v = .bool true) := by
  refine fnP (t0 := [(0, .sl u (ofBytes [])), (1, .any), (2, .any), (3, .any), (4, .any), (5, .any), (6, .any), (7, .any), (8, .any), (9, .any), (10, .any), (11, .any), (12, .any), (13, .any), (14, .any), (15, .any), (16, .any), (17, .any), (18, .any), (19, .any), (20, .any), (21, .any), (22, .any), (23, .any), (24, .any), (25, .any), (26, .any), (27, .any), (28, .any), (29, .any), (30, .any), (31, .any), (32, .any), (33, .any), (34, .any), (35, .any), (36, .any), (37, .any), (38, .any), (39, .any), (40, .any), (41, .any), (42, .any), (43, .any), (44, .any), (45, .any), (46, .any), (47, .any), (48, .any), (49, .any), (50, .any), (51, .any), (52, .any), (53, .any), (54, .any), (55, .any), (56, .any), (57, .any), (58, .any), (59, .any), (60, .any), (61, .any), (62, .any), (63, .any), (64, .any), (65, .any), (66, .any), (67, .any)]) Try.func3 rfl rfl rfl rfl rfl ?_ ?_ ?_
  · rw [List.map_cons, hu]; cases u <;> simp [unown, unownCell, pureVs, pureV, pureVs_ofBytes] at hu ⊢
  · rw [List.map_cons, hu]; rfl
  have ha := app_none u
  repeat (first
   | with_reducible refine Ev.seq ?_
   | with_reducible refine Ev.ops ?_
   | with_reducible refine NxE ?_
   | with_reducible refine BxN ?_
   | with_reducible refine BxX ?_
   | with_reducible refine NxX ?_
   | with_reducible refine NxR ?_
   | with_reducible refine BxR ?_
   | with_reducible refine NxG ?_
   | with_reducible refine GxR ?_
   | with_reducible refine GxN ?_
   | with_reducible refine Ev.goto ?_
   | with_reducible refine Ev.block ?_
   | with_reducible refine Ev.skip ?_
   | with_reducible refine Ev.exit ?_
   | with_reducible refine Ev.ret ?_
   | with_reducible refine Ev.label ?_
   | with_reducible refine EvOps.nil ?_
   | with_reducible refine EvPlan.nil ?_
   | refine Ev.drawn (by decide +kernel) (l := [0, 1, 2, 3, 4, 5, 6, 7, 8, 9, 10, 11]) (by decide +kernel) ?_
   | refine evQ rfl (by simp only [opE, evE, stE, Nat.reduceAdd,  binE, ldE, tgE, clE, ncE, szE, hgE, tyE, intBin, shiftBin, indexAddrV, convV, lenV, partV, isAggT, sliceV, boundsV, bndV, asIntV, beq_self_eq_true, if_true, Nat.reduceBEq, Bool.false_eq_true, if_false, Option.map_some, Option.map_none, Option.bind_some, ofBytes_length, ofBytes_get, Int.toNat_natCast, Int.natCast_nonneg, Nat.zero_lt_one, and_self, Nat.reduceLT, Int.reduceLT, true_and, and_true, List.getElem?_cons_zero, unV, decide_true, decide_false, Bool.not_true, Bool.not_false, fieldAddrV, fieldV, buildV, placesV, fillV, Try.underlying25, putAt, List.getElem_toArray, List.getElem_cons_succ, List.getElem_cons_zero, List.toList_toArray, Array.toList, List.map_cons, List.map_nil, List.take_succ_cons, List.take_zero, List.drop_succ_cons, List.drop_zero, List.length_singleton, List.nil_append, List.cons_append, List.append_nil, List.length_cons, List.length_nil, Nat.le_refl, Nat.reduceLeDiff, Nat.zero_add, ofBytes_take, ofBytes_drop, Int.reduceToNat, Int.reduceLE, Option.getD_some, Option.getD_none, Nat.reduceMul, ethV, buildSliceV, setAll, List.replicate_zero,  ha,  wrOp, eth_eq, toBytes_ofBytes, isU8, strBin, not_true_eq_false, not_false_eq_true, decide_true, decide_false, if_true, bne_self_eq_false, Bool.not_true, Bool.not_false, List.isEmpty_nil, if_true, Int.reduceBNe]; rfl) (by simp only [tsE, tgE, beq_self_eq_true, if_true, Nat.reduceBEq, Bool.false_eq_true, if_false]; rfl) ?_
   | refine evW rfl rfl (by simp only [opE, evE, stE, Nat.reduceAdd,  binE, ldE, tgE, clE, ncE, szE, hgE, tyE, intBin, shiftBin, indexAddrV, convV, lenV, partV, isAggT, sliceV, boundsV, bndV, asIntV, beq_self_eq_true, if_true, Nat.reduceBEq, Bool.false_eq_true, if_false, Option.map_some, Option.map_none, Option.bind_some, ofBytes_length, ofBytes_get, Int.toNat_natCast, Int.natCast_nonneg, Nat.zero_lt_one, and_self, Nat.reduceLT, Int.reduceLT, true_and, and_true, List.getElem?_cons_zero, unV, decide_true, decide_false, Bool.not_true, Bool.not_false, wrOp, storeH, hset, putAt, fieldAddrV, fieldV, buildV, placesV, fillV, Try.underlying25, putAt, List.getElem_toArray, List.getElem_cons_succ, List.getElem_cons_zero, List.toList_toArray, Array.toList, List.map_cons, List.map_nil, List.take_succ_cons, List.take_zero, List.drop_succ_cons, List.drop_zero, List.length_singleton, List.nil_append, List.cons_append, List.append_nil, List.length_cons, List.length_nil, Nat.le_refl, Nat.reduceLeDiff, Nat.zero_add, ofBytes_take, ofBytes_drop, Int.reduceToNat, Int.reduceLE, Option.getD_some, Option.getD_none, Nat.reduceMul, ethV, buildSliceV, setAll, List.replicate_zero,  ha,  wrOp, eth_eq, toBytes_ofBytes, isU8, strBin, not_true_eq_false, not_false_eq_true, decide_true, decide_false, if_true, bne_self_eq_false, Bool.not_true, Bool.not_false, List.isEmpty_nil, if_true, Int.reduceBNe]; rfl) (by simp only [tsE, tgE, beq_self_eq_true, if_true, Nat.reduceBEq, Bool.false_eq_true, if_false]; rfl) ?_
   | refine evS rfl (by simp only [tsE, tgE, beq_self_eq_true, if_true, Nat.reduceBEq, Bool.false_eq_true, if_false]; rfl) ?_
   | refine epS (by simp only [List.getElem?_toArray, List.getElem?_cons_zero, List.getElem?_cons_succ]; rfl) (by rfl) (by simp only [tsE, tgE, beq_self_eq_true, if_true, Nat.reduceBEq, Bool.false_eq_true, if_false]; rfl) ?_
   | refine epQ (by simp only [List.getElem?_toArray, List.getElem?_cons_zero, List.getElem?_cons_succ]; rfl) (by decide +kernel) (by rfl) (by simp only [opE, evE, stE, Nat.reduceAdd,  binE, ldE, tgE, clE, ncE, szE, hgE, tyE, intBin, shiftBin, indexAddrV, convV, lenV, partV, isAggT, sliceV, boundsV, bndV, asIntV, beq_self_eq_true, if_true, Nat.reduceBEq, Bool.false_eq_true, if_false, Option.map_some, Option.map_none, Option.bind_some, ofBytes_length, ofBytes_get, Int.toNat_natCast, Int.natCast_nonneg, Nat.zero_lt_one, and_self, Nat.reduceLT, Int.reduceLT, true_and, and_true, List.getElem?_cons_zero, unV, decide_true, decide_false, Bool.not_true, Bool.not_false, fieldAddrV, fieldV, buildV, placesV, fillV, Try.underlying25, putAt, List.getElem_toArray, List.getElem_cons_succ, List.getElem_cons_zero, List.toList_toArray, Array.toList, List.map_cons, List.map_nil, List.take_succ_cons, List.take_zero, List.drop_succ_cons, List.drop_zero, List.length_singleton, List.nil_append, List.cons_append, List.append_nil, List.length_cons, List.length_nil, Nat.le_refl, Nat.reduceLeDiff, Nat.zero_add, ofBytes_take, ofBytes_drop, Int.reduceToNat, Int.reduceLE, Option.getD_some, Option.getD_none, Nat.reduceMul, ethV, buildSliceV, setAll, List.replicate_zero,  ha,  wrOp, eth_eq, toBytes_ofBytes, isU8, strBin, not_true_eq_false, not_false_eq_true, decide_true, decide_false, if_true, bne_self_eq_false, Bool.not_true, Bool.not_false, List.isEmpty_nil, if_true, Int.reduceBNe]; rfl) (by simp only [tsE, tgE, beq_self_eq_true, if_true, Nat.reduceBEq, Bool.false_eq_true, if_false]; rfl) ?_
   | refine epW (by simp only [List.getElem?_toArray, List.getElem?_cons_zero, List.getElem?_cons_succ]; rfl) (by decide +kernel) (by rfl) (by rfl) (by simp only [opE, evE, stE, Nat.reduceAdd,  binE, ldE, tgE, clE, ncE, szE, hgE, tyE, intBin, shiftBin, indexAddrV, convV, lenV, partV, isAggT, sliceV, boundsV, bndV, asIntV, beq_self_eq_true, if_true, Nat.reduceBEq, Bool.false_eq_true, if_false, Option.map_some, Option.map_none, Option.bind_some, ofBytes_length, ofBytes_get, Int.toNat_natCast, Int.natCast_nonneg, Nat.zero_lt_one, and_self, Nat.reduceLT, Int.reduceLT, true_and, and_true, List.getElem?_cons_zero, unV, decide_true, decide_false, Bool.not_true, Bool.not_false, wrOp, storeH, hset, putAt, fieldAddrV, fieldV, buildV, placesV, fillV, Try.underlying25, putAt, List.getElem_toArray, List.getElem_cons_succ, List.getElem_cons_zero, List.toList_toArray, Array.toList, List.map_cons, List.map_nil, List.take_succ_cons, List.take_zero, List.drop_succ_cons, List.drop_zero, List.length_singleton, List.nil_append, List.cons_append, List.append_nil, List.length_cons, List.length_nil, Nat.le_refl, Nat.reduceLeDiff, Nat.zero_add, ofBytes_take, ofBytes_drop, Int.reduceToNat, Int.reduceLE, Option.getD_some, Option.getD_none, Nat.reduceMul, ethV, buildSliceV, setAll, List.replicate_zero,  ha,  wrOp, eth_eq, toBytes_ofBytes, isU8, strBin, not_true_eq_false, not_false_eq_true, decide_true, decide_false, if_true, bne_self_eq_false, Bool.not_true, Bool.not_false, List.isEmpty_nil, if_true, Int.reduceBNe]; rfl) (l := []) (by decide +kernel) (by simp only [tsE, tgE, beq_self_eq_true, if_true, Nat.reduceBEq, Bool.false_eq_true, if_false]; rfl) (by rfl) ?_
   | refine epL (by simp only [List.getElem?_toArray, List.getElem?_cons_zero, List.getElem?_cons_succ]; rfl) (by decide +kernel) (by rfl) (by rfl) (by simp only [opE, evE, stE, Nat.reduceAdd,  binE, ldE, tgE, clE, ncE, szE, hgE, tyE, intBin, shiftBin, indexAddrV, convV, lenV, partV, isAggT, sliceV, boundsV, bndV, asIntV, beq_self_eq_true, if_true, Nat.reduceBEq, Bool.false_eq_true, if_false, Option.map_some, Option.map_none, Option.bind_some, ofBytes_length, ofBytes_get, Int.toNat_natCast, Int.natCast_nonneg, Nat.zero_lt_one, and_self, Nat.reduceLT, Int.reduceLT, true_and, and_true, List.getElem?_cons_zero, unV, decide_true, decide_false, Bool.not_true, Bool.not_false, fieldAddrV, fieldV, buildV, placesV, fillV, Try.underlying25, putAt, List.getElem_toArray, List.getElem_cons_succ, List.getElem_cons_zero, List.toList_toArray, Array.toList, List.map_cons, List.map_nil, List.take_succ_cons, List.take_zero, List.drop_succ_cons, List.drop_zero, List.length_singleton, List.nil_append, List.cons_append, List.append_nil, List.length_cons, List.length_nil, Nat.le_refl, Nat.reduceLeDiff, Nat.zero_add, ofBytes_take, ofBytes_drop, Int.reduceToNat, Int.reduceLE, Option.getD_some, Option.getD_none, Nat.reduceMul, ethV, buildSliceV, setAll, List.replicate_zero,  ha,  wrOp, eth_eq, toBytes_ofBytes, isU8, strBin, not_true_eq_false, not_false_eq_true, decide_true, decide_false, if_true, bne_self_eq_false, Bool.not_true, Bool.not_false, List.isEmpty_nil, if_true, Int.reduceBNe]; rfl) (l := []) (by decide +kernel) (by simp only [tsE, tgE, beq_self_eq_true, if_true, Nat.reduceBEq, Bool.false_eq_true, if_false]; rfl) (by rfl) ?_
   | refine evC (by rfl) (by rfl) (by (simp only [opE, evE, stE, Nat.reduceAdd,  binE, ldE, tgE, clE, ncE, szE, hgE, tyE, intBin, shiftBin, indexAddrV, convV, lenV, partV, isAggT, sliceV, boundsV, bndV, asIntV, beq_self_eq_true, if_true, Nat.reduceBEq, Bool.false_eq_true, if_false, Option.map_some, Option.map_none, Option.bind_some, ofBytes_length, ofBytes_get, Int.toNat_natCast, Int.natCast_nonneg, Nat.zero_lt_one, and_self, Nat.reduceLT, Int.reduceLT, true_and, and_true, List.getElem?_cons_zero, unV, decide_true, decide_false, Bool.not_true, Bool.not_false, fieldAddrV, fieldV, buildV, placesV, fillV, Try.underlying25, putAt, List.getElem_toArray, List.getElem_cons_succ, List.getElem_cons_zero, List.toList_toArray, Array.toList, List.map_cons, List.map_nil, List.take_succ_cons, List.take_zero, List.drop_succ_cons, List.drop_zero, List.length_singleton, List.nil_append, List.cons_append, List.append_nil, List.length_cons, List.length_nil, Nat.le_refl, Nat.reduceLeDiff, Nat.zero_add, ofBytes_take, ofBytes_drop, Int.reduceToNat, Int.reduceLE, Option.getD_some, Option.getD_none, Nat.reduceMul, ethV, buildSliceV, setAll, List.replicate_zero,  ha, wrOp, eth_eq, toBytes_ofBytes, isU8, strBin, not_true_eq_false, not_false_eq_true, decide_true, decide_false, if_true, bne_self_eq_false, Bool.not_true, Bool.not_false]) <;> rfl) (ethHead_run2 _ _ hn _ hv _ (evF (by simp only [tsE, tgE, beq_self_eq_true, if_true, Nat.reduceBEq, Bool.false_eq_true, if_false]; rfl) ?_))
   | refine evC (by rfl) (by rfl) (by (simp only [opE, evE, stE, Nat.reduceAdd,  binE, ldE, tgE, clE, ncE, szE, hgE, tyE, intBin, shiftBin, indexAddrV, convV, lenV, partV, isAggT, sliceV, boundsV, bndV, asIntV, beq_self_eq_true, if_true, Nat.reduceBEq, Bool.false_eq_true, if_false, Option.map_some, Option.map_none, Option.bind_some, ofBytes_length, ofBytes_get, Int.toNat_natCast, Int.natCast_nonneg, Nat.zero_lt_one, and_self, Nat.reduceLT, Int.reduceLT, true_and, and_true, List.getElem?_cons_zero, unV, decide_true, decide_false, Bool.not_true, Bool.not_false, fieldAddrV, fieldV, buildV, placesV, fillV, Try.underlying25, putAt, List.getElem_toArray, List.getElem_cons_succ, List.getElem_cons_zero, List.toList_toArray, Array.toList, List.map_cons, List.map_nil, List.take_succ_cons, List.take_zero, List.drop_succ_cons, List.drop_zero, List.length_singleton, List.nil_append, List.cons_append, List.append_nil, List.length_cons, List.length_nil, Nat.le_refl, Nat.reduceLeDiff, Nat.zero_add, ofBytes_take, ofBytes_drop, Int.reduceToNat, Int.reduceLE, Option.getD_some, Option.getD_none, Nat.reduceMul, ethV, buildSliceV, setAll, List.replicate_zero,  ha, wrOp, eth_eq, toBytes_ofBytes, isU8, strBin, not_true_eq_false, not_false_eq_true, decide_true, decide_false, if_true, bne_self_eq_false, Bool.not_true, Bool.not_false]) <;> rfl) (refHead_run2 _ _ hn _ hv _ (evF (by simp only [tsE, tgE, beq_self_eq_true, if_true, Nat.reduceBEq, Bool.false_eq_true, if_false]; rfl) ?_))
   | refine evC (by rfl) (by rfl) (by rfl) (lives_run _ _ (evF (by simp only [tsE, tgE, beq_self_eq_true, if_true, Nat.reduceBEq, Bool.false_eq_true, if_false]; rfl) ?_))
   | refine GxJ (by rfl) (EvS.of ?_)
   | refine condF (by (simp only [evE, tsE, tgE, beq_self_eq_true, if_true, Nat.reduceBEq, Bool.false_eq_true, if_false]); first | done | fail) ?_
   | refine condT (by (simp only [evE, tsE, tgE, beq_self_eq_true, if_true, Nat.reduceBEq, Bool.false_eq_true, if_false]); first | done | fail) ?_
   )
  exact LvE (.inl rfl) rfl rfl rfl ⟨rfl, rfl⟩

theorem noHead_k (bs : List UInt8) : (∃ k : Int, (k != 0) = true ∧ headV bs = .tup [ethV 0 0 false 0 0, .int .i64 0, .int .i64 k]) ∨ (14 ≤ bs.length ∧ tyL bs 12 ≠ 33024 ∧ headV bs = .tup [ethV (nL bs 0 6) (nL bs 6 12) false 0 (tyL bs 12), .int .i64 14, .int .i64 0]) ∨
    (18 ≤ bs.length ∧ tyL bs 12 = 33024 ∧ tyL bs 16 ≠ 33024 ∧ headV bs = .tup [ethV (nL bs 0 6) (nL bs 6 12) true (tyL bs 14) (tyL bs 16), .int .i64 18, .int .i64 0]) := by
  unfold headV noHead
  split
  · exact .inl ⟨3, rfl, rfl⟩
  · split
    · exact .inl ⟨20, rfl, rfl⟩
    · split
      · rename_i h3; exact .inr (.inl ⟨by omega, h3, rfl⟩)
      · rename_i h3
        split
        · exact .inl ⟨20, rfl, rfl⟩
        · split
          · exact .inl ⟨21, rfl, rfl⟩
          · rename_i h5; exact .inr (.inr ⟨by omega, Classical.not_not.1 h3, h5, rfl⟩)

/-- **The law of heads, for the evaluator.** -/
theorem heads_run (u : Tip) (bs : List UInt8) (hn : bs.length ≤ maxLen) (hL : bs.length ≤ 2 ^ 47) (hu : unown (.sl u (ofBytes bs)) = .sl u (ofBytes bs)) (st : St) : Vm.Fn cx 3 [.sl u (ofBytes bs)] st (fun v _ => v = .bool true) := by
  by_cases hne : bs = []
  · subst hne; exact heads_empty u hn hL hu rfl st
  · rcases noHead_k bs with ⟨k, hk, hv⟩ | ⟨h1, h3, hv⟩ | ⟨h1, h3, h5, hv⟩
    · exact heads_no u bs hn hL hu hne k hk hv st
    · obtain ⟨ok, hE⟩ := enc_plain h1 h3
      exact heads_plain u bs hn hL hu hne _ _ 0 _ (mac_le (by omega)).1 (mac_le (by omega)).1 ok (by omega) hE hv st
    · obtain ⟨ok, hE⟩ := enc_tagged h1 h3 h5
      exact heads_tagged u bs hn hL hu hne _ _ _ _ (mac_le (by omega)).1 (mac_le (by omega)).1 ok (by omega) hE hv st
end Go.Proofs.Ytfjhanjpacghkaa
