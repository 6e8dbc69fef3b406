/- The bytes of heads. -/
import Derived.Test.YtfjhanjpacghkaaEtV4
import Derived.Test.YtfjhanjpacghkaaEtV5
set_option linter.unusedSimpArgs false
set_option linter.unusedVariables false
set_option maxRecDepth 100000
namespace Go.Proofs.Ytfjhanjpacghkaa
open Go Go.Vm Go.Proofs

theorem word_run (n : Int) (st : St) (Q : V → St → Prop) (hQ : Q (.bool (decide (0 ≤ n ∧ n ≤ 65535))) st) : Vm.Fn cx 20 [.int .i64 n] st Q := by
  refine fnP (t0 := [(0, .int .i64 n), (1, .any), (2, .any), (3, .any), (4, .any), (5, .any), (6, .any), (7, .any), (8, .any)]) Try.func20 rfl rfl rfl rfl rfl rfl rfl ?_
  by_cases h1 : n ≥ 0
  · by_cases h2 : n ≤ 65535
    · rw [show decide (0 ≤ n ∧ n ≤ 65535) = true from by simp; omega] at hQ
      repeat (first
       | with_reducible refine Ev.seq ?_
       | with_reducible refine Ev.ops ?_
       | with_reducible refine NxE ?_
       | with_reducible refine BxN ?_
       | with_reducible refine BxX ?_
       | with_reducible refine NxX ?_
       | with_reducible refine NxR ?_
       | with_reducible refine BxR ?_
       | with_reducible refine NxG ?_
       | with_reducible refine GxR ?_
       | with_reducible refine GxN ?_
       | with_reducible refine Ev.goto ?_
       | with_reducible refine Ev.block ?_
       | with_reducible refine Ev.skip ?_
       | with_reducible refine Ev.exit ?_
       | with_reducible refine Ev.ret ?_
       | with_reducible refine Ev.label ?_
       | with_reducible refine EvOps.nil ?_
       | with_reducible refine EvPlan.nil ?_
       | refine evQ rfl (by simp only [opE, evE, stE, Nat.reduceAdd,  binE, ldE, tgE, clE, ncE, szE, hgE, tyE, intBin, shiftBin, indexAddrV, convV, lenV, partV, isAggT, sliceV, boundsV, bndV, asIntV, beq_self_eq_true, if_true, Nat.reduceBEq, Bool.false_eq_true, if_false, Option.map_some, Option.map_none, Option.bind_some, ofBytes_length, ofBytes_get, Int.toNat_natCast, Int.natCast_nonneg, Nat.zero_lt_one, and_self, Nat.reduceLT, Int.reduceLT, true_and, and_true, List.getElem?_cons_zero, unV, decide_true, decide_false, Bool.not_true, Bool.not_false, h1, h2]; rfl) (by simp only [tsE, tgE, beq_self_eq_true, if_true, Nat.reduceBEq, Bool.false_eq_true, if_false]; rfl) ?_
       | refine evW rfl rfl (by simp only [opE, evE, stE, Nat.reduceAdd,  binE, ldE, tgE, clE, ncE, szE, hgE, tyE, intBin, shiftBin, indexAddrV, convV, lenV, partV, isAggT, sliceV, boundsV, bndV, asIntV, beq_self_eq_true, if_true, Nat.reduceBEq, Bool.false_eq_true, if_false, Option.map_some, Option.map_none, Option.bind_some, ofBytes_length, ofBytes_get, Int.toNat_natCast, Int.natCast_nonneg, Nat.zero_lt_one, and_self, Nat.reduceLT, Int.reduceLT, true_and, and_true, List.getElem?_cons_zero, unV, decide_true, decide_false, Bool.not_true, Bool.not_false, wrOp, storeH, hset, putAt, h1, h2]; rfl) (by simp only [tsE, tgE, beq_self_eq_true, if_true, Nat.reduceBEq, Bool.false_eq_true, if_false]; rfl) ?_
       | refine evS rfl (by simp only [tsE, tgE, beq_self_eq_true, if_true, Nat.reduceBEq, Bool.false_eq_true, if_false]; rfl) ?_
       )
      exact LvE (.inl rfl) rfl rfl rfl ⟨rfl, hQ⟩
    · rw [show decide (0 ≤ n ∧ n ≤ 65535) = false from by simp; omega] at hQ
      repeat (first
       | with_reducible refine Ev.seq ?_
       | with_reducible refine Ev.ops ?_
       | with_reducible refine NxE ?_
       | with_reducible refine BxN ?_
       | with_reducible refine BxX ?_
       | with_reducible refine NxX ?_
       | with_reducible refine NxR ?_
       | with_reducible refine BxR ?_
       | with_reducible refine NxG ?_
       | with_reducible refine GxR ?_
       | with_reducible refine GxN ?_
       | with_reducible refine Ev.goto ?_
       | with_reducible refine Ev.block ?_
       | with_reducible refine Ev.skip ?_
       | with_reducible refine Ev.exit ?_
       | with_reducible refine Ev.ret ?_
       | with_reducible refine Ev.label ?_
       | with_reducible refine EvOps.nil ?_
       | with_reducible refine EvPlan.nil ?_
       | refine evQ rfl (by simp only [opE, evE, stE, Nat.reduceAdd,  binE, ldE, tgE, clE, ncE, szE, hgE, tyE, intBin, shiftBin, indexAddrV, convV, lenV, partV, isAggT, sliceV, boundsV, bndV, asIntV, beq_self_eq_true, if_true, Nat.reduceBEq, Bool.false_eq_true, if_false, Option.map_some, Option.map_none, Option.bind_some, ofBytes_length, ofBytes_get, Int.toNat_natCast, Int.natCast_nonneg, Nat.zero_lt_one, and_self, Nat.reduceLT, Int.reduceLT, true_and, and_true, List.getElem?_cons_zero, unV, decide_true, decide_false, Bool.not_true, Bool.not_false, h1, h2]; rfl) (by simp only [tsE, tgE, beq_self_eq_true, if_true, Nat.reduceBEq, Bool.false_eq_true, if_false]; rfl) ?_
       | refine evW rfl rfl (by simp only [opE, evE, stE, Nat.reduceAdd,  binE, ldE, tgE, clE, ncE, szE, hgE, tyE, intBin, shiftBin, indexAddrV, convV, lenV, partV, isAggT, sliceV, boundsV, bndV, asIntV, beq_self_eq_true, if_true, Nat.reduceBEq, Bool.false_eq_true, if_false, Option.map_some, Option.map_none, Option.bind_some, ofBytes_length, ofBytes_get, Int.toNat_natCast, Int.natCast_nonneg, Nat.zero_lt_one, and_self, Nat.reduceLT, Int.reduceLT, true_and, and_true, List.getElem?_cons_zero, unV, decide_true, decide_false, Bool.not_true, Bool.not_false, wrOp, storeH, hset, putAt, h1, h2]; rfl) (by simp only [tsE, tgE, beq_self_eq_true, if_true, Nat.reduceBEq, Bool.false_eq_true, if_false]; rfl) ?_
       | refine evS rfl (by simp only [tsE, tgE, beq_self_eq_true, if_true, Nat.reduceBEq, Bool.false_eq_true, if_false]; rfl) ?_
       )
      exact LvE (.inl rfl) rfl rfl rfl ⟨rfl, hQ⟩
  · rw [show decide (0 ≤ n ∧ n ≤ 65535) = false from by simp; omega] at hQ
    repeat (first
     | with_reducible refine Ev.seq ?_
     | with_reducible refine Ev.ops ?_
     | with_reducible refine NxE ?_
     | with_reducible refine BxN ?_
     | with_reducible refine BxX ?_
     | with_reducible refine NxX ?_
     | with_reducible refine NxR ?_
     | with_reducible refine BxR ?_
     | with_reducible refine NxG ?_
     | with_reducible refine GxR ?_
     | with_reducible refine GxN ?_
     | with_reducible refine Ev.goto ?_
     | with_reducible refine Ev.block ?_
     | with_reducible refine Ev.skip ?_
     | with_reducible refine Ev.exit ?_
     | with_reducible refine Ev.ret ?_
     | with_reducible refine Ev.label ?_
     | with_reducible refine EvOps.nil ?_
     | with_reducible refine EvPlan.nil ?_
     | refine evQ rfl (by simp only [opE, evE, stE, Nat.reduceAdd,  binE, ldE, tgE, clE, ncE, szE, hgE, tyE, intBin, shiftBin, indexAddrV, convV, lenV, partV, isAggT, sliceV, boundsV, bndV, asIntV, beq_self_eq_true, if_true, Nat.reduceBEq, Bool.false_eq_true, if_false, Option.map_some, Option.map_none, Option.bind_some, ofBytes_length, ofBytes_get, Int.toNat_natCast, Int.natCast_nonneg, Nat.zero_lt_one, and_self, Nat.reduceLT, Int.reduceLT, true_and, and_true, List.getElem?_cons_zero, unV, decide_true, decide_false, Bool.not_true, Bool.not_false, h1]; rfl) (by simp only [tsE, tgE, beq_self_eq_true, if_true, Nat.reduceBEq, Bool.false_eq_true, if_false]; rfl) ?_
     | refine evW rfl rfl (by simp only [opE, evE, stE, Nat.reduceAdd,  binE, ldE, tgE, clE, ncE, szE, hgE, tyE, intBin, shiftBin, indexAddrV, convV, lenV, partV, isAggT, sliceV, boundsV, bndV, asIntV, beq_self_eq_true, if_true, Nat.reduceBEq, Bool.false_eq_true, if_false, Option.map_some, Option.map_none, Option.bind_some, ofBytes_length, ofBytes_get, Int.toNat_natCast, Int.natCast_nonneg, Nat.zero_lt_one, and_self, Nat.reduceLT, Int.reduceLT, true_and, and_true, List.getElem?_cons_zero, unV, decide_true, decide_false, Bool.not_true, Bool.not_false, wrOp, storeH, hset, putAt, h1]; rfl) (by simp only [tsE, tgE, beq_self_eq_true, if_true, Nat.reduceBEq, Bool.false_eq_true, if_false]; rfl) ?_
     | refine evS rfl (by simp only [tsE, tgE, beq_self_eq_true, if_true, Nat.reduceBEq, Bool.false_eq_true, if_false]; rfl) ?_
     )
    exact LvE (.inl rfl) rfl rfl rfl ⟨rfl, hQ⟩

theorem sixteen_run (n : Int) (st : St) (Q : V → St → Prop) (hQ : Q (.bool (decide (0 ≤ n ∧ n ≤ 65535))) st) : Vm.Fn cx 22 [.int .i64 n] st Q := by
  refine fnP (t0 := [(0, .int .i64 n), (1, .any), (2, .any), (3, .any), (4, .any), (5, .any), (6, .any), (7, .any), (8, .any)]) Try.func22 rfl rfl rfl rfl rfl rfl rfl ?_
  by_cases h1 : n ≥ 0
  · by_cases h2 : n < 65536
    · rw [show decide (0 ≤ n ∧ n ≤ 65535) = true from by simp; omega] at hQ
      repeat (first
       | with_reducible refine Ev.seq ?_
       | with_reducible refine Ev.ops ?_
       | with_reducible refine NxE ?_
       | with_reducible refine BxN ?_
       | with_reducible refine BxX ?_
       | with_reducible refine NxX ?_
       | with_reducible refine NxR ?_
       | with_reducible refine BxR ?_
       | with_reducible refine NxG ?_
       | with_reducible refine GxR ?_
       | with_reducible refine GxN ?_
       | with_reducible refine Ev.goto ?_
       | with_reducible refine Ev.block ?_
       | with_reducible refine Ev.skip ?_
       | with_reducible refine Ev.exit ?_
       | with_reducible refine Ev.ret ?_
       | with_reducible refine Ev.label ?_
       | with_reducible refine EvOps.nil ?_
       | with_reducible refine EvPlan.nil ?_
       | refine evQ rfl (by simp only [opE, evE, stE, Nat.reduceAdd,  binE, ldE, tgE, clE, ncE, szE, hgE, tyE, intBin, shiftBin, indexAddrV, convV, lenV, partV, isAggT, sliceV, boundsV, bndV, asIntV, beq_self_eq_true, if_true, Nat.reduceBEq, Bool.false_eq_true, if_false, Option.map_some, Option.map_none, Option.bind_some, ofBytes_length, ofBytes_get, Int.toNat_natCast, Int.natCast_nonneg, Nat.zero_lt_one, and_self, Nat.reduceLT, Int.reduceLT, true_and, and_true, List.getElem?_cons_zero, unV, decide_true, decide_false, Bool.not_true, Bool.not_false, h1, h2]; rfl) (by simp only [tsE, tgE, beq_self_eq_true, if_true, Nat.reduceBEq, Bool.false_eq_true, if_false]; rfl) ?_
       | refine evW rfl rfl (by simp only [opE, evE, stE, Nat.reduceAdd,  binE, ldE, tgE, clE, ncE, szE, hgE, tyE, intBin, shiftBin, indexAddrV, convV, lenV, partV, isAggT, sliceV, boundsV, bndV, asIntV, beq_self_eq_true, if_true, Nat.reduceBEq, Bool.false_eq_true, if_false, Option.map_some, Option.map_none, Option.bind_some, ofBytes_length, ofBytes_get, Int.toNat_natCast, Int.natCast_nonneg, Nat.zero_lt_one, and_self, Nat.reduceLT, Int.reduceLT, true_and, and_true, List.getElem?_cons_zero, unV, decide_true, decide_false, Bool.not_true, Bool.not_false, wrOp, storeH, hset, putAt, h1, h2]; rfl) (by simp only [tsE, tgE, beq_self_eq_true, if_true, Nat.reduceBEq, Bool.false_eq_true, if_false]; rfl) ?_
       | refine evS rfl (by simp only [tsE, tgE, beq_self_eq_true, if_true, Nat.reduceBEq, Bool.false_eq_true, if_false]; rfl) ?_
       )
      exact LvE (.inl rfl) rfl rfl rfl ⟨rfl, hQ⟩
    · rw [show decide (0 ≤ n ∧ n ≤ 65535) = false from by simp; omega] at hQ
      repeat (first
       | with_reducible refine Ev.seq ?_
       | with_reducible refine Ev.ops ?_
       | with_reducible refine NxE ?_
       | with_reducible refine BxN ?_
       | with_reducible refine BxX ?_
       | with_reducible refine NxX ?_
       | with_reducible refine NxR ?_
       | with_reducible refine BxR ?_
       | with_reducible refine NxG ?_
       | with_reducible refine GxR ?_
       | with_reducible refine GxN ?_
       | with_reducible refine Ev.goto ?_
       | with_reducible refine Ev.block ?_
       | with_reducible refine Ev.skip ?_
       | with_reducible refine Ev.exit ?_
       | with_reducible refine Ev.ret ?_
       | with_reducible refine Ev.label ?_
       | with_reducible refine EvOps.nil ?_
       | with_reducible refine EvPlan.nil ?_
       | refine evQ rfl (by simp only [opE, evE, stE, Nat.reduceAdd,  binE, ldE, tgE, clE, ncE, szE, hgE, tyE, intBin, shiftBin, indexAddrV, convV, lenV, partV, isAggT, sliceV, boundsV, bndV, asIntV, beq_self_eq_true, if_true, Nat.reduceBEq, Bool.false_eq_true, if_false, Option.map_some, Option.map_none, Option.bind_some, ofBytes_length, ofBytes_get, Int.toNat_natCast, Int.natCast_nonneg, Nat.zero_lt_one, and_self, Nat.reduceLT, Int.reduceLT, true_and, and_true, List.getElem?_cons_zero, unV, decide_true, decide_false, Bool.not_true, Bool.not_false, h1, h2]; rfl) (by simp only [tsE, tgE, beq_self_eq_true, if_true, Nat.reduceBEq, Bool.false_eq_true, if_false]; rfl) ?_
       | refine evW rfl rfl (by simp only [opE, evE, stE, Nat.reduceAdd,  binE, ldE, tgE, clE, ncE, szE, hgE, tyE, intBin, shiftBin, indexAddrV, convV, lenV, partV, isAggT, sliceV, boundsV, bndV, asIntV, beq_self_eq_true, if_true, Nat.reduceBEq, Bool.false_eq_true, if_false, Option.map_some, Option.map_none, Option.bind_some, ofBytes_length, ofBytes_get, Int.toNat_natCast, Int.natCast_nonneg, Nat.zero_lt_one, and_self, Nat.reduceLT, Int.reduceLT, true_and, and_true, List.getElem?_cons_zero, unV, decide_true, decide_false, Bool.not_true, Bool.not_false, wrOp, storeH, hset, putAt, h1, h2]; rfl) (by simp only [tsE, tgE, beq_self_eq_true, if_true, Nat.reduceBEq, Bool.false_eq_true, if_false]; rfl) ?_
       | refine evS rfl (by simp only [tsE, tgE, beq_self_eq_true, if_true, Nat.reduceBEq, Bool.false_eq_true, if_false]; rfl) ?_
       )
      exact LvE (.inl rfl) rfl rfl rfl ⟨rfl, hQ⟩
  · rw [show decide (0 ≤ n ∧ n ≤ 65535) = false from by simp; omega] at hQ
    repeat (first
     | with_reducible refine Ev.seq ?_
     | with_reducible refine Ev.ops ?_
     | with_reducible refine NxE ?_
     | with_reducible refine BxN ?_
     | with_reducible refine BxX ?_
     | with_reducible refine NxX ?_
     | with_reducible refine NxR ?_
     | with_reducible refine BxR ?_
     | with_reducible refine NxG ?_
     | with_reducible refine GxR ?_
     | with_reducible refine GxN ?_
     | with_reducible refine Ev.goto ?_
     | with_reducible refine Ev.block ?_
     | with_reducible refine Ev.skip ?_
     | with_reducible refine Ev.exit ?_
     | with_reducible refine Ev.ret ?_
     | with_reducible refine Ev.label ?_
     | with_reducible refine EvOps.nil ?_
     | with_reducible refine EvPlan.nil ?_
     | refine evQ rfl (by simp only [opE, evE, stE, Nat.reduceAdd,  binE, ldE, tgE, clE, ncE, szE, hgE, tyE, intBin, shiftBin, indexAddrV, convV, lenV, partV, isAggT, sliceV, boundsV, bndV, asIntV, beq_self_eq_true, if_true, Nat.reduceBEq, Bool.false_eq_true, if_false, Option.map_some, Option.map_none, Option.bind_some, ofBytes_length, ofBytes_get, Int.toNat_natCast, Int.natCast_nonneg, Nat.zero_lt_one, and_self, Nat.reduceLT, Int.reduceLT, true_and, and_true, List.getElem?_cons_zero, unV, decide_true, decide_false, Bool.not_true, Bool.not_false, h1]; rfl) (by simp only [tsE, tgE, beq_self_eq_true, if_true, Nat.reduceBEq, Bool.false_eq_true, if_false]; rfl) ?_
     | refine evW rfl rfl (by simp only [opE, evE, stE, Nat.reduceAdd,  binE, ldE, tgE, clE, ncE, szE, hgE, tyE, intBin, shiftBin, indexAddrV, convV, lenV, partV, isAggT, sliceV, boundsV, bndV, asIntV, beq_self_eq_true, if_true, Nat.reduceBEq, Bool.false_eq_true, if_false, Option.map_some, Option.map_none, Option.bind_some, ofBytes_length, ofBytes_get, Int.toNat_natCast, Int.natCast_nonneg, Nat.zero_lt_one, and_self, Nat.reduceLT, Int.reduceLT, true_and, and_true, List.getElem?_cons_zero, unV, decide_true, decide_false, Bool.not_true, Bool.not_false, wrOp, storeH, hset, putAt, h1]; rfl) (by simp only [tsE, tgE, beq_self_eq_true, if_true, Nat.reduceBEq, Bool.false_eq_true, if_false]; rfl) ?_
     | refine evS rfl (by simp only [tsE, tgE, beq_self_eq_true, if_true, Nat.reduceBEq, Bool.false_eq_true, if_false]; rfl) ?_
     )
    exact LvE (.inl rfl) rfl rfl rfl ⟨rfl, hQ⟩
end Go.Proofs.Ytfjhanjpacghkaa
