/- Two flows, placed: the walk. -/
import Derived.Test.YtbgalenfbmaceaaGreatDoorDeV11
set_option linter.unusedSimpArgs false
set_option linter.unusedVariables false
set_option maxRecDepth 1000000
namespace Go.Proofs.YtbgalenfbmaceaaGreatDoor.D
open Go Go.Vm Go.Proofs Go.Proofs.YtbgalenfbmaceaaGreatDoor

set_option maxHeartbeats 8000000 in
theorem placeLt (a b : Nat) (ha : a < 64) (hb : b < 64) (h : a < b) (st : St) : FnS cw 8 [flows (a : Nat) (b : Nat)] st (.tup [.sl .none [.agg [.int .i64 (a : Nat), .int .i64 0, .sl .none [], .sl .none [actGo (b : Nat)], .str (keyT a)], .agg [.int .i64 (b : Nat), .int .i64 0, .sl .none [], .sl .none [actClone, actGo (a : Nat)], .str (keyT b)]], .int .i64 0]) st := by
  have hk := keyLt hb h
  have hne : (keyT b == keyT a) = false := hk.2.2
  have hby : ∀ st, FnS cw 18 [.agg [.int .i64 (b : Nat), .int .i64 0, .sl .none [], .sl .none [actClone, actGo (a : Nat)], .str (keyT b)], .agg [.int .i64 (a : Nat), .int .i64 0, .sl .none [], .sl .none [actGo (b : Nat)], .str (keyT a)]] st (.int .i64 (1)) st := fun st => byKey rfl rfl (fun st => cmpGt hk.2.1 hk.2.2 st) st
  have hso : FnS cw 17 [.msl 4 0 2 18446744073709551622, .func (.func 18) [] []] ⟨[(4, .cells [.int .i64 (a : Nat), .int .i64 0, .sl .none [], .sl .none [actGo (b : Nat)], .str (keyT a), .int .i64 (b : Nat), .int .i64 0, .sl .none [], .sl .none [actClone, actGo (a : Nat)], .str (keyT b)]), (3, .cells [.int .i64 (b : Nat), .int .i64 0, .sl .none [], .sl .none [actClone, actGo (a : Nat)]]), (1, .cells [.int .i64 (a : Nat), .int .i64 0, .sl .none [], .sl .none [actGo (b : Nat)]]), (0, .map [(.str (keyT a), .bool true), (.str (keyT b), .bool true)])], 5⟩ (.tup []) ⟨[(4, .cells [.int .i64 (a : Nat), .int .i64 0, .sl .none [], .sl .none [actGo (b : Nat)], .str (keyT a), .int .i64 (b : Nat), .int .i64 0, .sl .none [], .sl .none [actClone, actGo (a : Nat)], .str (keyT b)]), (3, .cells [.int .i64 (b : Nat), .int .i64 0, .sl .none [], .sl .none [actClone, actGo (a : Nat)]]), (1, .cells [.int .i64 (a : Nat), .int .i64 0, .sl .none [], .sl .none [actGo (b : Nat)]]), (0, .map [(.str (keyT a), .bool true), (.str (keyT b), .bool true)])], 5⟩ := sortS rfl (sortKeep (by rfl) rfl hby)
  have hcA := checkA a b ha hb
  have hcB := checkB a b ha hb
  have hkA := keyA (b : Nat) a ha
  have hkB := keyB (a : Nat) b hb
  have ua := fun es k es2 h => up86 [] es k es2 h
  have u1 := up86 [] [] (keyT a) _ (setE0 _)
  have u2 := up86 [] [(.str (keyT a), .bool true)] (keyT b) _ (setE1 hne)
  have l1 := lk0 (keyT a)
  have l2 := lk1 hne
  have hx1 := ap1 a b
  have hx2 := ap2 a b
  have hsA := bsA a b (keyT a)
  have hsB := bsB a b (keyT b)
  unfold flows flowA flowB at *
  generalize keyT a = ka at *
  generalize keyT b = kb at *
  refine goP Tryz.func8 rfl rfl rfl rfl ?_ ?_
  · rfl
  intro t ht
  have a0 : tget t 0 = .sl .full [.agg [.int .i64 (a : Nat), .int .i64 0, .sl .none [], .sl .none [actGo (b : Nat)]], .agg [.int .i64 (b : Nat), .int .i64 0, .sl .none [], .sl .none [actClone, actGo (a : Nat)]]] := ht 0 _ rfl
  clear ht
  have ex := And.intro @a0 (And.intro @hpB (And.intro @hpE (And.intro @zvE @zvF)))
  repeat' (first
   | (with_reducible refine isO ?_); first | refine mvA (h := ?_) | refine asA (h := ?_) | refine quA (h := ?_) | refine wnA (h := ?_) | refine waA (h := ?_)
   | (with_reducible refine isC ?_); first | refine ctA (h := ?_) | refine cfA (h := ?_) | refine cdA (h1 := fun _ => ?_) (h0 := fun _ => ?_) | refine cbA (h1 := fun _ => ?_) (h0 := fun _ => ?_)
   | with_reducible first | refine Ev.seq ?_ | refine Ev.ops ?_ | refine NxE ?_ | refine BxN ?_ | refine BxX ?_ | refine NxX ?_ | refine NxR ?_ | refine BxR ?_ | refine Ev.block ?_ | refine Ev.skip ?_ | refine Ev.exit ?_ | refine Ev.ret ?_ | refine EvOps.nil ?_ | refine EvPlan.nil ?_
   | (with_reducible refine BxO ?_ ?_; · decide)
   )
  have q1 : lookupV cw [(1, .cells [.int .i64 (a : Nat), .int .i64 0, .sl .none [], .sl .none [actGo (b : Nat)]]), (0, .map [])] 86 (.map 0) (.str ka) false = some (.bool false) := l1 _ rfl
  have q2 : mapUpdH cw [(1, .cells [.int .i64 (a : Nat), .int .i64 0, .sl .none [], .sl .none [actGo (b : Nat)]]), (0, .map [])] 86 (.map 0) (.str ka) (.bool true) = some [(1, .cells [.int .i64 (a : Nat), .int .i64 0, .sl .none [], .sl .none [actGo (b : Nat)]]), (0, .map [(.str ka, .bool true)])] := u1 _ rfl
  have q3 : lookupV cw [(3, .cells [.int .i64 (b : Nat), .int .i64 0, .sl .none [], .sl .none [actClone, actGo (a : Nat)]]), (2, .cells [.int .i64 (a : Nat), .int .i64 0, .sl .none [], .sl .none [actGo (b : Nat)], .str ka]), (1, .cells [.int .i64 (a : Nat), .int .i64 0, .sl .none [], .sl .none [actGo (b : Nat)]]), (0, .map [(.str ka, .bool true)])] 86 (.map 0) (.str kb) false = some (.bool false) := l2 _ rfl
  have q4 : mapUpdH cw [(3, .cells [.int .i64 (b : Nat), .int .i64 0, .sl .none [], .sl .none [actClone, actGo (a : Nat)]]), (2, .cells [.int .i64 (a : Nat), .int .i64 0, .sl .none [], .sl .none [actGo (b : Nat)], .str ka]), (1, .cells [.int .i64 (a : Nat), .int .i64 0, .sl .none [], .sl .none [actGo (b : Nat)]]), (0, .map [(.str ka, .bool true)])] 86 (.map 0) (.str kb) (.bool true) = some [(3, .cells [.int .i64 (b : Nat), .int .i64 0, .sl .none [], .sl .none [actClone, actGo (a : Nat)]]), (2, .cells [.int .i64 (a : Nat), .int .i64 0, .sl .none [], .sl .none [actGo (b : Nat)], .str ka]), (1, .cells [.int .i64 (a : Nat), .int .i64 0, .sl .none [], .sl .none [actGo (b : Nat)]]), (0, .map [(.str ka, .bool true), (.str kb, .bool true)])] := u2 _ rfl
  refine loopT (fun r t st => ((r = 2 ∧ tget t 16 = .int .i64 0 ∧ tget t 5 = .sl .full [] ∧ st = ⟨[(0, .map [])], 1⟩) ∨ (r = 1 ∧ tget t 16 = .int .i64 1 ∧ tget t 5 = .msl 2 0 1 18446744073709551622 ∧ st = ⟨[(2, .cells [.int .i64 (a : Nat), .int .i64 0, .sl .none [], .sl .none [actGo (b : Nat)], .str ka]), (1, .cells [.int .i64 (a : Nat), .int .i64 0, .sl .none [], .sl .none [actGo (b : Nat)]]), (0, .map [(.str ka, .bool true)])], 3⟩) ∨ (r = 0 ∧ tget t 16 = .int .i64 2 ∧ tget t 5 = .msl 4 0 2 18446744073709551622 ∧ st = ⟨[(4, .cells [.int .i64 (a : Nat), .int .i64 0, .sl .none [], .sl .none [actGo (b : Nat)], .str (ka), .int .i64 (b : Nat), .int .i64 0, .sl .none [], .sl .none [actClone, actGo (a : Nat)], .str (kb)]), (3, .cells [.int .i64 (b : Nat), .int .i64 0, .sl .none [], .sl .none [actClone, actGo (a : Nat)]]), (1, .cells [.int .i64 (a : Nat), .int .i64 0, .sl .none [], .sl .none [actGo (b : Nat)]]), (0, .map [(.str (ka), .bool true), (.str (kb), .bool true)])], 5⟩)) ∧ tget t 4 = .map 0 ∧ tget t 14 = .sl .full [.agg [.int .i64 (a : Nat), .int .i64 0, .sl .none [], .sl .none [actGo (b : Nat)]], .agg [.int .i64 (b : Nat), .int .i64 0, .sl .none [], .sl .none [actClone, actGo (a : Nat)]]] ∧ tget t 15 = .int .i64 2) (n := 2) ?_ ?_
  · refine ⟨.inl ⟨rfl, ?_, ?_, rfl⟩, ?_, ?_, ?_⟩
    · simp only [↓evP, ↓tgP, ↓reduceIte, Nat.reduceEqDiff, reduceCtorEq, List.map_cons, List.map_nil, List.nil_append, List.append_nil, List.toList_toArray, a0]
    · simp only [↓evP, ↓tgP, ↓reduceIte, Nat.reduceEqDiff, reduceCtorEq, List.map_cons, List.map_nil, List.nil_append, List.append_nil, List.toList_toArray, a0]
    · simp only [↓evP, ↓tgP, ↓reduceIte, Nat.reduceEqDiff, reduceCtorEq, List.map_cons, List.map_nil, List.nil_append, List.append_nil, List.toList_toArray, a0]
    · simp only [↓evP, ↓tgP, ↓reduceIte, Nat.reduceEqDiff, reduceCtorEq, List.map_cons, List.map_nil, List.nil_append, List.append_nil, List.toList_toArray, a0]
    · simp only [↓evP, ↓tgP, ↓reduceIte, Nat.reduceEqDiff, reduceCtorEq, List.map_cons, List.map_nil, List.nil_append, List.append_nil, List.toList_toArray, a0]; rfl
  clear a0
  rintro r t st ⟨(⟨rfl, c16, c5, rfl⟩ | ⟨rfl, c16, c5, rfl⟩ | ⟨rfl, c16, c5, rfl⟩), c4, c14, c15⟩
  · skip
    have ex := And.intro @c4 (And.intro @c5 (And.intro @c14 (And.intro @c15 (And.intro @c16 (And.intro @hpB (And.intro @hpE (And.intro @zvE (And.intro @zvF (And.intro @bd71 (And.intro @hsA @hx1))))))))))
    have exd := And.intro @q1 @q2
    repeat' (first
     | (with_reducible refine isO ?_); first | refine mvA (h := ?_) | refine asA (h := ?_) | refine quA (h := ?_) | refine wnA (h := ?_) | refine waA (h := ?_) | refine caA (hc := (hcA _)) (h := ?_) | refine caA (hc := (hkA _)) (h := ?_)
     | (with_reducible refine isC ?_); first | refine ctA (h := ?_) | refine cfA (h := ?_) | refine cdA (h1 := fun _ => ?_) (h0 := fun _ => ?_) | refine cbA (h1 := fun _ => ?_) (h0 := fun _ => ?_)
     | with_reducible first | refine Ev.seq ?_ | refine Ev.ops ?_ | refine NxE ?_ | refine BxN ?_ | refine BxX ?_ | refine NxX ?_ | refine NxR ?_ | refine BxR ?_ | refine Ev.block ?_ | refine Ev.skip ?_ | refine Ev.exit ?_ | refine Ev.ret ?_ | refine EvOps.nil ?_ | refine EvPlan.nil ?_
     | (with_reducible refine BxO ?_ ?_; · decide)
     )
    refine ⟨1, by omega, rfl, .inr (.inl ⟨rfl, ?_, ?_, rfl⟩), ?_, ?_, ?_⟩
    · simp only [↓evP, ↓tgP, ↓reduceIte, Nat.reduceEqDiff, reduceCtorEq, List.map_cons, List.map_nil, List.nil_append, List.append_nil, List.toList_toArray, c16]
    · simp only [↓evP, ↓tgP, ↓reduceIte, Nat.reduceEqDiff, reduceCtorEq, List.map_cons, List.map_nil, List.nil_append, List.append_nil, List.toList_toArray, c5]
    · simp only [↓evP, ↓tgP, ↓reduceIte, Nat.reduceEqDiff, reduceCtorEq, List.map_cons, List.map_nil, List.nil_append, List.append_nil, List.toList_toArray, c4]
    · simp only [↓evP, ↓tgP, ↓reduceIte, Nat.reduceEqDiff, reduceCtorEq, List.map_cons, List.map_nil, List.nil_append, List.append_nil, List.toList_toArray, c14]
    · simp only [↓evP, ↓tgP, ↓reduceIte, Nat.reduceEqDiff, reduceCtorEq, List.map_cons, List.map_nil, List.nil_append, List.append_nil, List.toList_toArray, c15]
  · skip
    have ex := And.intro @c4 (And.intro @c5 (And.intro @c14 (And.intro @c15 (And.intro @c16 (And.intro @hpB (And.intro @hpE (And.intro @zvE (And.intro @zvF (And.intro @bd71 (And.intro @hsB @hx2))))))))))
    have exd := And.intro @q3 @q4
    repeat' (first
     | (with_reducible refine isO ?_); first | refine mvA (h := ?_) | refine asA (h := ?_) | refine quA (h := ?_) | refine wnA (h := ?_) | refine waA (h := ?_) | refine caA (hc := (hcB _)) (h := ?_) | refine caA (hc := (hkB _)) (h := ?_)
     | (with_reducible refine isC ?_); first | refine ctA (h := ?_) | refine cfA (h := ?_) | refine cdA (h1 := fun _ => ?_) (h0 := fun _ => ?_) | refine cbA (h1 := fun _ => ?_) (h0 := fun _ => ?_)
     | with_reducible first | refine Ev.seq ?_ | refine Ev.ops ?_ | refine NxE ?_ | refine BxN ?_ | refine BxX ?_ | refine NxX ?_ | refine NxR ?_ | refine BxR ?_ | refine Ev.block ?_ | refine Ev.skip ?_ | refine Ev.exit ?_ | refine Ev.ret ?_ | refine EvOps.nil ?_ | refine EvPlan.nil ?_
     | (with_reducible refine BxO ?_ ?_; · decide)
     )
    refine ⟨0, by omega, rfl, .inr (.inr ⟨rfl, ?_, ?_, rfl⟩), ?_, ?_, ?_⟩
    · simp only [↓evP, ↓tgP, ↓reduceIte, Nat.reduceEqDiff, reduceCtorEq, List.map_cons, List.map_nil, List.nil_append, List.append_nil, List.toList_toArray, c16]
    · simp only [↓evP, ↓tgP, ↓reduceIte, Nat.reduceEqDiff, reduceCtorEq, List.map_cons, List.map_nil, List.nil_append, List.append_nil, List.toList_toArray, c5]
    · simp only [↓evP, ↓tgP, ↓reduceIte, Nat.reduceEqDiff, reduceCtorEq, List.map_cons, List.map_nil, List.nil_append, List.append_nil, List.toList_toArray, c4]
    · simp only [↓evP, ↓tgP, ↓reduceIte, Nat.reduceEqDiff, reduceCtorEq, List.map_cons, List.map_nil, List.nil_append, List.append_nil, List.toList_toArray, c14]
    · simp only [↓evP, ↓tgP, ↓reduceIte, Nat.reduceEqDiff, reduceCtorEq, List.map_cons, List.map_nil, List.nil_append, List.append_nil, List.toList_toArray, c15]
  · skip
    have ex := And.intro @c4 (And.intro @c5 (And.intro @c14 (And.intro @c15 (And.intro @c16 (And.intro @hpB (And.intro @hpE (And.intro @zvE @zvF)))))))
    repeat' (first
     | (with_reducible refine isO ?_); first | refine mvA (h := ?_) | refine asA (h := ?_) | refine quA (h := ?_) | refine wnA (h := ?_) | refine waA (h := ?_) | refine caA (hc := hso) (h := ?_)
     | (with_reducible refine isC ?_); first | refine ctA (h := ?_) | refine cfA (h := ?_) | refine cdA (h1 := fun _ => ?_) (h0 := fun _ => ?_) | refine cbA (h1 := fun _ => ?_) (h0 := fun _ => ?_)
     | with_reducible first | refine Ev.seq ?_ | refine Ev.ops ?_ | refine NxE ?_ | refine BxN ?_ | refine BxX ?_ | refine NxX ?_ | refine NxR ?_ | refine BxR ?_ | refine Ev.block ?_ | refine Ev.skip ?_ | refine Ev.exit ?_ | refine Ev.ret ?_ | refine EvOps.nil ?_ | refine EvPlan.nil ?_
     | (with_reducible refine BxO ?_ ?_; · decide)
     )
    refine leafR (by simp (disch := (first | assumption | omega)) only [↓opE, ↓evP, stE, binE, ldE, ↓tgP, ↓reduceIte, clE, ncE, szE, hgE, intBin, shiftBin, strBin, unV, indexAddrV, indexV, lenV, partV, isAggT, sliceV, boundsV, bndV, asIntV, fieldAddrV, fieldV, putAt, nilCheckV, makeIfaceV, stripAgg, stripCell, decide_eq_true_eq, beqD, bneD, notD, beqS, if_true, if_false, ite_true, ite_false, Bool.true_eq_false, Bool.false_eq_true, Nat.reduceEqDiff, Nat.reduceBEq, Nat.reduceAdd, Nat.reduceSub, Nat.reduceMul, Nat.min_def, Nat.reducePow, Nat.reduceLeDiff, Nat.reduceLT, Int.reduceEq, Int.reduceNe, Int.reduceLT, Int.reduceLE, Int.reduceToNat, Int.reduceAdd, Int.reduceSub, Int.reduceMul, Int.reducePow, Int.reduceNeg, Option.map_some, Option.map_none, Option.bind_some, Option.getD_some, Option.getD_none, ofBytes_length, ofBytes_get, ofBytes_take, ofBytes_drop, Int.toNat_natCast, Int.natCast_nonneg, and_self, true_and, and_true, List.getElem?_cons_zero, List.getElem?_cons_succ, decide_true, decide_false, Bool.not_true, Bool.not_false, List.getElem_toArray, List.getElem?_toArray, List.getElem_cons_succ, List.getElem_cons_zero, List.toList_toArray, List.map_cons, List.map_nil, List.take_succ_cons, List.take_zero, List.drop_succ_cons, List.drop_zero, List.length_cons, List.length_nil, List.nil_append, List.cons_append, List.append_nil, Nat.le_refl, Nat.zero_add, Nat.mul_one, Nat.add_zero, Nat.zero_lt_one, List.length_singleton, IntKind.bits, reduceCtorEq, not_true_eq_false, not_false_eq_true, ne_eq, if_pos, if_neg, wI64, wI32, wU8, wU16, wU32, wU64, Int.emod_eq_of_lt, Int.fdiv_eq_ediv_of_nonneg, Int.tdiv_eq_ediv_of_nonneg, Int.tmod_eq_emod_of_nonneg, tyE, resultsV, show Tryz.f8.results.toList = [.tmp 2, .tmp 3] from rfl, c5]; with_reducible rfl) (by
      simp only [leaveV, packV, strip, stripAgg, stripCell, List.map_cons, List.map_nil, show cw.grow 8 = false from rfl, show cw.keep 8 = false from rfl, show cw.frz 8 = true from rfl, if_false, if_true, Bool.false_eq_true]
      first | done | rfl) rfl

set_option maxHeartbeats 8000000 in
theorem placeGt (a b : Nat) (ha : a < 64) (hb : b < 64) (h : b < a) (st : St) : FnS cw 8 [flows (a : Nat) (b : Nat)] st (.tup [.sl .none [.agg [.int .i64 (b : Nat), .int .i64 0, .sl .none [], .sl .none [actClone, actGo (a : Nat)], .str (keyT b)], .agg [.int .i64 (a : Nat), .int .i64 0, .sl .none [], .sl .none [actGo (b : Nat)], .str (keyT a)]], .int .i64 0]) st := by
  have hk := keyLt ha h
  have hne : (keyT b == keyT a) = false := (by have := hk.2.2; rw [beq_eq_false_iff_ne] at this ⊢; exact fun e => this e.symm)
  have hby : ∀ st, FnS cw 18 [.agg [.int .i64 (b : Nat), .int .i64 0, .sl .none [], .sl .none [actClone, actGo (a : Nat)], .str (keyT b)], .agg [.int .i64 (a : Nat), .int .i64 0, .sl .none [], .sl .none [actGo (b : Nat)], .str (keyT a)]] st (.int .i64 (-1)) st := fun st => byKey rfl rfl (fun st => cmpLt hk.1 st) st
  have hso : FnS cw 17 [.msl 4 0 2 18446744073709551622, .func (.func 18) [] []] ⟨[(4, .cells [.int .i64 (a : Nat), .int .i64 0, .sl .none [], .sl .none [actGo (b : Nat)], .str (keyT a), .int .i64 (b : Nat), .int .i64 0, .sl .none [], .sl .none [actClone, actGo (a : Nat)], .str (keyT b)]), (3, .cells [.int .i64 (b : Nat), .int .i64 0, .sl .none [], .sl .none [actClone, actGo (a : Nat)]]), (1, .cells [.int .i64 (a : Nat), .int .i64 0, .sl .none [], .sl .none [actGo (b : Nat)]]), (0, .map [(.str (keyT a), .bool true), (.str (keyT b), .bool true)])], 5⟩ (.tup []) ⟨[(4, .cells [.int .i64 (b : Nat), .int .i64 0, .sl .none [], .sl .none [actClone, actGo (a : Nat)], .str (keyT b), .int .i64 (a : Nat), .int .i64 0, .sl .none [], .sl .none [actGo (b : Nat)], .str (keyT a)]), (3, .cells [.int .i64 (b : Nat), .int .i64 0, .sl .none [], .sl .none [actClone, actGo (a : Nat)]]), (1, .cells [.int .i64 (a : Nat), .int .i64 0, .sl .none [], .sl .none [actGo (b : Nat)]]), (0, .map [(.str (keyT a), .bool true), (.str (keyT b), .bool true)])], 5⟩ := sortS rfl (sortSwap (by rfl) rfl hby)
  have hcA := checkA a b ha hb
  have hcB := checkB a b ha hb
  have hkA := keyA (b : Nat) a ha
  have hkB := keyB (a : Nat) b hb
  have ua := fun es k es2 h => up86 [] es k es2 h
  have u1 := up86 [] [] (keyT a) _ (setE0 _)
  have u2 := up86 [] [(.str (keyT a), .bool true)] (keyT b) _ (setE1 hne)
  have l1 := lk0 (keyT a)
  have l2 := lk1 hne
  have hx1 := ap1 a b
  have hx2 := ap2 a b
  have hsA := bsA a b (keyT a)
  have hsB := bsB a b (keyT b)
  unfold flows flowA flowB at *
  generalize keyT a = ka at *
  generalize keyT b = kb at *
  refine goP Tryz.func8 rfl rfl rfl rfl ?_ ?_
  · rfl
  intro t ht
  have a0 : tget t 0 = .sl .full [.agg [.int .i64 (a : Nat), .int .i64 0, .sl .none [], .sl .none [actGo (b : Nat)]], .agg [.int .i64 (b : Nat), .int .i64 0, .sl .none [], .sl .none [actClone, actGo (a : Nat)]]] := ht 0 _ rfl
  clear ht
  have ex := And.intro @a0 (And.intro @hpB (And.intro @hpE (And.intro @zvE @zvF)))
  repeat' (first
   | (with_reducible refine isO ?_); first | refine mvA (h := ?_) | refine asA (h := ?_) | refine quA (h := ?_) | refine wnA (h := ?_) | refine waA (h := ?_)
   | (with_reducible refine isC ?_); first | refine ctA (h := ?_) | refine cfA (h := ?_) | refine cdA (h1 := fun _ => ?_) (h0 := fun _ => ?_) | refine cbA (h1 := fun _ => ?_) (h0 := fun _ => ?_)
   | with_reducible first | refine Ev.seq ?_ | refine Ev.ops ?_ | refine NxE ?_ | refine BxN ?_ | refine BxX ?_ | refine NxX ?_ | refine NxR ?_ | refine BxR ?_ | refine Ev.block ?_ | refine Ev.skip ?_ | refine Ev.exit ?_ | refine Ev.ret ?_ | refine EvOps.nil ?_ | refine EvPlan.nil ?_
   | (with_reducible refine BxO ?_ ?_; · decide)
   )
  have q1 : lookupV cw [(1, .cells [.int .i64 (a : Nat), .int .i64 0, .sl .none [], .sl .none [actGo (b : Nat)]]), (0, .map [])] 86 (.map 0) (.str ka) false = some (.bool false) := l1 _ rfl
  have q2 : mapUpdH cw [(1, .cells [.int .i64 (a : Nat), .int .i64 0, .sl .none [], .sl .none [actGo (b : Nat)]]), (0, .map [])] 86 (.map 0) (.str ka) (.bool true) = some [(1, .cells [.int .i64 (a : Nat), .int .i64 0, .sl .none [], .sl .none [actGo (b : Nat)]]), (0, .map [(.str ka, .bool true)])] := u1 _ rfl
  have q3 : lookupV cw [(3, .cells [.int .i64 (b : Nat), .int .i64 0, .sl .none [], .sl .none [actClone, actGo (a : Nat)]]), (2, .cells [.int .i64 (a : Nat), .int .i64 0, .sl .none [], .sl .none [actGo (b : Nat)], .str ka]), (1, .cells [.int .i64 (a : Nat), .int .i64 0, .sl .none [], .sl .none [actGo (b : Nat)]]), (0, .map [(.str ka, .bool true)])] 86 (.map 0) (.str kb) false = some (.bool false) := l2 _ rfl
  have q4 : mapUpdH cw [(3, .cells [.int .i64 (b : Nat), .int .i64 0, .sl .none [], .sl .none [actClone, actGo (a : Nat)]]), (2, .cells [.int .i64 (a : Nat), .int .i64 0, .sl .none [], .sl .none [actGo (b : Nat)], .str ka]), (1, .cells [.int .i64 (a : Nat), .int .i64 0, .sl .none [], .sl .none [actGo (b : Nat)]]), (0, .map [(.str ka, .bool true)])] 86 (.map 0) (.str kb) (.bool true) = some [(3, .cells [.int .i64 (b : Nat), .int .i64 0, .sl .none [], .sl .none [actClone, actGo (a : Nat)]]), (2, .cells [.int .i64 (a : Nat), .int .i64 0, .sl .none [], .sl .none [actGo (b : Nat)], .str ka]), (1, .cells [.int .i64 (a : Nat), .int .i64 0, .sl .none [], .sl .none [actGo (b : Nat)]]), (0, .map [(.str ka, .bool true), (.str kb, .bool true)])] := u2 _ rfl
  refine loopT (fun r t st => ((r = 2 ∧ tget t 16 = .int .i64 0 ∧ tget t 5 = .sl .full [] ∧ st = ⟨[(0, .map [])], 1⟩) ∨ (r = 1 ∧ tget t 16 = .int .i64 1 ∧ tget t 5 = .msl 2 0 1 18446744073709551622 ∧ st = ⟨[(2, .cells [.int .i64 (a : Nat), .int .i64 0, .sl .none [], .sl .none [actGo (b : Nat)], .str ka]), (1, .cells [.int .i64 (a : Nat), .int .i64 0, .sl .none [], .sl .none [actGo (b : Nat)]]), (0, .map [(.str ka, .bool true)])], 3⟩) ∨ (r = 0 ∧ tget t 16 = .int .i64 2 ∧ tget t 5 = .msl 4 0 2 18446744073709551622 ∧ st = ⟨[(4, .cells [.int .i64 (a : Nat), .int .i64 0, .sl .none [], .sl .none [actGo (b : Nat)], .str (ka), .int .i64 (b : Nat), .int .i64 0, .sl .none [], .sl .none [actClone, actGo (a : Nat)], .str (kb)]), (3, .cells [.int .i64 (b : Nat), .int .i64 0, .sl .none [], .sl .none [actClone, actGo (a : Nat)]]), (1, .cells [.int .i64 (a : Nat), .int .i64 0, .sl .none [], .sl .none [actGo (b : Nat)]]), (0, .map [(.str (ka), .bool true), (.str (kb), .bool true)])], 5⟩)) ∧ tget t 4 = .map 0 ∧ tget t 14 = .sl .full [.agg [.int .i64 (a : Nat), .int .i64 0, .sl .none [], .sl .none [actGo (b : Nat)]], .agg [.int .i64 (b : Nat), .int .i64 0, .sl .none [], .sl .none [actClone, actGo (a : Nat)]]] ∧ tget t 15 = .int .i64 2) (n := 2) ?_ ?_
  · refine ⟨.inl ⟨rfl, ?_, ?_, rfl⟩, ?_, ?_, ?_⟩
    · simp only [↓evP, ↓tgP, ↓reduceIte, Nat.reduceEqDiff, reduceCtorEq, List.map_cons, List.map_nil, List.nil_append, List.append_nil, List.toList_toArray, a0]
    · simp only [↓evP, ↓tgP, ↓reduceIte, Nat.reduceEqDiff, reduceCtorEq, List.map_cons, List.map_nil, List.nil_append, List.append_nil, List.toList_toArray, a0]
    · simp only [↓evP, ↓tgP, ↓reduceIte, Nat.reduceEqDiff, reduceCtorEq, List.map_cons, List.map_nil, List.nil_append, List.append_nil, List.toList_toArray, a0]
    · simp only [↓evP, ↓tgP, ↓reduceIte, Nat.reduceEqDiff, reduceCtorEq, List.map_cons, List.map_nil, List.nil_append, List.append_nil, List.toList_toArray, a0]
    · simp only [↓evP, ↓tgP, ↓reduceIte, Nat.reduceEqDiff, reduceCtorEq, List.map_cons, List.map_nil, List.nil_append, List.append_nil, List.toList_toArray, a0]; rfl
  clear a0
  rintro r t st ⟨(⟨rfl, c16, c5, rfl⟩ | ⟨rfl, c16, c5, rfl⟩ | ⟨rfl, c16, c5, rfl⟩), c4, c14, c15⟩
  · skip
    have ex := And.intro @c4 (And.intro @c5 (And.intro @c14 (And.intro @c15 (And.intro @c16 (And.intro @hpB (And.intro @hpE (And.intro @zvE (And.intro @zvF (And.intro @bd71 (And.intro @hsA @hx1))))))))))
    have exd := And.intro @q1 @q2
    repeat' (first
     | (with_reducible refine isO ?_); first | refine mvA (h := ?_) | refine asA (h := ?_) | refine quA (h := ?_) | refine wnA (h := ?_) | refine waA (h := ?_) | refine caA (hc := (hcA _)) (h := ?_) | refine caA (hc := (hkA _)) (h := ?_)
     | (with_reducible refine isC ?_); first | refine ctA (h := ?_) | refine cfA (h := ?_) | refine cdA (h1 := fun _ => ?_) (h0 := fun _ => ?_) | refine cbA (h1 := fun _ => ?_) (h0 := fun _ => ?_)
     | with_reducible first | refine Ev.seq ?_ | refine Ev.ops ?_ | refine NxE ?_ | refine BxN ?_ | refine BxX ?_ | refine NxX ?_ | refine NxR ?_ | refine BxR ?_ | refine Ev.block ?_ | refine Ev.skip ?_ | refine Ev.exit ?_ | refine Ev.ret ?_ | refine EvOps.nil ?_ | refine EvPlan.nil ?_
     | (with_reducible refine BxO ?_ ?_; · decide)
     )
    refine ⟨1, by omega, rfl, .inr (.inl ⟨rfl, ?_, ?_, rfl⟩), ?_, ?_, ?_⟩
    · simp only [↓evP, ↓tgP, ↓reduceIte, Nat.reduceEqDiff, reduceCtorEq, List.map_cons, List.map_nil, List.nil_append, List.append_nil, List.toList_toArray, c16]
    · simp only [↓evP, ↓tgP, ↓reduceIte, Nat.reduceEqDiff, reduceCtorEq, List.map_cons, List.map_nil, List.nil_append, List.append_nil, List.toList_toArray, c5]
    · simp only [↓evP, ↓tgP, ↓reduceIte, Nat.reduceEqDiff, reduceCtorEq, List.map_cons, List.map_nil, List.nil_append, List.append_nil, List.toList_toArray, c4]
    · simp only [↓evP, ↓tgP, ↓reduceIte, Nat.reduceEqDiff, reduceCtorEq, List.map_cons, List.map_nil, List.nil_append, List.append_nil, List.toList_toArray, c14]
    · simp only [↓evP, ↓tgP, ↓reduceIte, Nat.reduceEqDiff, reduceCtorEq, List.map_cons, List.map_nil, List.nil_append, List.append_nil, List.toList_toArray, c15]
  · skip
    have ex := And.intro @c4 (And.intro @c5 (And.intro @c14 (And.intro @c15 (And.intro @c16 (And.intro @hpB (And.intro @hpE (And.intro @zvE (And.intro @zvF (And.intro @bd71 (And.intro @hsB @hx2))))))))))
    have exd := And.intro @q3 @q4
    repeat' (first
     | (with_reducible refine isO ?_); first | refine mvA (h := ?_) | refine asA (h := ?_) | refine quA (h := ?_) | refine wnA (h := ?_) | refine waA (h := ?_) | refine caA (hc := (hcB _)) (h := ?_) | refine caA (hc := (hkB _)) (h := ?_)
     | (with_reducible refine isC ?_); first | refine ctA (h := ?_) | refine cfA (h := ?_) | refine cdA (h1 := fun _ => ?_) (h0 := fun _ => ?_) | refine cbA (h1 := fun _ => ?_) (h0 := fun _ => ?_)
     | with_reducible first | refine Ev.seq ?_ | refine Ev.ops ?_ | refine NxE ?_ | refine BxN ?_ | refine BxX ?_ | refine NxX ?_ | refine NxR ?_ | refine BxR ?_ | refine Ev.block ?_ | refine Ev.skip ?_ | refine Ev.exit ?_ | refine Ev.ret ?_ | refine EvOps.nil ?_ | refine EvPlan.nil ?_
     | (with_reducible refine BxO ?_ ?_; · decide)
     )
    refine ⟨0, by omega, rfl, .inr (.inr ⟨rfl, ?_, ?_, rfl⟩), ?_, ?_, ?_⟩
    · simp only [↓evP, ↓tgP, ↓reduceIte, Nat.reduceEqDiff, reduceCtorEq, List.map_cons, List.map_nil, List.nil_append, List.append_nil, List.toList_toArray, c16]
    · simp only [↓evP, ↓tgP, ↓reduceIte, Nat.reduceEqDiff, reduceCtorEq, List.map_cons, List.map_nil, List.nil_append, List.append_nil, List.toList_toArray, c5]
    · simp only [↓evP, ↓tgP, ↓reduceIte, Nat.reduceEqDiff, reduceCtorEq, List.map_cons, List.map_nil, List.nil_append, List.append_nil, List.toList_toArray, c4]
    · simp only [↓evP, ↓tgP, ↓reduceIte, Nat.reduceEqDiff, reduceCtorEq, List.map_cons, List.map_nil, List.nil_append, List.append_nil, List.toList_toArray, c14]
    · simp only [↓evP, ↓tgP, ↓reduceIte, Nat.reduceEqDiff, reduceCtorEq, List.map_cons, List.map_nil, List.nil_append, List.append_nil, List.toList_toArray, c15]
  · skip
    have ex := And.intro @c4 (And.intro @c5 (And.intro @c14 (And.intro @c15 (And.intro @c16 (And.intro @hpB (And.intro @hpE (And.intro @zvE @zvF)))))))
    repeat' (first
     | (with_reducible refine isO ?_); first | refine mvA (h := ?_) | refine asA (h := ?_) | refine quA (h := ?_) | refine wnA (h := ?_) | refine waA (h := ?_) | refine caA (hc := hso) (h := ?_)
     | (with_reducible refine isC ?_); first | refine ctA (h := ?_) | refine cfA (h := ?_) | refine cdA (h1 := fun _ => ?_) (h0 := fun _ => ?_) | refine cbA (h1 := fun _ => ?_) (h0 := fun _ => ?_)
     | with_reducible first | refine Ev.seq ?_ | refine Ev.ops ?_ | refine NxE ?_ | refine BxN ?_ | refine BxX ?_ | refine NxX ?_ | refine NxR ?_ | refine BxR ?_ | refine Ev.block ?_ | refine Ev.skip ?_ | refine Ev.exit ?_ | refine Ev.ret ?_ | refine EvOps.nil ?_ | refine EvPlan.nil ?_
     | (with_reducible refine BxO ?_ ?_; · decide)
     )
    refine leafR (by simp (disch := (first | assumption | omega)) only [↓opE, ↓evP, stE, binE, ldE, ↓tgP, ↓reduceIte, clE, ncE, szE, hgE, intBin, shiftBin, strBin, unV, indexAddrV, indexV, lenV, partV, isAggT, sliceV, boundsV, bndV, asIntV, fieldAddrV, fieldV, putAt, nilCheckV, makeIfaceV, stripAgg, stripCell, decide_eq_true_eq, beqD, bneD, notD, beqS, if_true, if_false, ite_true, ite_false, Bool.true_eq_false, Bool.false_eq_true, Nat.reduceEqDiff, Nat.reduceBEq, Nat.reduceAdd, Nat.reduceSub, Nat.reduceMul, Nat.min_def, Nat.reducePow, Nat.reduceLeDiff, Nat.reduceLT, Int.reduceEq, Int.reduceNe, Int.reduceLT, Int.reduceLE, Int.reduceToNat, Int.reduceAdd, Int.reduceSub, Int.reduceMul, Int.reducePow, Int.reduceNeg, Option.map_some, Option.map_none, Option.bind_some, Option.getD_some, Option.getD_none, ofBytes_length, ofBytes_get, ofBytes_take, ofBytes_drop, Int.toNat_natCast, Int.natCast_nonneg, and_self, true_and, and_true, List.getElem?_cons_zero, List.getElem?_cons_succ, decide_true, decide_false, Bool.not_true, Bool.not_false, List.getElem_toArray, List.getElem?_toArray, List.getElem_cons_succ, List.getElem_cons_zero, List.toList_toArray, List.map_cons, List.map_nil, List.take_succ_cons, List.take_zero, List.drop_succ_cons, List.drop_zero, List.length_cons, List.length_nil, List.nil_append, List.cons_append, List.append_nil, Nat.le_refl, Nat.zero_add, Nat.mul_one, Nat.add_zero, Nat.zero_lt_one, List.length_singleton, IntKind.bits, reduceCtorEq, not_true_eq_false, not_false_eq_true, ne_eq, if_pos, if_neg, wI64, wI32, wU8, wU16, wU32, wU64, Int.emod_eq_of_lt, Int.fdiv_eq_ediv_of_nonneg, Int.tdiv_eq_ediv_of_nonneg, Int.tmod_eq_emod_of_nonneg, tyE, resultsV, show Tryz.f8.results.toList = [.tmp 2, .tmp 3] from rfl, c5]; with_reducible rfl) (by
      simp only [leaveV, packV, strip, stripAgg, stripCell, List.map_cons, List.map_nil, show cw.grow 8 = false from rfl, show cw.keep 8 = false from rfl, show cw.frz 8 = true from rfl, if_false, if_true, Bool.false_eq_true]
      first | done | rfl) rfl
end Go.Proofs.YtbgalenfbmaceaaGreatDoor.D
