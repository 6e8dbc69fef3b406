/- Bytes behind bytes, in slices that are written later. -/
import Derived.Test.YtfjhanjpacghkaaN29
import Derived.Test.YtfjhanjpacghkaaN25
import Derived.Test.YtfjhanjpacghkaaEtW6
import Derived.Test.YtfjhanjpacghkaaEtV12
set_option linter.unusedSimpArgs false
set_option linter.unusedVariables false
set_option maxRecDepth 100000
namespace Go.Proofs.Ytfjhanjpacghkaa.M
open Go Go.Vm Go.Proofs Go.Proofs.Ytfjhanjpacghkaa

noncomputable def cx : Cfg := { P := Try.prog, glob := fun _ => .any, X := fun _ _ _ => none, keep := fun k => k == 11 || k == 15 || k == 21, frz := fun _ => false, grow := fun k => k == 11 || k == 15 || k == 21, pure := fun k => !(k == 11 || k == 15 || k == 21), eqs := [25, 36], mutT := fun t => t == 22 }
theorem tyE : cx.P = Try.prog ∧
    (Try.prog.underlying 3 = some (.int .i64) ∧ Try.prog.underlying 4 = some .bool ∧ Try.prog.underlying 5 = some (.int .u8) ∧ Try.prog.underlying 9 = some .string ∧ Try.prog.underlying 22 = some (.slice 5) ∧ Try.prog.underlying 23 = some (.int .u64) ∧ Try.prog.underlying 26 = some (.int .i64) ∧ Try.prog.underlying 34 = some (.int .u32)) ∧
    (szOf cx 3 = some 1 ∧ szOf cx 4 = some 1 ∧ szOf cx 5 = some 1 ∧ szOf cx 9 = some 1 ∧ szOf cx 22 = some 1 ∧ szOf cx 23 = some 1 ∧ szOf cx 25 = some 5 ∧ szOf cx 26 = some 1 ∧ szOf cx 34 = some 1 ∧ szOf cx 36 = some 5) ∧
    (zeroV cx 25 = some (.agg [.int .u64 0, .int .u64 0, .bool false, .int .i64 0, .int .i64 0]) ∧ zeroV cx 36 = some (.agg [.int .i64 0, .int .u64 0, .int .u32 0, .int .u64 0, .int .u32 0])) := by
  refine ⟨rfl, ⟨Try.underlying3, Try.underlying4, Try.underlying5, Try.underlying9, Try.underlying22, Try.underlying23, Try.underlying26, Try.underlying34⟩, ⟨?_, ?_, ?_, ?_, ?_, ?_, ?_, ?_, ?_, ?_⟩, ?_, ?_⟩
  all_goals first | decide +kernel | rfl
theorem glob_pure : GlobPure cx := fun _ => rfl

theorem cx_ok : COk cx := by
  refine ⟨fun t ht => ?_, by decide +kernel, by decide +kernel, fun _ _ _ _ => trivial⟩
  have h : t = 25 ∨ t = 36 := by
    have h : t ∈ [25, 36] := ht
    simpa using h
  rcases h with rfl | rfl
  · exact ⟨by decide +kernel, by decide +kernel⟩
  · exact ⟨by decide +kernel, by decide +kernel⟩

theorem cvE : (∀ H n, convV cx H 23 3 (.int .u64 n) = some (.int .i64 (IntKind.i64.wrap n))) ∧ (∀ H n, convV cx H 3 23 (.int .i64 n) = some (.int .u64 (IntKind.u64.wrap n))) ∧
    (∀ H n, convV cx H 23 34 (.int .u64 n) = some (.int .u32 (IntKind.u32.wrap n))) ∧ (∀ H n, convV cx H 34 23 (.int .u32 n) = some (.int .u64 (IntKind.u64.wrap n))) := by
  refine ⟨?_, ?_, ?_, ?_⟩ <;> intros <;> simp only [convV, tyE]

theorem bdE : buildV cx 36 [] = some (.agg [.int .i64 0, .int .u64 0, .int .u32 0, .int .u64 0, .int .u32 0]) ∧
    (∀ a b c d e, buildV cx 36 [(0, .int .i64 a), (1, .int .u64 b), (2, .int .u32 c), (3, .int .u64 d), (4, .int .u32 e)] = some (.agg [.int .i64 a, .int .u64 b, .int .u32 c, .int .u64 d, .int .u32 e])) := ⟨by rfl, fun _ _ _ _ _ => by rfl⟩


theorem cv8 (H : List (Nat × Ob)) (n : Int) : convV cx H 23 5 (.int .u64 n) = some (.int .u8 (IntKind.u8.wrap n)) := by simp only [convV, tyE]
theorem bs1 (z : Int) : buildSliceV cx 22 1 [(0, .int .u8 z)] = some (.sl .full [.int .u8 z]) := by rfl
theorem bs6 : buildSliceV cx 22 6 [(0, .int .u8 0), (1, .int .u8 1), (2, .int .u8 8), (3, .int .u8 0), (4, .int .u8 6), (5, .int .u8 4)] = some (.sl .full (ofBytes (bytesL 4429186564 6))) := by rfl
theorem tyX : type_of% (And.intro Try.underlying25 Try.underlying36) := And.intro Try.underlying25 Try.underlying36
/-- A byte within bytes. -/
theorem getB {l : List UInt8} {i : Nat} (h : i < l.length) : (ofBytes l)[i]? = some (V.int .u8 ((l.getD i 0).toNat : Int)) := by
  rw [ofBytes_get, List.getElem?_eq_getElem h, List.getD_eq_getElem?_getD, List.getElem?_eq_getElem h]; rfl
theorem bT22 : bytesT cx 22 = true := by decide +kernel
theorem szOk_bytes : ∀ l : List UInt8, szOk 1 (ofBytes l) = true := by intro l; cases l with | nil => rfl | cons a l => simp [szOk, ofBytes, ncells]
theorem flat_bytes : ∀ l : List UInt8, flatE (ofBytes l) = ofBytes l := by intro l; induction l with | nil => rfl | cons a l ih => simp only [flatE, ofBytes, List.map_cons, List.flatMap_cons, elemCells] at ih ⊢; rw [ih]; rfl
theorem strip_bytes : ∀ l : List UInt8, (ofBytes l).map stripCell = ofBytes l := by intro l; simp [ofBytes, stripCell]
theorem one_byte {z : Int} (h0 : 0 ≤ z) (h1 : z < 256) : [V.int .u8 z] = ofBytes [UInt8.ofNat z.toNat] := by
  simp only [ofBytes, List.map_cons, List.map_nil, UInt8.toNat_ofNat']
  congr 2
  omega
theorem app1 {a : List UInt8} {z : Int} {tip : Tip} {H : List (Nat × Ob)} {n k len : Nat} (h0 : 0 ≤ z) (h1 : z < 256) (h2 : a.length ≤ 1000000) (hl : a.length = len) :
    appendV cx ⟨(k, .cells (ofBytes a)) :: H, n⟩ 22 (.msl k 0 len (ownC 1)) (.sl tip [.int .u8 z]) = some (.msl n 0 (len + 1) (ownC 1), ⟨(n, .cells (ofBytes (a ++ [UInt8.ofNat z.toNat]))) :: H, n + 1⟩) := by
  subst hl
  have hz : zeroOk cx 5 1 = true := by decide +kernel
  have hb : byOf cx 5 = 1 := by decide +kernel
  rw [one_byte h0 h1]
  simp only [appendV, appendM, tyE, addedH, szOk_bytes, flat_bytes, strip_bytes, if_true, hgE, hdel, beq_self_eq_true, ofBytes_length, List.length_singleton, Nat.reduceEqDiff, if_false]
  rw [if_pos (by refine ⟨trivial, trivial, by omega, by omega, hz, ?_, ?_⟩ <;> simp [hb] <;> omega)]
  simp only [ofBytes, List.map_append]
theorem app1F {a : List UInt8} {z : Int} {tip : Tip} {H : List (Nat × Ob)} {n : Nat} (h0 : 0 ≤ z) (h1 : z < 256) (h2 : a.length ≤ 1000000) :
    appendV cx ⟨H, n⟩ 22 (.sl .full (ofBytes a)) (.sl tip [.int .u8 z]) = some (.msl n 0 (a.length + 1) (ownC 1), ⟨(n, .cells (ofBytes (a ++ [UInt8.ofNat z.toNat]))) :: H, n + 1⟩) := by
  have hz : zeroOk cx 5 1 = true := by decide +kernel
  have hb : byOf cx 5 = 1 := by decide +kernel
  rw [one_byte h0 h1]
  have hm : cx.mutT 22 = true := rfl
  have ha : addedV 1 (.sl tip (ofBytes [UInt8.ofNat z.toNat])) = some (ofBytes [UInt8.ofNat z.toNat]) := by simp [addedV, szOk_bytes]
  have he : (ofBytes [UInt8.ofNat z.toNat]).isEmpty = false := rfl
  simp only [appendV, appendM, tyE, ha, he, hm, addedH, szOk_bytes, flat_bytes, strip_bytes, if_true, hgE, ofBytes_length, List.length_singleton, Nat.reduceEqDiff, if_false, Bool.false_eq_true]
  have hc : True ∧ 0 < 1 ∧ zeroOk cx 5 1 = true ∧ (a.length + 1) * byOf cx 5 ≤ 2 ^ 47 ∧ a.length + 1 ≤ 2 ^ 47 := by refine ⟨trivial, by omega, hz, ?_, ?_⟩ <;> simp [hb] <;> omega
  have hc2 : 0 < 1 ∧ True ∧ zeroOk cx 5 1 = true ∧ (a.length + 1) * byOf cx 5 ≤ 2 ^ 47 ∧ a.length + 1 ≤ 2 ^ 47 := ⟨by omega, trivial, hc.2.2⟩
  rw [if_pos hc2, if_pos hc, ofBytes_append, strip_bytes]

theorem fdiv2 (x : Int) (n : Nat) : Int.fdiv x (2 ^ n) = x / 2 ^ n := Int.fdiv_eq_ediv_of_nonneg _ (Int.le_of_lt (Int.pow_pos (by omega)))

set_option maxHeartbeats 4000000 in
theorem putS (H : List (Nat × Ob)) (n k : Nat) (l : List UInt8) (len : Nat) (hll : l.length = len) (hl : len ≤ 1000) (x : Int) (hx : 0 ≤ x) (m : Nat) (hm1 : 1 ≤ m) (hm : m ≤ 8) :
    FnS cx 21 [.msl k 0 len (ownC 1), .int .u64 x, .int .i64 m] ⟨(k, .cells (ofBytes l)) :: H, n⟩ (.msl (n + m - 1) 0 (len + m) (ownC 1)) ⟨(n + m - 1, .cells (ofBytes (l ++ bytesL x m))) :: H, n + m⟩ := by
  refine goS Try.func21 rfl rfl rfl rfl ?_
  intro t ht
  have a0 : tget t 0 = .msl k 0 len (ownC 1) := ht 0 _ rfl
  have a1 : tget t 1 = .int .u64 x := ht 1 _ rfl
  have a2 : tget t 2 = .int .i64 m := ht 2 _ rfl
  clear ht
  repeat' (first
   | (with_reducible refine isO ?_); first
     | refine sMv (by simp only [↓evP, ↓tgP, ↓reduceIte, Nat.reduceEqDiff, reduceCtorEq, List.map_cons, List.map_nil, List.nil_append, List.append_nil, List.toList_toArray, a0, a1, a2]; with_reducible rfl) ?_
     | refine sAs (by simp only [↓evP, ↓tgP, ↓reduceIte, Nat.reduceEqDiff, reduceCtorEq, List.map_cons, List.map_nil, List.nil_append, List.append_nil, List.toList_toArray, a0, a1, a2]; with_reducible rfl) ?_
     | refine sQ (by simp (disch := (first | assumption | omega | (simp only [List.length_append, bytesL_length, ofBytes_length, List.length_take, List.length_drop, List.length_cons, List.length_nil]; omega))) only [↓opE, ↓evP, stE, binE, ldE, ↓tgP, ↓reduceIte, clE, ncE, szE, hgE, intBin, shiftBin, strBin, unV, indexAddrV, indexV, lenV, partV, isAggT, sliceV, boundsV, bndV, asIntV, fieldAddrV, fieldV, putAt, nilCheckV, makeIfaceV, stripAgg, stripCell, decide_eq_true_eq, beqD, bneD, notD, beqS, if_true, if_false, ite_true, ite_false, Bool.true_eq_false, Bool.false_eq_true, Nat.reduceEqDiff, Nat.reduceBEq, Nat.reduceAdd, Nat.reduceSub, Nat.reduceMul, Nat.min_def, Nat.reducePow, Nat.reduceLeDiff, Nat.reduceLT, Int.reduceEq, Int.reduceNe, Int.reduceLT, Int.reduceLE, Int.reduceToNat, Int.reduceAdd, Int.reduceSub, Int.reduceMul, Int.reducePow, Int.reduceNeg, Option.map_some, Option.map_none, Option.bind_some, Option.getD_some, Option.getD_none, ofBytes_length, ofBytes_get, ofBytes_take, ofBytes_drop, Int.toNat_natCast, Int.natCast_nonneg, and_self, true_and, and_true, List.getElem?_cons_zero, List.getElem?_cons_succ, decide_true, decide_false, Bool.not_true, Bool.not_false, List.getElem_toArray, List.getElem?_toArray, List.getElem_cons_succ, List.getElem_cons_zero, List.toList_toArray, List.map_cons, List.map_nil, List.take_succ_cons, List.take_zero, List.drop_succ_cons, List.drop_zero, List.length_cons, List.length_nil, List.nil_append, List.cons_append, List.append_nil, Nat.le_refl, Nat.zero_add, Nat.mul_one, Nat.add_zero, Nat.zero_lt_one, List.length_singleton, IntKind.bits, reduceCtorEq, not_true_eq_false, not_false_eq_true, ne_eq, if_pos, if_neg, wI64, wI32, wU8, wU16, wU32, wU64, Int.emod_eq_of_lt, Int.fdiv_eq_ediv_of_nonneg, Int.tdiv_eq_ediv_of_nonneg, Int.tmod_eq_emod_of_nonneg, tyE, Try.underlying25, Try.underlying36, cvE, bdE, a0, a1, a2]; with_reducible rfl) ?_
     | refine sW rfl (by simp (disch := (first | assumption | omega | (simp only [List.length_append, bytesL_length, ofBytes_length, List.length_take, List.length_drop, List.length_cons, List.length_nil]; omega))) only [↓opE, ↓evP, stE, binE, ldE, ↓tgP, ↓reduceIte, clE, ncE, szE, hgE, intBin, shiftBin, strBin, unV, indexAddrV, indexV, lenV, partV, isAggT, sliceV, boundsV, bndV, asIntV, fieldAddrV, fieldV, putAt, nilCheckV, makeIfaceV, stripAgg, stripCell, decide_eq_true_eq, beqD, bneD, notD, beqS, if_true, if_false, ite_true, ite_false, Bool.true_eq_false, Bool.false_eq_true, Nat.reduceEqDiff, Nat.reduceBEq, Nat.reduceAdd, Nat.reduceSub, Nat.reduceMul, Nat.min_def, Nat.reducePow, Nat.reduceLeDiff, Nat.reduceLT, Int.reduceEq, Int.reduceNe, Int.reduceLT, Int.reduceLE, Int.reduceToNat, Int.reduceAdd, Int.reduceSub, Int.reduceMul, Int.reducePow, Int.reduceNeg, Option.map_some, Option.map_none, Option.bind_some, Option.getD_some, Option.getD_none, ofBytes_length, ofBytes_get, ofBytes_take, ofBytes_drop, Int.toNat_natCast, Int.natCast_nonneg, and_self, true_and, and_true, List.getElem?_cons_zero, List.getElem?_cons_succ, decide_true, decide_false, Bool.not_true, Bool.not_false, List.getElem_toArray, List.getElem?_toArray, List.getElem_cons_succ, List.getElem_cons_zero, List.toList_toArray, List.map_cons, List.map_nil, List.take_succ_cons, List.take_zero, List.drop_succ_cons, List.drop_zero, List.length_cons, List.length_nil, List.nil_append, List.cons_append, List.append_nil, Nat.le_refl, Nat.zero_add, Nat.mul_one, Nat.add_zero, Nat.zero_lt_one, List.length_singleton, IntKind.bits, reduceCtorEq, not_true_eq_false, not_false_eq_true, ne_eq, if_pos, if_neg, wI64, wI32, wU8, wU16, wU32, wU64, Int.emod_eq_of_lt, Int.fdiv_eq_ediv_of_nonneg, Int.tdiv_eq_ediv_of_nonneg, Int.tmod_eq_emod_of_nonneg, tyE, Try.underlying25, Try.underlying36, cvE, bdE, wrOp, a0, a1, a2]; with_reducible rfl) ?_
   | (with_reducible refine isC ?_); first
     | refine condT (by (simp (disch := (first | assumption | omega)) only [↓evP, ↓tgP, ↓reduceIte, Nat.reduceEqDiff, reduceCtorEq, decide_true, decide_false, notD, Bool.not_true, Bool.not_false, decide_eq_true, decide_eq_false, a0, a1, a2]); first | done | fail) ?_
     | refine condF (by (simp (disch := (first | assumption | omega)) only [↓evP, ↓tgP, ↓reduceIte, Nat.reduceEqDiff, reduceCtorEq, decide_true, decide_false, notD, Bool.not_true, Bool.not_false, decide_eq_true, decide_eq_false, a0, a1, a2]); first | done | fail) ?_
     | refine condD (by simp only [↓evP, ↓tgP, ↓reduceIte, Nat.reduceEqDiff, reduceCtorEq, List.map_cons, List.map_nil, List.nil_append, List.append_nil, List.toList_toArray, a0, a1, a2]; with_reducible rfl) (fun _ => ?_) (fun _ => ?_)
     | refine condB (by simp only [↓evP, ↓tgP, ↓reduceIte, Nat.reduceEqDiff, reduceCtorEq, List.map_cons, List.map_nil, List.nil_append, List.append_nil, List.toList_toArray, a0, a1, a2]; with_reducible rfl) (fun _ => ?_) (fun _ => ?_)
   | with_reducible refine Ev.seq ?_
   | with_reducible refine Ev.ops ?_
   | with_reducible refine NxE ?_
   | with_reducible refine BxN ?_
   | with_reducible refine BxX ?_
   | with_reducible refine NxX ?_
   | with_reducible refine NxR ?_
   | with_reducible refine BxR ?_
   | with_reducible refine NxG ?_
   | with_reducible refine BxG ?_
   | with_reducible refine GxR ?_
   | with_reducible refine GxN ?_
   | with_reducible refine GxX ?_
   | with_reducible refine Ev.goto ?_
   | with_reducible refine Ev.block ?_
   | with_reducible refine Ev.skip ?_
   | with_reducible refine Ev.exit ?_
   | with_reducible refine Ev.ret ?_
   | with_reducible refine Ev.label ?_
   | with_reducible refine EvOps.nil ?_
   | with_reducible refine EvPlan.nil ?_
   | (with_reducible refine BxO ?_ ?_; · decide)
   )
  refine loopT (fun r t st => ∃ kj, (r = m ∧ kj = k ∨ r < m ∧ kj = n + (m - r) - 1) ∧ r ≤ m ∧ tget t 0 = .msl kj 0 (len + (m - r)) (ownC 1) ∧ tget t 1 = .int .u64 x ∧ tget t 7 = .int .i64 ((r : Int) - 1) ∧ st = ⟨(kj, .cells (ofBytes (l ++ upTo x m (m - r)))) :: H, n + (m - r)⟩) (n := m) ?_ ?_
  · refine ⟨k, .inl ⟨rfl, rfl⟩, Nat.le_refl _, ?_, ?_, ?_, ?_⟩
    · simp only [↓evP, ↓tgP, ↓reduceIte, Nat.reduceEqDiff, reduceCtorEq, List.map_cons, List.map_nil, List.nil_append, List.append_nil, List.toList_toArray, a0]; simp
    · simp only [↓evP, ↓tgP, ↓reduceIte, Nat.reduceEqDiff, reduceCtorEq, List.map_cons, List.map_nil, List.nil_append, List.append_nil, List.toList_toArray, a1]
    · simp only [↓evP, ↓tgP, ↓reduceIte, Nat.reduceEqDiff, reduceCtorEq, List.map_cons, List.map_nil, List.nil_append, List.append_nil, List.toList_toArray, a0]
    · simp [upTo]
  rintro r t st ⟨kj, hkj, hr, c0, c1, c7, rfl⟩
  have hlen : (l ++ upTo x m (m - r)).length ≤ 1000000 := by simp [upTo, bytesL_length]; omega
  have hlen2 : (l ++ upTo x m (m - r)).length = len + (m - r) := by simp [upTo, bytesL_length]; omega
  repeat' (first
   | (with_reducible refine isO ?_); first
     | refine sMv (by simp only [↓evP, ↓tgP, ↓reduceIte, Nat.reduceEqDiff, reduceCtorEq, List.map_cons, List.map_nil, List.nil_append, List.append_nil, List.toList_toArray, c0, c1, c7, cv8, bs1, app1, fdiv2]; with_reducible rfl) ?_
     | refine sAs (by simp only [↓evP, ↓tgP, ↓reduceIte, Nat.reduceEqDiff, reduceCtorEq, List.map_cons, List.map_nil, List.nil_append, List.append_nil, List.toList_toArray, c0, c1, c7, cv8, bs1, app1, fdiv2]; with_reducible rfl) ?_
     | refine sQ (by simp (disch := (first | assumption | omega | (simp only [List.length_append, bytesL_length, ofBytes_length, List.length_take, List.length_drop, List.length_cons, List.length_nil]; omega))) only [↓opE, ↓evP, stE, binE, ldE, ↓tgP, ↓reduceIte, clE, ncE, szE, hgE, intBin, shiftBin, strBin, unV, indexAddrV, indexV, lenV, partV, isAggT, sliceV, boundsV, bndV, asIntV, fieldAddrV, fieldV, putAt, nilCheckV, makeIfaceV, stripAgg, stripCell, decide_eq_true_eq, beqD, bneD, notD, beqS, if_true, if_false, ite_true, ite_false, Bool.true_eq_false, Bool.false_eq_true, Nat.reduceEqDiff, Nat.reduceBEq, Nat.reduceAdd, Nat.reduceSub, Nat.reduceMul, Nat.min_def, Nat.reducePow, Nat.reduceLeDiff, Nat.reduceLT, Int.reduceEq, Int.reduceNe, Int.reduceLT, Int.reduceLE, Int.reduceToNat, Int.reduceAdd, Int.reduceSub, Int.reduceMul, Int.reducePow, Int.reduceNeg, Option.map_some, Option.map_none, Option.bind_some, Option.getD_some, Option.getD_none, ofBytes_length, ofBytes_get, ofBytes_take, ofBytes_drop, Int.toNat_natCast, Int.natCast_nonneg, and_self, true_and, and_true, List.getElem?_cons_zero, List.getElem?_cons_succ, decide_true, decide_false, Bool.not_true, Bool.not_false, List.getElem_toArray, List.getElem?_toArray, List.getElem_cons_succ, List.getElem_cons_zero, List.toList_toArray, List.map_cons, List.map_nil, List.take_succ_cons, List.take_zero, List.drop_succ_cons, List.drop_zero, List.length_cons, List.length_nil, List.nil_append, List.cons_append, List.append_nil, Nat.le_refl, Nat.zero_add, Nat.mul_one, Nat.add_zero, Nat.zero_lt_one, List.length_singleton, IntKind.bits, reduceCtorEq, not_true_eq_false, not_false_eq_true, ne_eq, if_pos, if_neg, wI64, wI32, wU8, wU16, wU32, wU64, Int.emod_eq_of_lt, Int.fdiv_eq_ediv_of_nonneg, Int.tdiv_eq_ediv_of_nonneg, Int.tmod_eq_emod_of_nonneg, tyE, Try.underlying25, Try.underlying36, cvE, bdE, c0, c1, c7, cv8, bs1, app1, fdiv2]; with_reducible rfl) ?_
     | refine sW rfl (by simp (disch := (first | assumption | omega | (simp only [List.length_append, bytesL_length, ofBytes_length, List.length_take, List.length_drop, List.length_cons, List.length_nil]; omega))) only [↓opE, ↓evP, stE, binE, ldE, ↓tgP, ↓reduceIte, clE, ncE, szE, hgE, intBin, shiftBin, strBin, unV, indexAddrV, indexV, lenV, partV, isAggT, sliceV, boundsV, bndV, asIntV, fieldAddrV, fieldV, putAt, nilCheckV, makeIfaceV, stripAgg, stripCell, decide_eq_true_eq, beqD, bneD, notD, beqS, if_true, if_false, ite_true, ite_false, Bool.true_eq_false, Bool.false_eq_true, Nat.reduceEqDiff, Nat.reduceBEq, Nat.reduceAdd, Nat.reduceSub, Nat.reduceMul, Nat.min_def, Nat.reducePow, Nat.reduceLeDiff, Nat.reduceLT, Int.reduceEq, Int.reduceNe, Int.reduceLT, Int.reduceLE, Int.reduceToNat, Int.reduceAdd, Int.reduceSub, Int.reduceMul, Int.reducePow, Int.reduceNeg, Option.map_some, Option.map_none, Option.bind_some, Option.getD_some, Option.getD_none, ofBytes_length, ofBytes_get, ofBytes_take, ofBytes_drop, Int.toNat_natCast, Int.natCast_nonneg, and_self, true_and, and_true, List.getElem?_cons_zero, List.getElem?_cons_succ, decide_true, decide_false, Bool.not_true, Bool.not_false, List.getElem_toArray, List.getElem?_toArray, List.getElem_cons_succ, List.getElem_cons_zero, List.toList_toArray, List.map_cons, List.map_nil, List.take_succ_cons, List.take_zero, List.drop_succ_cons, List.drop_zero, List.length_cons, List.length_nil, List.nil_append, List.cons_append, List.append_nil, Nat.le_refl, Nat.zero_add, Nat.mul_one, Nat.add_zero, Nat.zero_lt_one, List.length_singleton, IntKind.bits, reduceCtorEq, not_true_eq_false, not_false_eq_true, ne_eq, if_pos, if_neg, wI64, wI32, wU8, wU16, wU32, wU64, Int.emod_eq_of_lt, Int.fdiv_eq_ediv_of_nonneg, Int.tdiv_eq_ediv_of_nonneg, Int.tmod_eq_emod_of_nonneg, tyE, Try.underlying25, Try.underlying36, cvE, bdE, wrOp, c0, c1, c7, cv8, bs1, app1, fdiv2]; with_reducible rfl) ?_
   | (with_reducible refine isC ?_); first
     | refine condT (by (simp (disch := (first | assumption | omega)) only [↓evP, ↓tgP, ↓reduceIte, Nat.reduceEqDiff, reduceCtorEq, decide_true, decide_false, notD, Bool.not_true, Bool.not_false, decide_eq_true, decide_eq_false, c0, c1, c7, cv8, bs1, app1, fdiv2]); first | done | fail) ?_
     | refine condF (by (simp (disch := (first | assumption | omega)) only [↓evP, ↓tgP, ↓reduceIte, Nat.reduceEqDiff, reduceCtorEq, decide_true, decide_false, notD, Bool.not_true, Bool.not_false, decide_eq_true, decide_eq_false, c0, c1, c7, cv8, bs1, app1, fdiv2]); first | done | fail) ?_
     | refine condD (by simp only [↓evP, ↓tgP, ↓reduceIte, Nat.reduceEqDiff, reduceCtorEq, List.map_cons, List.map_nil, List.nil_append, List.append_nil, List.toList_toArray, c0, c1, c7, cv8, bs1, app1, fdiv2]; with_reducible rfl) (fun _ => ?_) (fun _ => ?_)
     | refine condB (by simp only [↓evP, ↓tgP, ↓reduceIte, Nat.reduceEqDiff, reduceCtorEq, List.map_cons, List.map_nil, List.nil_append, List.append_nil, List.toList_toArray, c0, c1, c7, cv8, bs1, app1, fdiv2]; with_reducible rfl) (fun _ => ?_) (fun _ => ?_)
   | with_reducible refine Ev.seq ?_
   | with_reducible refine Ev.ops ?_
   | with_reducible refine NxE ?_
   | with_reducible refine BxN ?_
   | with_reducible refine BxX ?_
   | with_reducible refine NxX ?_
   | with_reducible refine NxR ?_
   | with_reducible refine BxR ?_
   | with_reducible refine NxG ?_
   | with_reducible refine BxG ?_
   | with_reducible refine GxR ?_
   | with_reducible refine GxN ?_
   | with_reducible refine GxX ?_
   | with_reducible refine Ev.goto ?_
   | with_reducible refine Ev.block ?_
   | with_reducible refine Ev.skip ?_
   | with_reducible refine Ev.exit ?_
   | with_reducible refine Ev.ret ?_
   | with_reducible refine Ev.label ?_
   | with_reducible refine EvOps.nil ?_
   | with_reducible refine EvPlan.nil ?_
   | (with_reducible refine BxO ?_ ?_; · decide)
   )
  · have e1 : (8 * ((r : Int) - 1)).toNat = 8 * (m - 1 - (m - r)) := by omega
    have e2 : upTo x m (m - (r - 1)) = upTo x m (m - r) ++ [byteAt x (m - 1 - (m - r))] := by
      rw [show m - (r - 1) = (m - r) + 1 by omega]; exact upTo_succ x (by omega)
    refine ⟨r - 1, by omega, rfl, n + (m - r), .inr ⟨by omega, by omega⟩, by omega, ?_, ?_, ?_, ?_⟩
    · simp only [↓evP, ↓tgP, ↓reduceIte, Nat.reduceEqDiff, reduceCtorEq, List.map_cons, List.map_nil, List.nil_append, List.append_nil, List.toList_toArray, c0]
      rw [show len + (m - (r - 1)) = len + (m - r) + 1 by omega]
    · simp only [↓evP, ↓tgP, ↓reduceIte, Nat.reduceEqDiff, reduceCtorEq, List.map_cons, List.map_nil, List.nil_append, List.append_nil, List.toList_toArray, c1]
    · simp only [↓evP, ↓tgP, ↓reduceIte, Nat.reduceEqDiff, reduceCtorEq, List.map_cons, List.map_nil, List.nil_append, List.append_nil, List.toList_toArray, c7]
      congr 1; omega
    · rw [e1, e2, ← List.append_assoc, show n + (m - r) + 1 = n + (m - (r - 1)) by omega]; rfl
  · obtain rfl : r = 0 := by omega
    obtain rfl : kj = n + m - 1 := by omega
    refine leafS (vs := [.msl (n + m - 1) 0 (len + (m - 0)) (ownC 1)]) (by simp (disch := (first | assumption | omega | (simp only [List.length_append, bytesL_length, ofBytes_length, List.length_take, List.length_drop, List.length_cons, List.length_nil]; omega))) only [↓opE, ↓evP, stE, binE, ldE, ↓tgP, ↓reduceIte, clE, ncE, szE, hgE, intBin, shiftBin, strBin, unV, indexAddrV, indexV, lenV, partV, isAggT, sliceV, boundsV, bndV, asIntV, fieldAddrV, fieldV, putAt, nilCheckV, makeIfaceV, stripAgg, stripCell, decide_eq_true_eq, beqD, bneD, notD, beqS, if_true, if_false, ite_true, ite_false, Bool.true_eq_false, Bool.false_eq_true, Nat.reduceEqDiff, Nat.reduceBEq, Nat.reduceAdd, Nat.reduceSub, Nat.reduceMul, Nat.min_def, Nat.reducePow, Nat.reduceLeDiff, Nat.reduceLT, Int.reduceEq, Int.reduceNe, Int.reduceLT, Int.reduceLE, Int.reduceToNat, Int.reduceAdd, Int.reduceSub, Int.reduceMul, Int.reducePow, Int.reduceNeg, Option.map_some, Option.map_none, Option.bind_some, Option.getD_some, Option.getD_none, ofBytes_length, ofBytes_get, ofBytes_take, ofBytes_drop, Int.toNat_natCast, Int.natCast_nonneg, and_self, true_and, and_true, List.getElem?_cons_zero, List.getElem?_cons_succ, decide_true, decide_false, Bool.not_true, Bool.not_false, List.getElem_toArray, List.getElem?_toArray, List.getElem_cons_succ, List.getElem_cons_zero, List.toList_toArray, List.map_cons, List.map_nil, List.take_succ_cons, List.take_zero, List.drop_succ_cons, List.drop_zero, List.length_cons, List.length_nil, List.nil_append, List.cons_append, List.append_nil, Nat.le_refl, Nat.zero_add, Nat.mul_one, Nat.add_zero, Nat.zero_lt_one, List.length_singleton, IntKind.bits, reduceCtorEq, not_true_eq_false, not_false_eq_true, ne_eq, if_pos, if_neg, wI64, wI32, wU8, wU16, wU32, wU64, Int.emod_eq_of_lt, Int.fdiv_eq_ediv_of_nonneg, Int.tdiv_eq_ediv_of_nonneg, Int.tmod_eq_emod_of_nonneg, tyE, Try.underlying25, Try.underlying36, cvE, bdE, resultsV, show Try.f21.results.toList = [.tmp 6] from rfl]) ?_
    have e : upTo x m (m - 0) = bytesL x m := by unfold upTo; rw [List.take_of_length_le (by rw [bytesL_length]; omega)]
    simp only [leaveV, packV, show cx.grow 21 = true from rfl, show cx.keep 21 = true from rfl, if_true, Nat.sub_zero]
    rw [Nat.sub_zero] at e
    rw [e]

set_option maxHeartbeats 4000000 in
theorem putF (H : List (Nat × Ob)) (n : Nat) (l : List UInt8) (len : Nat) (hll : l.length = len) (hl : len ≤ 1000) (x : Int) (hx : 0 ≤ x) (m : Nat) (hm1 : 1 ≤ m) (hm : m ≤ 8) :
    FnS cx 21 [.sl .full (ofBytes l), .int .u64 x, .int .i64 m] ⟨H, n⟩ (.msl (n + m - 1) 0 (len + m) (ownC 1)) ⟨(n + m - 1, .cells (ofBytes (l ++ bytesL x m))) :: H, n + m⟩ := by
  refine goS Try.func21 rfl rfl rfl rfl ?_
  intro t ht
  have a0 : tget t 0 = .sl .full (ofBytes l) := ht 0 _ rfl
  have a1 : tget t 1 = .int .u64 x := ht 1 _ rfl
  have a2 : tget t 2 = .int .i64 m := ht 2 _ rfl
  clear ht
  repeat' (first
   | (with_reducible refine isO ?_); first
     | refine sMv (by simp only [↓evP, ↓tgP, ↓reduceIte, Nat.reduceEqDiff, reduceCtorEq, List.map_cons, List.map_nil, List.nil_append, List.append_nil, List.toList_toArray, a0, a1, a2]; with_reducible rfl) ?_
     | refine sAs (by simp only [↓evP, ↓tgP, ↓reduceIte, Nat.reduceEqDiff, reduceCtorEq, List.map_cons, List.map_nil, List.nil_append, List.append_nil, List.toList_toArray, a0, a1, a2]; with_reducible rfl) ?_
     | refine sQ (by simp (disch := (first | assumption | omega | (simp only [List.length_append, bytesL_length, ofBytes_length, List.length_take, List.length_drop, List.length_cons, List.length_nil]; omega))) only [↓opE, ↓evP, stE, binE, ldE, ↓tgP, ↓reduceIte, clE, ncE, szE, hgE, intBin, shiftBin, strBin, unV, indexAddrV, indexV, lenV, partV, isAggT, sliceV, boundsV, bndV, asIntV, fieldAddrV, fieldV, putAt, nilCheckV, makeIfaceV, stripAgg, stripCell, decide_eq_true_eq, beqD, bneD, notD, beqS, if_true, if_false, ite_true, ite_false, Bool.true_eq_false, Bool.false_eq_true, Nat.reduceEqDiff, Nat.reduceBEq, Nat.reduceAdd, Nat.reduceSub, Nat.reduceMul, Nat.min_def, Nat.reducePow, Nat.reduceLeDiff, Nat.reduceLT, Int.reduceEq, Int.reduceNe, Int.reduceLT, Int.reduceLE, Int.reduceToNat, Int.reduceAdd, Int.reduceSub, Int.reduceMul, Int.reducePow, Int.reduceNeg, Option.map_some, Option.map_none, Option.bind_some, Option.getD_some, Option.getD_none, ofBytes_length, ofBytes_get, ofBytes_take, ofBytes_drop, Int.toNat_natCast, Int.natCast_nonneg, and_self, true_and, and_true, List.getElem?_cons_zero, List.getElem?_cons_succ, decide_true, decide_false, Bool.not_true, Bool.not_false, List.getElem_toArray, List.getElem?_toArray, List.getElem_cons_succ, List.getElem_cons_zero, List.toList_toArray, List.map_cons, List.map_nil, List.take_succ_cons, List.take_zero, List.drop_succ_cons, List.drop_zero, List.length_cons, List.length_nil, List.nil_append, List.cons_append, List.append_nil, Nat.le_refl, Nat.zero_add, Nat.mul_one, Nat.add_zero, Nat.zero_lt_one, List.length_singleton, IntKind.bits, reduceCtorEq, not_true_eq_false, not_false_eq_true, ne_eq, if_pos, if_neg, wI64, wI32, wU8, wU16, wU32, wU64, Int.emod_eq_of_lt, Int.fdiv_eq_ediv_of_nonneg, Int.tdiv_eq_ediv_of_nonneg, Int.tmod_eq_emod_of_nonneg, tyE, Try.underlying25, Try.underlying36, cvE, bdE, a0, a1, a2]; with_reducible rfl) ?_
     | refine sW rfl (by simp (disch := (first | assumption | omega | (simp only [List.length_append, bytesL_length, ofBytes_length, List.length_take, List.length_drop, List.length_cons, List.length_nil]; omega))) only [↓opE, ↓evP, stE, binE, ldE, ↓tgP, ↓reduceIte, clE, ncE, szE, hgE, intBin, shiftBin, strBin, unV, indexAddrV, indexV, lenV, partV, isAggT, sliceV, boundsV, bndV, asIntV, fieldAddrV, fieldV, putAt, nilCheckV, makeIfaceV, stripAgg, stripCell, decide_eq_true_eq, beqD, bneD, notD, beqS, if_true, if_false, ite_true, ite_false, Bool.true_eq_false, Bool.false_eq_true, Nat.reduceEqDiff, Nat.reduceBEq, Nat.reduceAdd, Nat.reduceSub, Nat.reduceMul, Nat.min_def, Nat.reducePow, Nat.reduceLeDiff, Nat.reduceLT, Int.reduceEq, Int.reduceNe, Int.reduceLT, Int.reduceLE, Int.reduceToNat, Int.reduceAdd, Int.reduceSub, Int.reduceMul, Int.reducePow, Int.reduceNeg, Option.map_some, Option.map_none, Option.bind_some, Option.getD_some, Option.getD_none, ofBytes_length, ofBytes_get, ofBytes_take, ofBytes_drop, Int.toNat_natCast, Int.natCast_nonneg, and_self, true_and, and_true, List.getElem?_cons_zero, List.getElem?_cons_succ, decide_true, decide_false, Bool.not_true, Bool.not_false, List.getElem_toArray, List.getElem?_toArray, List.getElem_cons_succ, List.getElem_cons_zero, List.toList_toArray, List.map_cons, List.map_nil, List.take_succ_cons, List.take_zero, List.drop_succ_cons, List.drop_zero, List.length_cons, List.length_nil, List.nil_append, List.cons_append, List.append_nil, Nat.le_refl, Nat.zero_add, Nat.mul_one, Nat.add_zero, Nat.zero_lt_one, List.length_singleton, IntKind.bits, reduceCtorEq, not_true_eq_false, not_false_eq_true, ne_eq, if_pos, if_neg, wI64, wI32, wU8, wU16, wU32, wU64, Int.emod_eq_of_lt, Int.fdiv_eq_ediv_of_nonneg, Int.tdiv_eq_ediv_of_nonneg, Int.tmod_eq_emod_of_nonneg, tyE, Try.underlying25, Try.underlying36, cvE, bdE, wrOp, a0, a1, a2]; with_reducible rfl) ?_
   | (with_reducible refine isC ?_); first
     | refine condT (by (simp (disch := (first | assumption | omega)) only [↓evP, ↓tgP, ↓reduceIte, Nat.reduceEqDiff, reduceCtorEq, decide_true, decide_false, notD, Bool.not_true, Bool.not_false, decide_eq_true, decide_eq_false, a0, a1, a2]); first | done | fail) ?_
     | refine condF (by (simp (disch := (first | assumption | omega)) only [↓evP, ↓tgP, ↓reduceIte, Nat.reduceEqDiff, reduceCtorEq, decide_true, decide_false, notD, Bool.not_true, Bool.not_false, decide_eq_true, decide_eq_false, a0, a1, a2]); first | done | fail) ?_
     | refine condD (by simp only [↓evP, ↓tgP, ↓reduceIte, Nat.reduceEqDiff, reduceCtorEq, List.map_cons, List.map_nil, List.nil_append, List.append_nil, List.toList_toArray, a0, a1, a2]; with_reducible rfl) (fun _ => ?_) (fun _ => ?_)
     | refine condB (by simp only [↓evP, ↓tgP, ↓reduceIte, Nat.reduceEqDiff, reduceCtorEq, List.map_cons, List.map_nil, List.nil_append, List.append_nil, List.toList_toArray, a0, a1, a2]; with_reducible rfl) (fun _ => ?_) (fun _ => ?_)
   | with_reducible refine Ev.seq ?_
   | with_reducible refine Ev.ops ?_
   | with_reducible refine NxE ?_
   | with_reducible refine BxN ?_
   | with_reducible refine BxX ?_
   | with_reducible refine NxX ?_
   | with_reducible refine NxR ?_
   | with_reducible refine BxR ?_
   | with_reducible refine NxG ?_
   | with_reducible refine BxG ?_
   | with_reducible refine GxR ?_
   | with_reducible refine GxN ?_
   | with_reducible refine GxX ?_
   | with_reducible refine Ev.goto ?_
   | with_reducible refine Ev.block ?_
   | with_reducible refine Ev.skip ?_
   | with_reducible refine Ev.exit ?_
   | with_reducible refine Ev.ret ?_
   | with_reducible refine Ev.label ?_
   | with_reducible refine EvOps.nil ?_
   | with_reducible refine EvPlan.nil ?_
   | (with_reducible refine BxO ?_ ?_; · decide)
   )
  refine loopT (fun r t st => ((r = m ∧ tget t 0 = .sl .full (ofBytes l) ∧ st = ⟨H, n⟩) ∨ (r < m ∧ tget t 0 = .msl (n + (m - r) - 1) 0 (len + (m - r)) (ownC 1) ∧ st = ⟨(n + (m - r) - 1, .cells (ofBytes (l ++ upTo x m (m - r)))) :: H, n + (m - r)⟩)) ∧ tget t 1 = .int .u64 x ∧ tget t 7 = .int .i64 ((r : Int) - 1)) (n := m) ?_ ?_
  · refine ⟨.inl ⟨rfl, ?_, ?_⟩, ?_, ?_⟩
    · simp only [↓evP, ↓tgP, ↓reduceIte, Nat.reduceEqDiff, reduceCtorEq, List.map_cons, List.map_nil, List.nil_append, List.append_nil, List.toList_toArray, a0]
    · rfl
    · simp only [↓evP, ↓tgP, ↓reduceIte, Nat.reduceEqDiff, reduceCtorEq, List.map_cons, List.map_nil, List.nil_append, List.append_nil, List.toList_toArray, a1]
    · simp only [↓evP, ↓tgP, ↓reduceIte, Nat.reduceEqDiff, reduceCtorEq, List.map_cons, List.map_nil, List.nil_append, List.append_nil, List.toList_toArray, a0]
  rintro r t st ⟨⟨rfl, c0, rfl⟩ | ⟨hr, c0, rfl⟩, c1, c7⟩
  · have hlen : l.length ≤ 1000000 := by omega
    repeat' (first
     | (with_reducible refine isO ?_); first
       | refine sMv (by simp only [↓evP, ↓tgP, ↓reduceIte, Nat.reduceEqDiff, reduceCtorEq, List.map_cons, List.map_nil, List.nil_append, List.append_nil, List.toList_toArray, c0, c1, c7, cv8, bs1, app1F, fdiv2]; with_reducible rfl) ?_
       | refine sAs (by simp only [↓evP, ↓tgP, ↓reduceIte, Nat.reduceEqDiff, reduceCtorEq, List.map_cons, List.map_nil, List.nil_append, List.append_nil, List.toList_toArray, c0, c1, c7, cv8, bs1, app1F, fdiv2]; with_reducible rfl) ?_
       | refine sQ (by simp (disch := (first | assumption | omega | (simp only [List.length_append, bytesL_length, ofBytes_length, List.length_take, List.length_drop, List.length_cons, List.length_nil]; omega))) only [↓opE, ↓evP, stE, binE, ldE, ↓tgP, ↓reduceIte, clE, ncE, szE, hgE, intBin, shiftBin, strBin, unV, indexAddrV, indexV, lenV, partV, isAggT, sliceV, boundsV, bndV, asIntV, fieldAddrV, fieldV, putAt, nilCheckV, makeIfaceV, stripAgg, stripCell, decide_eq_true_eq, beqD, bneD, notD, beqS, if_true, if_false, ite_true, ite_false, Bool.true_eq_false, Bool.false_eq_true, Nat.reduceEqDiff, Nat.reduceBEq, Nat.reduceAdd, Nat.reduceSub, Nat.reduceMul, Nat.min_def, Nat.reducePow, Nat.reduceLeDiff, Nat.reduceLT, Int.reduceEq, Int.reduceNe, Int.reduceLT, Int.reduceLE, Int.reduceToNat, Int.reduceAdd, Int.reduceSub, Int.reduceMul, Int.reducePow, Int.reduceNeg, Option.map_some, Option.map_none, Option.bind_some, Option.getD_some, Option.getD_none, ofBytes_length, ofBytes_get, ofBytes_take, ofBytes_drop, Int.toNat_natCast, Int.natCast_nonneg, and_self, true_and, and_true, List.getElem?_cons_zero, List.getElem?_cons_succ, decide_true, decide_false, Bool.not_true, Bool.not_false, List.getElem_toArray, List.getElem?_toArray, List.getElem_cons_succ, List.getElem_cons_zero, List.toList_toArray, List.map_cons, List.map_nil, List.take_succ_cons, List.take_zero, List.drop_succ_cons, List.drop_zero, List.length_cons, List.length_nil, List.nil_append, List.cons_append, List.append_nil, Nat.le_refl, Nat.zero_add, Nat.mul_one, Nat.add_zero, Nat.zero_lt_one, List.length_singleton, IntKind.bits, reduceCtorEq, not_true_eq_false, not_false_eq_true, ne_eq, if_pos, if_neg, wI64, wI32, wU8, wU16, wU32, wU64, Int.emod_eq_of_lt, Int.fdiv_eq_ediv_of_nonneg, Int.tdiv_eq_ediv_of_nonneg, Int.tmod_eq_emod_of_nonneg, tyE, Try.underlying25, Try.underlying36, cvE, bdE, c0, c1, c7, cv8, bs1, app1F, fdiv2]; with_reducible rfl) ?_
       | refine sW rfl (by simp (disch := (first | assumption | omega | (simp only [List.length_append, bytesL_length, ofBytes_length, List.length_take, List.length_drop, List.length_cons, List.length_nil]; omega))) only [↓opE, ↓evP, stE, binE, ldE, ↓tgP, ↓reduceIte, clE, ncE, szE, hgE, intBin, shiftBin, strBin, unV, indexAddrV, indexV, lenV, partV, isAggT, sliceV, boundsV, bndV, asIntV, fieldAddrV, fieldV, putAt, nilCheckV, makeIfaceV, stripAgg, stripCell, decide_eq_true_eq, beqD, bneD, notD, beqS, if_true, if_false, ite_true, ite_false, Bool.true_eq_false, Bool.false_eq_true, Nat.reduceEqDiff, Nat.reduceBEq, Nat.reduceAdd, Nat.reduceSub, Nat.reduceMul, Nat.min_def, Nat.reducePow, Nat.reduceLeDiff, Nat.reduceLT, Int.reduceEq, Int.reduceNe, Int.reduceLT, Int.reduceLE, Int.reduceToNat, Int.reduceAdd, Int.reduceSub, Int.reduceMul, Int.reducePow, Int.reduceNeg, Option.map_some, Option.map_none, Option.bind_some, Option.getD_some, Option.getD_none, ofBytes_length, ofBytes_get, ofBytes_take, ofBytes_drop, Int.toNat_natCast, Int.natCast_nonneg, and_self, true_and, and_true, List.getElem?_cons_zero, List.getElem?_cons_succ, decide_true, decide_false, Bool.not_true, Bool.not_false, List.getElem_toArray, List.getElem?_toArray, List.getElem_cons_succ, List.getElem_cons_zero, List.toList_toArray, List.map_cons, List.map_nil, List.take_succ_cons, List.take_zero, List.drop_succ_cons, List.drop_zero, List.length_cons, List.length_nil, List.nil_append, List.cons_append, List.append_nil, Nat.le_refl, Nat.zero_add, Nat.mul_one, Nat.add_zero, Nat.zero_lt_one, List.length_singleton, IntKind.bits, reduceCtorEq, not_true_eq_false, not_false_eq_true, ne_eq, if_pos, if_neg, wI64, wI32, wU8, wU16, wU32, wU64, Int.emod_eq_of_lt, Int.fdiv_eq_ediv_of_nonneg, Int.tdiv_eq_ediv_of_nonneg, Int.tmod_eq_emod_of_nonneg, tyE, Try.underlying25, Try.underlying36, cvE, bdE, wrOp, c0, c1, c7, cv8, bs1, app1F, fdiv2]; with_reducible rfl) ?_
     | (with_reducible refine isC ?_); first
       | refine condT (by (simp (disch := (first | assumption | omega)) only [↓evP, ↓tgP, ↓reduceIte, Nat.reduceEqDiff, reduceCtorEq, decide_true, decide_false, notD, Bool.not_true, Bool.not_false, decide_eq_true, decide_eq_false, c0, c1, c7, cv8, bs1, app1F, fdiv2]); first | done | fail) ?_
       | refine condF (by (simp (disch := (first | assumption | omega)) only [↓evP, ↓tgP, ↓reduceIte, Nat.reduceEqDiff, reduceCtorEq, decide_true, decide_false, notD, Bool.not_true, Bool.not_false, decide_eq_true, decide_eq_false, c0, c1, c7, cv8, bs1, app1F, fdiv2]); first | done | fail) ?_
       | refine condD (by simp only [↓evP, ↓tgP, ↓reduceIte, Nat.reduceEqDiff, reduceCtorEq, List.map_cons, List.map_nil, List.nil_append, List.append_nil, List.toList_toArray, c0, c1, c7, cv8, bs1, app1F, fdiv2]; with_reducible rfl) (fun _ => ?_) (fun _ => ?_)
       | refine condB (by simp only [↓evP, ↓tgP, ↓reduceIte, Nat.reduceEqDiff, reduceCtorEq, List.map_cons, List.map_nil, List.nil_append, List.append_nil, List.toList_toArray, c0, c1, c7, cv8, bs1, app1F, fdiv2]; with_reducible rfl) (fun _ => ?_) (fun _ => ?_)
     | with_reducible refine Ev.seq ?_
     | with_reducible refine Ev.ops ?_
     | with_reducible refine NxE ?_
     | with_reducible refine BxN ?_
     | with_reducible refine BxX ?_
     | with_reducible refine NxX ?_
     | with_reducible refine NxR ?_
     | with_reducible refine BxR ?_
     | with_reducible refine NxG ?_
     | with_reducible refine BxG ?_
     | with_reducible refine GxR ?_
     | with_reducible refine GxN ?_
     | with_reducible refine GxX ?_
     | with_reducible refine Ev.goto ?_
     | with_reducible refine Ev.block ?_
     | with_reducible refine Ev.skip ?_
     | with_reducible refine Ev.exit ?_
     | with_reducible refine Ev.ret ?_
     | with_reducible refine Ev.label ?_
     | with_reducible refine EvOps.nil ?_
     | with_reducible refine EvPlan.nil ?_
     | (with_reducible refine BxO ?_ ?_; · decide)
     )
    · have e1 : (8 * ((r : Int) - 1)).toNat = 8 * (r - 1 - 0) := by omega
      have e2 : upTo x r (r - (r - 1)) = [byteAt x (r - 1 - 0)] := by
        rw [show r - (r - 1) = 0 + 1 by omega, upTo_succ x (by omega)]; simp [upTo]
      refine ⟨r - 1, by omega, rfl, .inr ⟨by omega, ?_, ?_⟩, ?_, ?_⟩
      · simp only [↓evP, ↓tgP, ↓reduceIte, Nat.reduceEqDiff, reduceCtorEq, List.map_cons, List.map_nil, List.nil_append, List.append_nil, List.toList_toArray, c0]
        rw [hll, show n + (r - (r - 1)) - 1 = n by omega, show len + (r - (r - 1)) = len + 1 by omega]
      · rw [e1, e2, show n + (r - (r - 1)) - 1 = n by omega, show n + (r - (r - 1)) = n + 1 by omega]; rfl
      · simp only [↓evP, ↓tgP, ↓reduceIte, Nat.reduceEqDiff, reduceCtorEq, List.map_cons, List.map_nil, List.nil_append, List.append_nil, List.toList_toArray, c1]
      · simp only [↓evP, ↓tgP, ↓reduceIte, Nat.reduceEqDiff, reduceCtorEq, List.map_cons, List.map_nil, List.nil_append, List.append_nil, List.toList_toArray, c7]
        congr 1; omega
  have hlen : (l ++ upTo x m (m - r)).length ≤ 1000000 := by simp [upTo, bytesL_length]; omega
  have hlen2 : (l ++ upTo x m (m - r)).length = len + (m - r) := by simp [upTo, bytesL_length]; omega
  repeat' (first
   | (with_reducible refine isO ?_); first
     | refine sMv (by simp only [↓evP, ↓tgP, ↓reduceIte, Nat.reduceEqDiff, reduceCtorEq, List.map_cons, List.map_nil, List.nil_append, List.append_nil, List.toList_toArray, c0, c1, c7, cv8, bs1, app1, fdiv2]; with_reducible rfl) ?_
     | refine sAs (by simp only [↓evP, ↓tgP, ↓reduceIte, Nat.reduceEqDiff, reduceCtorEq, List.map_cons, List.map_nil, List.nil_append, List.append_nil, List.toList_toArray, c0, c1, c7, cv8, bs1, app1, fdiv2]; with_reducible rfl) ?_
     | refine sQ (by simp (disch := (first | assumption | omega | (simp only [List.length_append, bytesL_length, ofBytes_length, List.length_take, List.length_drop, List.length_cons, List.length_nil]; omega))) only [↓opE, ↓evP, stE, binE, ldE, ↓tgP, ↓reduceIte, clE, ncE, szE, hgE, intBin, shiftBin, strBin, unV, indexAddrV, indexV, lenV, partV, isAggT, sliceV, boundsV, bndV, asIntV, fieldAddrV, fieldV, putAt, nilCheckV, makeIfaceV, stripAgg, stripCell, decide_eq_true_eq, beqD, bneD, notD, beqS, if_true, if_false, ite_true, ite_false, Bool.true_eq_false, Bool.false_eq_true, Nat.reduceEqDiff, Nat.reduceBEq, Nat.reduceAdd, Nat.reduceSub, Nat.reduceMul, Nat.min_def, Nat.reducePow, Nat.reduceLeDiff, Nat.reduceLT, Int.reduceEq, Int.reduceNe, Int.reduceLT, Int.reduceLE, Int.reduceToNat, Int.reduceAdd, Int.reduceSub, Int.reduceMul, Int.reducePow, Int.reduceNeg, Option.map_some, Option.map_none, Option.bind_some, Option.getD_some, Option.getD_none, ofBytes_length, ofBytes_get, ofBytes_take, ofBytes_drop, Int.toNat_natCast, Int.natCast_nonneg, and_self, true_and, and_true, List.getElem?_cons_zero, List.getElem?_cons_succ, decide_true, decide_false, Bool.not_true, Bool.not_false, List.getElem_toArray, List.getElem?_toArray, List.getElem_cons_succ, List.getElem_cons_zero, List.toList_toArray, List.map_cons, List.map_nil, List.take_succ_cons, List.take_zero, List.drop_succ_cons, List.drop_zero, List.length_cons, List.length_nil, List.nil_append, List.cons_append, List.append_nil, Nat.le_refl, Nat.zero_add, Nat.mul_one, Nat.add_zero, Nat.zero_lt_one, List.length_singleton, IntKind.bits, reduceCtorEq, not_true_eq_false, not_false_eq_true, ne_eq, if_pos, if_neg, wI64, wI32, wU8, wU16, wU32, wU64, Int.emod_eq_of_lt, Int.fdiv_eq_ediv_of_nonneg, Int.tdiv_eq_ediv_of_nonneg, Int.tmod_eq_emod_of_nonneg, tyE, Try.underlying25, Try.underlying36, cvE, bdE, c0, c1, c7, cv8, bs1, app1, fdiv2]; with_reducible rfl) ?_
     | refine sW rfl (by simp (disch := (first | assumption | omega | (simp only [List.length_append, bytesL_length, ofBytes_length, List.length_take, List.length_drop, List.length_cons, List.length_nil]; omega))) only [↓opE, ↓evP, stE, binE, ldE, ↓tgP, ↓reduceIte, clE, ncE, szE, hgE, intBin, shiftBin, strBin, unV, indexAddrV, indexV, lenV, partV, isAggT, sliceV, boundsV, bndV, asIntV, fieldAddrV, fieldV, putAt, nilCheckV, makeIfaceV, stripAgg, stripCell, decide_eq_true_eq, beqD, bneD, notD, beqS, if_true, if_false, ite_true, ite_false, Bool.true_eq_false, Bool.false_eq_true, Nat.reduceEqDiff, Nat.reduceBEq, Nat.reduceAdd, Nat.reduceSub, Nat.reduceMul, Nat.min_def, Nat.reducePow, Nat.reduceLeDiff, Nat.reduceLT, Int.reduceEq, Int.reduceNe, Int.reduceLT, Int.reduceLE, Int.reduceToNat, Int.reduceAdd, Int.reduceSub, Int.reduceMul, Int.reducePow, Int.reduceNeg, Option.map_some, Option.map_none, Option.bind_some, Option.getD_some, Option.getD_none, ofBytes_length, ofBytes_get, ofBytes_take, ofBytes_drop, Int.toNat_natCast, Int.natCast_nonneg, and_self, true_and, and_true, List.getElem?_cons_zero, List.getElem?_cons_succ, decide_true, decide_false, Bool.not_true, Bool.not_false, List.getElem_toArray, List.getElem?_toArray, List.getElem_cons_succ, List.getElem_cons_zero, List.toList_toArray, List.map_cons, List.map_nil, List.take_succ_cons, List.take_zero, List.drop_succ_cons, List.drop_zero, List.length_cons, List.length_nil, List.nil_append, List.cons_append, List.append_nil, Nat.le_refl, Nat.zero_add, Nat.mul_one, Nat.add_zero, Nat.zero_lt_one, List.length_singleton, IntKind.bits, reduceCtorEq, not_true_eq_false, not_false_eq_true, ne_eq, if_pos, if_neg, wI64, wI32, wU8, wU16, wU32, wU64, Int.emod_eq_of_lt, Int.fdiv_eq_ediv_of_nonneg, Int.tdiv_eq_ediv_of_nonneg, Int.tmod_eq_emod_of_nonneg, tyE, Try.underlying25, Try.underlying36, cvE, bdE, wrOp, c0, c1, c7, cv8, bs1, app1, fdiv2]; with_reducible rfl) ?_
   | (with_reducible refine isC ?_); first
     | refine condT (by (simp (disch := (first | assumption | omega)) only [↓evP, ↓tgP, ↓reduceIte, Nat.reduceEqDiff, reduceCtorEq, decide_true, decide_false, notD, Bool.not_true, Bool.not_false, decide_eq_true, decide_eq_false, c0, c1, c7, cv8, bs1, app1, fdiv2]); first | done | fail) ?_
     | refine condF (by (simp (disch := (first | assumption | omega)) only [↓evP, ↓tgP, ↓reduceIte, Nat.reduceEqDiff, reduceCtorEq, decide_true, decide_false, notD, Bool.not_true, Bool.not_false, decide_eq_true, decide_eq_false, c0, c1, c7, cv8, bs1, app1, fdiv2]); first | done | fail) ?_
     | refine condD (by simp only [↓evP, ↓tgP, ↓reduceIte, Nat.reduceEqDiff, reduceCtorEq, List.map_cons, List.map_nil, List.nil_append, List.append_nil, List.toList_toArray, c0, c1, c7, cv8, bs1, app1, fdiv2]; with_reducible rfl) (fun _ => ?_) (fun _ => ?_)
     | refine condB (by simp only [↓evP, ↓tgP, ↓reduceIte, Nat.reduceEqDiff, reduceCtorEq, List.map_cons, List.map_nil, List.nil_append, List.append_nil, List.toList_toArray, c0, c1, c7, cv8, bs1, app1, fdiv2]; with_reducible rfl) (fun _ => ?_) (fun _ => ?_)
   | with_reducible refine Ev.seq ?_
   | with_reducible refine Ev.ops ?_
   | with_reducible refine NxE ?_
   | with_reducible refine BxN ?_
   | with_reducible refine BxX ?_
   | with_reducible refine NxX ?_
   | with_reducible refine NxR ?_
   | with_reducible refine BxR ?_
   | with_reducible refine NxG ?_
   | with_reducible refine BxG ?_
   | with_reducible refine GxR ?_
   | with_reducible refine GxN ?_
   | with_reducible refine GxX ?_
   | with_reducible refine Ev.goto ?_
   | with_reducible refine Ev.block ?_
   | with_reducible refine Ev.skip ?_
   | with_reducible refine Ev.exit ?_
   | with_reducible refine Ev.ret ?_
   | with_reducible refine Ev.label ?_
   | with_reducible refine EvOps.nil ?_
   | with_reducible refine EvPlan.nil ?_
   | (with_reducible refine BxO ?_ ?_; · decide)
   )
  · have e1 : (8 * ((r : Int) - 1)).toNat = 8 * (m - 1 - (m - r)) := by omega
    have e2 : upTo x m (m - (r - 1)) = upTo x m (m - r) ++ [byteAt x (m - 1 - (m - r))] := by
      rw [show m - (r - 1) = (m - r) + 1 by omega]; exact upTo_succ x (by omega)
    refine ⟨r - 1, by omega, rfl, .inr ⟨by omega, ?_, ?_⟩, ?_, ?_⟩
    · simp only [↓evP, ↓tgP, ↓reduceIte, Nat.reduceEqDiff, reduceCtorEq, List.map_cons, List.map_nil, List.nil_append, List.append_nil, List.toList_toArray, c0]
      rw [show n + (m - (r - 1)) - 1 = n + (m - r) by omega, show len + (m - (r - 1)) = len + (m - r) + 1 by omega]
    · rw [e1, e2, ← List.append_assoc, show n + (m - (r - 1)) - 1 = n + (m - r) by omega, show n + (m - r) + 1 = n + (m - (r - 1)) by omega]; rfl
    · simp only [↓evP, ↓tgP, ↓reduceIte, Nat.reduceEqDiff, reduceCtorEq, List.map_cons, List.map_nil, List.nil_append, List.append_nil, List.toList_toArray, c1]
    · simp only [↓evP, ↓tgP, ↓reduceIte, Nat.reduceEqDiff, reduceCtorEq, List.map_cons, List.map_nil, List.nil_append, List.append_nil, List.toList_toArray, c7]
      congr 1; omega
  · obtain rfl : r = 0 := by omega
    refine leafS (vs := [.msl (n + (m - 0) - 1) 0 (len + (m - 0)) (ownC 1)]) (by simp (disch := (first | assumption | omega | (simp only [List.length_append, bytesL_length, ofBytes_length, List.length_take, List.length_drop, List.length_cons, List.length_nil]; omega))) only [↓opE, ↓evP, stE, binE, ldE, ↓tgP, ↓reduceIte, clE, ncE, szE, hgE, intBin, shiftBin, strBin, unV, indexAddrV, indexV, lenV, partV, isAggT, sliceV, boundsV, bndV, asIntV, fieldAddrV, fieldV, putAt, nilCheckV, makeIfaceV, stripAgg, stripCell, decide_eq_true_eq, beqD, bneD, notD, beqS, if_true, if_false, ite_true, ite_false, Bool.true_eq_false, Bool.false_eq_true, Nat.reduceEqDiff, Nat.reduceBEq, Nat.reduceAdd, Nat.reduceSub, Nat.reduceMul, Nat.min_def, Nat.reducePow, Nat.reduceLeDiff, Nat.reduceLT, Int.reduceEq, Int.reduceNe, Int.reduceLT, Int.reduceLE, Int.reduceToNat, Int.reduceAdd, Int.reduceSub, Int.reduceMul, Int.reducePow, Int.reduceNeg, Option.map_some, Option.map_none, Option.bind_some, Option.getD_some, Option.getD_none, ofBytes_length, ofBytes_get, ofBytes_take, ofBytes_drop, Int.toNat_natCast, Int.natCast_nonneg, and_self, true_and, and_true, List.getElem?_cons_zero, List.getElem?_cons_succ, decide_true, decide_false, Bool.not_true, Bool.not_false, List.getElem_toArray, List.getElem?_toArray, List.getElem_cons_succ, List.getElem_cons_zero, List.toList_toArray, List.map_cons, List.map_nil, List.take_succ_cons, List.take_zero, List.drop_succ_cons, List.drop_zero, List.length_cons, List.length_nil, List.nil_append, List.cons_append, List.append_nil, Nat.le_refl, Nat.zero_add, Nat.mul_one, Nat.add_zero, Nat.zero_lt_one, List.length_singleton, IntKind.bits, reduceCtorEq, not_true_eq_false, not_false_eq_true, ne_eq, if_pos, if_neg, wI64, wI32, wU8, wU16, wU32, wU64, Int.emod_eq_of_lt, Int.fdiv_eq_ediv_of_nonneg, Int.tdiv_eq_ediv_of_nonneg, Int.tmod_eq_emod_of_nonneg, tyE, Try.underlying25, Try.underlying36, cvE, bdE, resultsV, show Try.f21.results.toList = [.tmp 6] from rfl]) ?_
    have e : upTo x m (m - 0) = bytesL x m := by unfold upTo; rw [List.take_of_length_le (by rw [bytesL_length]; omega)]
    simp only [leaveV, packV, show cx.grow 21 = true from rfl, show cx.keep 21 = true from rfl, if_true, Nat.sub_zero]
    rw [Nat.sub_zero] at e
    rw [e]
end Go.Proofs.Ytfjhanjpacghkaa.M
