/- Numbers of bytes. -/
import Derived.Test.YtfjhanjpacghkaaEtV1
set_option linter.unusedSimpArgs false
set_option linter.unusedVariables false
set_option maxRecDepth 100000
namespace Go.Proofs.Ytfjhanjpacghkaa
open Go Go.Vm Go.Proofs

/-- A number of some bytes, the highest first. -/
def numL (x : Int) (bs : List UInt8) : Int := bs.foldl (fun x b => IntKind.u64.wrap (IntKind.u64.wrap (x * 256) + b.toNat)) x

theorem wrap_byte (b : UInt8) : IntKind.u64.wrap (b.toNat : Int) = b.toNat := by
  have := b.toNat_lt
  simp [IntKind.wrap, IntKind.signed, IntKind.bits]
  omega

theorem shl_or (x : Int) (b : UInt8) : IntKind.u64.wrap ((BitVec.ofInt IntKind.u64.bits (IntKind.u64.wrap (x * 2 ^ min (Int.toNat 8) IntKind.u64.bits)) ||| BitVec.ofInt IntKind.u64.bits (IntKind.u64.wrap (b.toNat : Int))).toNat : Int) = IntKind.u64.wrap (IntKind.u64.wrap (x * 256) + b.toNat) := by
  rw [wrap_byte]
  have hb := b.toNat_lt
  have e1 : x * 2 ^ min (Int.toNat 8) IntKind.u64.bits = x * 256 := rfl
  rw [e1]
  have e2 : IntKind.u64.wrap (x * 256) = (x * 256) % 18446744073709551616 := by simp [IntKind.wrap, IntKind.signed, IntKind.bits]
  rw [e2]
  have h0 : 0 ≤ (x * 256) % 18446744073709551616 := Int.emod_nonneg _ (by omega)
  have h1 : (x * 256) % 18446744073709551616 < 18446744073709551616 := Int.emod_lt_of_pos _ (by omega)
  obtain ⟨q, hq⟩ : ∃ q : Nat, (x * 256) % 18446744073709551616 = ((q * 256 : Nat) : Int) := ⟨((x * 256) % 18446744073709551616 / 256).toNat, by omega⟩
  rw [hq]
  have hlt : q * 256 < 18446744073709551616 := by omega
  have key : (BitVec.ofInt 64 ((q * 256 : Nat) : Int) ||| BitVec.ofInt 64 (b.toNat : Int)).toNat = q * 256 + b.toNat := by
    rw [BitVec.toNat_or, BitVec.ofInt_natCast, BitVec.ofInt_natCast, BitVec.toNat_ofNat, BitVec.toNat_ofNat, Nat.mod_eq_of_lt (by simpa using hlt), Nat.mod_eq_of_lt (by omega)]
    have := Nat.shiftLeft_add_eq_or_of_lt (a := q) (b := b.toNat) (i := 8) (by omega)
    rw [Nat.shiftLeft_eq] at this
    simpa using this.symm
  show IntKind.u64.wrap ((BitVec.ofInt 64 _ ||| BitVec.ofInt 64 _).toNat : Int) = _
  rw [key]
  simp

theorem numL_succ (bs : List UInt8) (i : Nat) (h : i < bs.length) : numL 0 (bs.take (i + 1)) = IntKind.u64.wrap (IntKind.u64.wrap (numL 0 (bs.take i) * 256) + (bs[i]).toNat) := by
  have e : bs.take (i + 1) = bs.take i ++ [bs[i]] := by simp
  unfold numL
  rw [e, List.foldl_append]
  rfl

theorem wrap_succ {i n : Nat} (hi : i < n) (hn : n ≤ maxLen) : IntKind.i64.wrap ((i : Int) + 1) = ((i + 1 : Nat) : Int) := by
  unfold maxLen at hn
  have : IntKind.i64.wrap ((i : Int) + 1) = (i : Int) + 1 := by
    simp [IntKind.wrap, IntKind.signed, IntKind.bits]
    omega
  rw [this]; rfl

theorem num_run (tip : Tip) (bs : List UInt8) (hn : bs.length ≤ maxLen) (st : St) (Q : V → St → Prop) (hQ : Q (.int .u64 (numL 0 bs)) st) : Vm.Fn cx 17 [.sl tip (ofBytes bs)] st Q := by
  refine fnP (t0 := [(0, unown (.sl tip (ofBytes bs))), (1, .any), (2, .any), (3, .any), (4, .any), (5, .any), (6, .any), (7, .any), (8, .any), (9, .any), (10, .any), (11, .any), (12, .any), (13, .any), (14, .any), (15, .any), (16, .any), (17, .any), (18, .any)]) Try.func17 rfl rfl rfl rfl rfl ?_ rfl ?_
  · cases tip <;> simp [unown, unownCell, pureVs, pureV, pureVs_ofBytes]
  obtain ⟨u, hu⟩ : ∃ u, unown (.sl tip (ofBytes bs)) = .sl u (ofBytes bs) := by
    cases tip <;> exact ⟨_, rfl⟩
  rw [hu]
  repeat (first
   | with_reducible refine Ev.seq ?_
   | with_reducible refine Ev.ops ?_
   | with_reducible refine NxE ?_
   | with_reducible refine BxN ?_
   | with_reducible refine BxX ?_
   | with_reducible refine NxX ?_
   | with_reducible refine NxR ?_
   | with_reducible refine BxR ?_
   | with_reducible refine Ev.block ?_
   | with_reducible refine Ev.skip ?_
   | with_reducible refine Ev.exit ?_
   | with_reducible refine Ev.ret ?_
   | with_reducible refine Ev.label ?_
   | with_reducible refine EvOps.nil ?_
   | with_reducible refine EvPlan.nil ?_
   | refine evQ rfl (by simp only [opE, evE, binE, ldE, tgE, clE, ncE, szE, hgE, tyE, intBin, shiftBin, indexAddrV, convV, lenV, partV, isAggT, sliceV, boundsV, bndV, asIntV, beq_self_eq_true, if_true, Nat.reduceBEq, Bool.false_eq_true, if_false, Option.map_some, Option.map_none, Option.bind_some, ofBytes_length, ofBytes_get, Int.toNat_natCast, Int.natCast_nonneg, Nat.zero_lt_one, and_self, Nat.reduceLT, Int.reduceLT, true_and, and_true, List.getElem?_cons_zero]; rfl) (by simp only [tsE, tgE, beq_self_eq_true, if_true, Nat.reduceBEq, Bool.false_eq_true, if_false]; rfl) ?_
   | refine evW rfl rfl (by simp only [opE, evE, binE, ldE, tgE, clE, ncE, szE, hgE, tyE, intBin, shiftBin, indexAddrV, convV, lenV, partV, isAggT, sliceV, boundsV, bndV, asIntV, beq_self_eq_true, if_true, Nat.reduceBEq, Bool.false_eq_true, if_false, Option.map_some, Option.map_none, Option.bind_some, ofBytes_length, ofBytes_get, Int.toNat_natCast, Int.natCast_nonneg, Nat.zero_lt_one, and_self, Nat.reduceLT, Int.reduceLT, true_and, and_true, List.getElem?_cons_zero, wrOp, storeH, hset, putAt]; rfl) (by simp only [tsE, tgE, beq_self_eq_true, if_true, Nat.reduceBEq, Bool.false_eq_true, if_false]; rfl) ?_
   )
  refine Ev.loop_ind (fun n f st => ∃ (i : Nat) (j4 j5 j9 j10 j11 j12 j13 j14 j15 j16 j17 j18 : V), n = bs.length - i ∧ i ≤ bs.length ∧ f = ⟨[(0, .sl u (ofBytes bs)), (1, .any), (2, .int .u64 0), (3, .int .u64 (numL 0 (bs.take i))), (4, j4), (5, j5), (6, .sl u (ofBytes bs)), (7, .int .i64 bs.length), (8, .int .i64 i), (9, j9), (10, j10), (11, j11), (12, j12), (13, j13), (14, j14), (15, j15), (16, j16), (17, j17), (18, j18)], []⟩ ∧ st = ⟨[], 0⟩) ⟨0, .any, .any, .any, .any, .any, .any, .any, .any, .any, .any, .any, .any, rfl, Nat.zero_le _, by simp [numL], rfl⟩ ?_
  rintro n f st2 ⟨i, j4, j5, j9, j10, j11, j12, j13, j14, j15, j16, j17, j18, rfl, hi, rfl, rfl⟩
  repeat (first
   | with_reducible refine Ev.seq ?_
   | with_reducible refine Ev.ops ?_
   | with_reducible refine NxE ?_
   | with_reducible refine BxN ?_
   | with_reducible refine BxX ?_
   | with_reducible refine NxX ?_
   | with_reducible refine NxR ?_
   | with_reducible refine BxR ?_
   | with_reducible refine Ev.block ?_
   | with_reducible refine Ev.skip ?_
   | with_reducible refine Ev.exit ?_
   | with_reducible refine Ev.ret ?_
   | with_reducible refine Ev.label ?_
   | with_reducible refine EvOps.nil ?_
   | with_reducible refine EvPlan.nil ?_
   | refine evQ rfl (by simp only [opE, evE, binE, ldE, tgE, clE, ncE, szE, hgE, tyE, intBin, shiftBin, indexAddrV, convV, lenV, partV, isAggT, sliceV, boundsV, bndV, asIntV, beq_self_eq_true, if_true, Nat.reduceBEq, Bool.false_eq_true, if_false, Option.map_some, Option.map_none, Option.bind_some, ofBytes_length, ofBytes_get, Int.toNat_natCast, Int.natCast_nonneg, Nat.zero_lt_one, and_self, Nat.reduceLT, Int.reduceLT, true_and, and_true, List.getElem?_cons_zero]; rfl) (by simp only [tsE, tgE, beq_self_eq_true, if_true, Nat.reduceBEq, Bool.false_eq_true, if_false]; rfl) ?_
   | refine evW rfl rfl (by simp only [opE, evE, binE, ldE, tgE, clE, ncE, szE, hgE, tyE, intBin, shiftBin, indexAddrV, convV, lenV, partV, isAggT, sliceV, boundsV, bndV, asIntV, beq_self_eq_true, if_true, Nat.reduceBEq, Bool.false_eq_true, if_false, Option.map_some, Option.map_none, Option.bind_some, ofBytes_length, ofBytes_get, Int.toNat_natCast, Int.natCast_nonneg, Nat.zero_lt_one, and_self, Nat.reduceLT, Int.reduceLT, true_and, and_true, List.getElem?_cons_zero, wrOp, storeH, hset, putAt]; rfl) (by simp only [tsE, tgE, beq_self_eq_true, if_true, Nat.reduceBEq, Bool.false_eq_true, if_false]; rfl) ?_
   )
  refine Ev.cond2 (by simp only [evE, tsE, tgE, beq_self_eq_true, if_true, Nat.reduceBEq, Bool.false_eq_true, if_false]; rfl) (fun h => ?_) (fun h => ?_)
  · have h := of_decide_eq_true h
    have hlt : i < bs.length := by omega
    have hb : bs[i]? = some bs[i] := by simp [hlt]
    repeat (first
     | with_reducible refine Ev.seq ?_
     | with_reducible refine Ev.ops ?_
     | with_reducible refine NxE ?_
     | with_reducible refine BxN ?_
     | with_reducible refine BxX ?_
     | with_reducible refine NxX ?_
     | with_reducible refine NxR ?_
     | with_reducible refine BxR ?_
     | with_reducible refine Ev.block ?_
     | with_reducible refine Ev.skip ?_
     | with_reducible refine Ev.exit ?_
     | with_reducible refine Ev.ret ?_
     | with_reducible refine Ev.label ?_
     | with_reducible refine EvOps.nil ?_
     | with_reducible refine EvPlan.nil ?_
     | refine evQ rfl (by simp only [opE, evE, binE, ldE, tgE, clE, ncE, szE, hgE, tyE, intBin, shiftBin, indexAddrV, convV, lenV, partV, isAggT, sliceV, boundsV, bndV, asIntV, beq_self_eq_true, if_true, Nat.reduceBEq, Bool.false_eq_true, if_false, Option.map_some, Option.map_none, Option.bind_some, ofBytes_length, ofBytes_get, Int.toNat_natCast, Int.natCast_nonneg, Nat.zero_lt_one, and_self, Nat.reduceLT, Int.reduceLT, true_and, and_true, List.getElem?_cons_zero, hb]; rfl) (by simp only [tsE, tgE, beq_self_eq_true, if_true, Nat.reduceBEq, Bool.false_eq_true, if_false]; rfl) ?_
     | refine evW rfl rfl (by simp only [opE, evE, binE, ldE, tgE, clE, ncE, szE, hgE, tyE, intBin, shiftBin, indexAddrV, convV, lenV, partV, isAggT, sliceV, boundsV, bndV, asIntV, beq_self_eq_true, if_true, Nat.reduceBEq, Bool.false_eq_true, if_false, Option.map_some, Option.map_none, Option.bind_some, ofBytes_length, ofBytes_get, Int.toNat_natCast, Int.natCast_nonneg, Nat.zero_lt_one, and_self, Nat.reduceLT, Int.reduceLT, true_and, and_true, List.getElem?_cons_zero, wrOp, storeH, hset, putAt, hb]; rfl) (by simp only [tsE, tgE, beq_self_eq_true, if_true, Nat.reduceBEq, Bool.false_eq_true, if_false]; rfl) ?_
     )
    rw [shl_or, wrap_succ hlt hn, ← numL_succ bs i hlt]
    exact ⟨_, by omega, i + 1, _, _, _, _, _, _, _, _, _, _, _, _, rfl, hlt, rfl, rfl⟩
  · have h := of_decide_eq_false h
    have hi : i = bs.length := by omega
    subst hi
    repeat (first
     | with_reducible refine Ev.seq ?_
     | with_reducible refine Ev.ops ?_
     | with_reducible refine NxE ?_
     | with_reducible refine BxN ?_
     | with_reducible refine BxX ?_
     | with_reducible refine NxX ?_
     | with_reducible refine NxR ?_
     | with_reducible refine BxR ?_
     | with_reducible refine Ev.block ?_
     | with_reducible refine Ev.skip ?_
     | with_reducible refine Ev.exit ?_
     | with_reducible refine Ev.ret ?_
     | with_reducible refine Ev.label ?_
     | with_reducible refine EvOps.nil ?_
     | with_reducible refine EvPlan.nil ?_
     | refine evQ rfl (by simp only [opE, evE, binE, ldE, tgE, clE, ncE, szE, hgE, tyE, intBin, shiftBin, indexAddrV, convV, lenV, partV, isAggT, sliceV, boundsV, bndV, asIntV, beq_self_eq_true, if_true, Nat.reduceBEq, Bool.false_eq_true, if_false, Option.map_some, Option.map_none, Option.bind_some, ofBytes_length, ofBytes_get, Int.toNat_natCast, Int.natCast_nonneg, Nat.zero_lt_one, and_self, Nat.reduceLT, Int.reduceLT, true_and, and_true, List.getElem?_cons_zero]; rfl) (by simp only [tsE, tgE, beq_self_eq_true, if_true, Nat.reduceBEq, Bool.false_eq_true, if_false]; rfl) ?_
     | refine evW rfl rfl (by simp only [opE, evE, binE, ldE, tgE, clE, ncE, szE, hgE, tyE, intBin, shiftBin, indexAddrV, convV, lenV, partV, isAggT, sliceV, boundsV, bndV, asIntV, beq_self_eq_true, if_true, Nat.reduceBEq, Bool.false_eq_true, if_false, Option.map_some, Option.map_none, Option.bind_some, ofBytes_length, ofBytes_get, Int.toNat_natCast, Int.natCast_nonneg, Nat.zero_lt_one, and_self, Nat.reduceLT, Int.reduceLT, true_and, and_true, List.getElem?_cons_zero, wrOp, storeH, hset, putAt]; rfl) (by simp only [tsE, tgE, beq_self_eq_true, if_true, Nat.reduceBEq, Bool.false_eq_true, if_false]; rfl) ?_
     )
    refine LvE (.inl rfl) rfl rfl rfl ⟨rfl, ?_⟩
    rw [List.take_length]
    exact hQ

theorem Num_run (tip : Tip) (bs : List UInt8) (hn : bs.length ≤ maxLen) (st : St) (Q : V → St → Prop) (hQ : Q (.int .u64 (numL 0 bs)) st) : Vm.Fn cx 18 [.sl tip (ofBytes bs)] st Q := by
  refine fnP (t0 := [(0, unown (.sl tip (ofBytes bs))), (1, .any), (2, .any), (3, .any), (4, .any), (5, .any), (6, .any), (7, .any), (8, .any), (9, .any), (10, .any), (11, .any), (12, .any), (13, .any), (14, .any), (15, .any), (16, .any), (17, .any), (18, .any), (19, .any)]) Try.func18 rfl rfl rfl rfl rfl ?_ rfl ?_
  · cases tip <;> simp [unown, unownCell, pureVs, pureV, pureVs_ofBytes]
  obtain ⟨u, hu⟩ : ∃ u, unown (.sl tip (ofBytes bs)) = .sl u (ofBytes bs) := by
    cases tip <;> exact ⟨_, rfl⟩
  rw [hu]
  repeat (first
   | with_reducible refine Ev.seq ?_
   | with_reducible refine Ev.ops ?_
   | with_reducible refine NxE ?_
   | with_reducible refine BxN ?_
   | with_reducible refine BxX ?_
   | with_reducible refine NxX ?_
   | with_reducible refine NxR ?_
   | with_reducible refine BxR ?_
   | with_reducible refine Ev.block ?_
   | with_reducible refine Ev.skip ?_
   | with_reducible refine Ev.exit ?_
   | with_reducible refine Ev.ret ?_
   | with_reducible refine Ev.label ?_
   | with_reducible refine EvOps.nil ?_
   | with_reducible refine EvPlan.nil ?_
   | refine evQ rfl (by simp only [opE, evE, binE, ldE, tgE, clE, ncE, szE, hgE, tyE, intBin, shiftBin, indexAddrV, convV, lenV, partV, isAggT, sliceV, boundsV, bndV, asIntV, beq_self_eq_true, if_true, Nat.reduceBEq, Bool.false_eq_true, if_false, Option.map_some, Option.map_none, Option.bind_some, ofBytes_length, ofBytes_get, Int.toNat_natCast, Int.natCast_nonneg, Nat.zero_lt_one, and_self, Nat.reduceLT, Int.reduceLT, true_and, and_true, List.getElem?_cons_zero]; rfl) (by simp only [tsE, tgE, beq_self_eq_true, if_true, Nat.reduceBEq, Bool.false_eq_true, if_false]; rfl) ?_
   | refine evW rfl rfl (by simp only [opE, evE, binE, ldE, tgE, clE, ncE, szE, hgE, tyE, intBin, shiftBin, indexAddrV, convV, lenV, partV, isAggT, sliceV, boundsV, bndV, asIntV, beq_self_eq_true, if_true, Nat.reduceBEq, Bool.false_eq_true, if_false, Option.map_some, Option.map_none, Option.bind_some, ofBytes_length, ofBytes_get, Int.toNat_natCast, Int.natCast_nonneg, Nat.zero_lt_one, and_self, Nat.reduceLT, Int.reduceLT, true_and, and_true, List.getElem?_cons_zero, wrOp, storeH, hset, putAt]; rfl) (by simp only [tsE, tgE, beq_self_eq_true, if_true, Nat.reduceBEq, Bool.false_eq_true, if_false]; rfl) ?_
   )
  refine Ev.loop_ind (fun n f st => ∃ (i : Nat) (j5 j6 j7 j8 j9 j10 j11 j12 j13 j14 j15 j16 j17 j18 j19 : V), n = bs.length - i ∧ i ≤ bs.length ∧ f = ⟨[(0, .sl u (ofBytes bs)), (1, .any), (2, .int .u64 0), (3, .int .u64 (numL 0 (bs.take i))), (4, .int .i64 i), (5, j5), (6, j6), (7, j7), (8, j8), (9, j9), (10, j10), (11, j11), (12, j12), (13, j13), (14, j14), (15, j15), (16, j16), (17, j17), (18, j18), (19, j19)], []⟩ ∧ st = ⟨[], 0⟩) ⟨0, .any, .any, .any, .any, .any, .any, .any, .any, .any, .any, .any, .any, .any, .any, .any, rfl, Nat.zero_le _, by simp [numL], rfl⟩ ?_
  rintro n f st2 ⟨i, j5, j6, j7, j8, j9, j10, j11, j12, j13, j14, j15, j16, j17, j18, j19, rfl, hi, rfl, rfl⟩
  repeat (first
   | with_reducible refine Ev.seq ?_
   | with_reducible refine Ev.ops ?_
   | with_reducible refine NxE ?_
   | with_reducible refine BxN ?_
   | with_reducible refine BxX ?_
   | with_reducible refine NxX ?_
   | with_reducible refine NxR ?_
   | with_reducible refine BxR ?_
   | with_reducible refine Ev.block ?_
   | with_reducible refine Ev.skip ?_
   | with_reducible refine Ev.exit ?_
   | with_reducible refine Ev.ret ?_
   | with_reducible refine Ev.label ?_
   | with_reducible refine EvOps.nil ?_
   | with_reducible refine EvPlan.nil ?_
   | refine evQ rfl (by simp only [opE, evE, binE, ldE, tgE, clE, ncE, szE, hgE, tyE, intBin, shiftBin, indexAddrV, convV, lenV, partV, isAggT, sliceV, boundsV, bndV, asIntV, beq_self_eq_true, if_true, Nat.reduceBEq, Bool.false_eq_true, if_false, Option.map_some, Option.map_none, Option.bind_some, ofBytes_length, ofBytes_get, Int.toNat_natCast, Int.natCast_nonneg, Nat.zero_lt_one, and_self, Nat.reduceLT, Int.reduceLT, true_and, and_true, List.getElem?_cons_zero]; rfl) (by simp only [tsE, tgE, beq_self_eq_true, if_true, Nat.reduceBEq, Bool.false_eq_true, if_false]; rfl) ?_
   | refine evW rfl rfl (by simp only [opE, evE, binE, ldE, tgE, clE, ncE, szE, hgE, tyE, intBin, shiftBin, indexAddrV, convV, lenV, partV, isAggT, sliceV, boundsV, bndV, asIntV, beq_self_eq_true, if_true, Nat.reduceBEq, Bool.false_eq_true, if_false, Option.map_some, Option.map_none, Option.bind_some, ofBytes_length, ofBytes_get, Int.toNat_natCast, Int.natCast_nonneg, Nat.zero_lt_one, and_self, Nat.reduceLT, Int.reduceLT, true_and, and_true, List.getElem?_cons_zero, wrOp, storeH, hset, putAt]; rfl) (by simp only [tsE, tgE, beq_self_eq_true, if_true, Nat.reduceBEq, Bool.false_eq_true, if_false]; rfl) ?_
   )
  refine Ev.cond2 (by simp only [evE, tsE, tgE, beq_self_eq_true, if_true, Nat.reduceBEq, Bool.false_eq_true, if_false]; rfl) (fun h => ?_) (fun h => ?_)
  · have h := of_decide_eq_true h
    have hlt : i < bs.length := by omega
    have hb : bs[i]? = some bs[i] := by simp [hlt]
    repeat (first
     | with_reducible refine Ev.seq ?_
     | with_reducible refine Ev.ops ?_
     | with_reducible refine NxE ?_
     | with_reducible refine BxN ?_
     | with_reducible refine BxX ?_
     | with_reducible refine NxX ?_
     | with_reducible refine NxR ?_
     | with_reducible refine BxR ?_
     | with_reducible refine Ev.block ?_
     | with_reducible refine Ev.skip ?_
     | with_reducible refine Ev.exit ?_
     | with_reducible refine Ev.ret ?_
     | with_reducible refine Ev.label ?_
     | with_reducible refine EvOps.nil ?_
     | with_reducible refine EvPlan.nil ?_
     | refine evQ rfl (by simp only [opE, evE, binE, ldE, tgE, clE, ncE, szE, hgE, tyE, intBin, shiftBin, indexAddrV, convV, lenV, partV, isAggT, sliceV, boundsV, bndV, asIntV, beq_self_eq_true, if_true, Nat.reduceBEq, Bool.false_eq_true, if_false, Option.map_some, Option.map_none, Option.bind_some, ofBytes_length, ofBytes_get, Int.toNat_natCast, Int.natCast_nonneg, Nat.zero_lt_one, and_self, Nat.reduceLT, Int.reduceLT, true_and, and_true, List.getElem?_cons_zero, hb]; rfl) (by simp only [tsE, tgE, beq_self_eq_true, if_true, Nat.reduceBEq, Bool.false_eq_true, if_false]; rfl) ?_
     | refine evW rfl rfl (by simp only [opE, evE, binE, ldE, tgE, clE, ncE, szE, hgE, tyE, intBin, shiftBin, indexAddrV, convV, lenV, partV, isAggT, sliceV, boundsV, bndV, asIntV, beq_self_eq_true, if_true, Nat.reduceBEq, Bool.false_eq_true, if_false, Option.map_some, Option.map_none, Option.bind_some, ofBytes_length, ofBytes_get, Int.toNat_natCast, Int.natCast_nonneg, Nat.zero_lt_one, and_self, Nat.reduceLT, Int.reduceLT, true_and, and_true, List.getElem?_cons_zero, wrOp, storeH, hset, putAt, hb]; rfl) (by simp only [tsE, tgE, beq_self_eq_true, if_true, Nat.reduceBEq, Bool.false_eq_true, if_false]; rfl) ?_
     )
    rw [wrap_byte, wrap_succ hlt hn, ← numL_succ bs i hlt]
    exact ⟨_, by omega, i + 1, _, _, _, _, _, _, _, _, _, _, _, _, _, _, _, rfl, hlt, rfl, rfl⟩
  · have h := of_decide_eq_false h
    have hi : i = bs.length := by omega
    subst hi
    repeat (first
     | with_reducible refine Ev.seq ?_
     | with_reducible refine Ev.ops ?_
     | with_reducible refine NxE ?_
     | with_reducible refine BxN ?_
     | with_reducible refine BxX ?_
     | with_reducible refine NxX ?_
     | with_reducible refine NxR ?_
     | with_reducible refine BxR ?_
     | with_reducible refine Ev.block ?_
     | with_reducible refine Ev.skip ?_
     | with_reducible refine Ev.exit ?_
     | with_reducible refine Ev.ret ?_
     | with_reducible refine Ev.label ?_
     | with_reducible refine EvOps.nil ?_
     | with_reducible refine EvPlan.nil ?_
     | refine evQ rfl (by simp only [opE, evE, binE, ldE, tgE, clE, ncE, szE, hgE, tyE, intBin, shiftBin, indexAddrV, convV, lenV, partV, isAggT, sliceV, boundsV, bndV, asIntV, beq_self_eq_true, if_true, Nat.reduceBEq, Bool.false_eq_true, if_false, Option.map_some, Option.map_none, Option.bind_some, ofBytes_length, ofBytes_get, Int.toNat_natCast, Int.natCast_nonneg, Nat.zero_lt_one, and_self, Nat.reduceLT, Int.reduceLT, true_and, and_true, List.getElem?_cons_zero]; rfl) (by simp only [tsE, tgE, beq_self_eq_true, if_true, Nat.reduceBEq, Bool.false_eq_true, if_false]; rfl) ?_
     | refine evW rfl rfl (by simp only [opE, evE, binE, ldE, tgE, clE, ncE, szE, hgE, tyE, intBin, shiftBin, indexAddrV, convV, lenV, partV, isAggT, sliceV, boundsV, bndV, asIntV, beq_self_eq_true, if_true, Nat.reduceBEq, Bool.false_eq_true, if_false, Option.map_some, Option.map_none, Option.bind_some, ofBytes_length, ofBytes_get, Int.toNat_natCast, Int.natCast_nonneg, Nat.zero_lt_one, and_self, Nat.reduceLT, Int.reduceLT, true_and, and_true, List.getElem?_cons_zero, wrOp, storeH, hset, putAt]; rfl) (by simp only [tsE, tgE, beq_self_eq_true, if_true, Nat.reduceBEq, Bool.false_eq_true, if_false]; rfl) ?_
     )
    refine LvE (.inl rfl) rfl rfl rfl ⟨rfl, ?_⟩
    rw [List.take_length]
    exact hQ
end Go.Proofs.Ytfjhanjpacghkaa
