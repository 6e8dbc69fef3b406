/- Bytes of numbers. -/
import Derived.Test.YtfjhanjpacghkaaEtV2
set_option linter.unusedSimpArgs false
set_option linter.unusedVariables false
set_option maxRecDepth 100000
namespace Go.Proofs.Ytfjhanjpacghkaa
open Go Go.Vm Go.Proofs

/-- A slice with room behind it: nothing is there, or it ends at the newest of the evaluator's things. -/
def Room (H0 : List (Nat × Ob)) (lo : Nat) (l : List UInt8) (s : V) (st : St) : Prop :=
  ∃ tip, s = .sl tip (ofBytes l) ∧ lo ≤ st.n ∧ ((tip = .full ∧ st.H = H0) ∨ ∃ t, tip = .own t ∧ st.H = (t, .tip 1) :: H0 ∧ lo ≤ t)

/-- A slice that ends at the newest of the evaluator's things. -/
def Own (H0 : List (Nat × Ob)) (lo : Nat) (l : List UInt8) (s : V) (st : St) : Prop :=
  ∃ t, s = .sl (.own t) (ofBytes l) ∧ st.H = (t, .tip 1) :: H0 ∧ lo ≤ t ∧ t < st.n

theorem Own.room {H0 : List (Nat × Ob)} {lo : Nat} {l : List UInt8} {s : V} {st : St} (h : Own H0 lo l s st) : Room H0 lo l s st := by
  obtain ⟨t, h1, h2, h3, h4⟩ := h
  exact ⟨.own t, h1, by omega, .inr ⟨t, rfl, h2, h3⟩⟩

theorem append_room {H0 : List (Nat × Ob)} {lo : Nat} {l : List UInt8} {s : V} {st : St} (h : Room H0 lo l s st) (b : UInt8) (hl : l.length + 1 ≤ 2 ^ 47) (tip : Tip) :
    ∃ s' st', appendV cx st 22 s (.sl tip [.int .u8 b.toNat]) = some (s', st') ∧ Own H0 lo (l ++ [b]) s' st' := by
  obtain ⟨t, rfl, hn, h⟩ := h
  have hz : zeroOk cx 5 1 = true := by decide +kernel
  have hb : byOf cx 5 = 1 := by decide +kernel
  have e : ofBytes l ++ List.map stripAgg [V.int .u8 b.toNat] = ofBytes (l ++ [b]) := by simp [ofBytes, stripAgg, stripCell]
  have hlen : (ofBytes l).length = l.length := ofBytes_length l
  rcases h with ⟨rfl, hH⟩ | ⟨t, rfl, hH, ht⟩
  · refine ⟨.sl (.own st.n) (ofBytes (l ++ [b])), ⟨(st.n, .tip 1) :: H0, st.n + 1⟩, ?_, st.n, rfl, rfl, hn, Nat.lt_succ_self _⟩
    have hc : 0 < 1 ∧ True ∧ zeroOk cx 5 1 = true ∧ ((ofBytes l).length + [V.int .u8 b.toNat].length) * byOf cx 5 ≤ 2 ^ 47 ∧ (ofBytes l).length + [V.int .u8 b.toNat].length ≤ 2 ^ 47 := by
      refine ⟨by omega, trivial, hz, ?_, ?_⟩ <;> simp [hb, hlen] <;> omega
    simp only [appendV, show cx.mutT 22 = false from rfl, tyE, addedV, szE, ncE, beq_self_eq_true, if_true, List.isEmpty_cons, Bool.false_eq_true, if_false]
    rw [if_pos hc, e, hH]
  · refine ⟨.sl (.own st.n) (ofBytes (l ++ [b])), ⟨(st.n, .tip 1) :: H0, st.n + 1⟩, ?_, st.n, rfl, rfl, hn, Nat.lt_succ_self _⟩
    have hc : 0 < 1 ∧ True ∧ zeroOk cx 5 1 = true ∧ ((ofBytes l).length + [V.int .u8 b.toNat].length) * byOf cx 5 ≤ 2 ^ 47 ∧ (ofBytes l).length + [V.int .u8 b.toNat].length ≤ 2 ^ 47 := by
      refine ⟨by omega, trivial, hz, ?_, ?_⟩ <;> simp [hb, hlen] <;> omega
    simp only [appendV, show cx.mutT 22 = false from rfl, tyE, addedV, szE, ncE, beq_self_eq_true, if_true, List.isEmpty_cons, Bool.false_eq_true, if_false]
    rw [if_pos hc, e, hH]
    simp only [hgE, hdel, beq_self_eq_true, if_true]

/-- Byte i of a number. -/
def byteAt (x : Int) (i : Nat) : UInt8 := UInt8.ofNat (x / 2 ^ (8 * i) % 256).toNat
/-- The last n bytes of a number, the highest first. -/
def bytesL (x : Int) : Nat → List UInt8
  | 0 => []
  | n + 1 => byteAt x n :: bytesL x n

/-- As far as byte i. -/
def upTo (x : Int) (n j : Nat) : List UInt8 := (bytesL x n).take j

theorem bytesL_length (x : Int) : ∀ n, (bytesL x n).length = n
  | 0 => rfl
  | n + 1 => by simp [bytesL, bytesL_length x n]

theorem bytesL_get (x : Int) : ∀ n j, j < n → (bytesL x n)[j]? = some (byteAt x (n - 1 - j))
  | 0, j, h => by omega
  | n + 1, 0, h => by simp [bytesL]
  | n + 1, j + 1, h => by
    simp only [bytesL, List.getElem?_cons_succ]
    rw [bytesL_get x n j (by omega)]
    congr 2
    omega

theorem upTo_succ (x : Int) {n j : Nat} (h : j < n) : upTo x n (j + 1) = upTo x n j ++ [byteAt x (n - 1 - j)] := by
  unfold upTo
  rw [List.take_add_one, bytesL_get x n j h]
  rfl

theorem shr_byte {x : Int} (hx : 0 ≤ x) (i : Nat) (hi : i < 8) :
    (if IntKind.i64.wrap (8 * (i : Int)) < 0 then none else some (V.int .u64 (x.fdiv (2 ^ min (IntKind.i64.wrap (8 * (i : Int))).toNat IntKind.u64.bits)))) = some (V.int .u64 (x / 2 ^ (8 * i))) := by
  have e : IntKind.i64.wrap (8 * (i : Int)) = ((8 * i : Nat) : Int) := by
    simp [IntKind.wrap, IntKind.signed, IntKind.bits]
    omega
  rw [e, if_neg (by omega), Int.toNat_natCast]
  have : min (8 * i) IntKind.u64.bits = 8 * i := by
    have : IntKind.u64.bits = 64 := rfl
    omega
  rw [this, Int.fdiv_eq_ediv_of_nonneg _ (Int.le_of_lt (Int.pow_pos (by omega)))]

theorem conv_byte (y : Int) : IntKind.u8.wrap y = ((UInt8.ofNat (y % 256).toNat).toNat : Int) := by
  have h0 := Int.emod_nonneg y (show (256 : Int) ≠ 0 by omega)
  have h1 := Int.emod_lt_of_pos y (show (0 : Int) < 256 by omega)
  have e : IntKind.u8.wrap y = y % 256 := by simp [IntKind.wrap, IntKind.signed, IntKind.bits]
  rw [e, UInt8.toNat_ofNat']
  omega

theorem hdrop_id {H : List (Nat × Ob)} {n : Nat} (h : ∀ p ∈ H, p.1 < n) : hdrop n H = H := by
  cases H with
  | nil => rfl
  | cons p r =>
    obtain ⟨j, q⟩ := p
    have : j < n := h _ List.mem_cons_self
    simp only [hdrop]
    rw [if_neg (by omega)]

theorem leave_own {H0 : List (Nat × Ob)} {lo n0 : Nat} {l : List UInt8} {s : V} {st : St} (h : Own H0 lo l s st) (hH : ∀ p ∈ H0, p.1 < lo) (hn : lo ≤ n0) : ∃ t n', leaveV cx 21 n0 (packV [s]) st = (.sl (.own t) (ofBytes l), ⟨(t, .tip 1) :: H0, n'⟩) ∧ lo ≤ t ∧ t < n' := by
  have hd : hdrop n0 H0 = H0 := hdrop_id fun p hp => Nat.lt_of_lt_of_le (hH p hp) hn
  obtain ⟨t, rfl, hst, ht, htn⟩ := h
  obtain ⟨H, n⟩ := st
  simp only at hst htn
  subst hst
  refine ⟨t, n, ?_, ht, htn⟩
  have hg : hget ((t, Ob.tip 1) :: H0) t = some (.tip 1) := by simp [hget]
  have : leaveV cx 21 n0 (packV [.sl (.own t) (ofBytes l)]) ⟨(t, .tip 1) :: H0, n⟩ = (match hget ((t, Ob.tip 1) :: H0) t with
    | some (.tip sz) => ((.sl (.own t) (ofBytes l) : V), (⟨if n0 ≤ t then (t, .tip sz) :: hdrop n0 ((t, .tip 1) :: H0) else hdrop n0 ((t, .tip 1) :: H0), n⟩ : St))
    | _ => (.sl (.own t) (ofBytes l), ⟨hdrop n0 ((t, .tip 1) :: H0), n⟩)) := rfl
  rw [this, hg]
  simp only [hdrop]
  split
  · rw [hd]
  · rfl

theorem wrap_pred (i : Nat) (h : i < 100) : IntKind.i64.wrap ((i : Int) - 1) = (i : Int) - 1 := by
  simp [IntKind.wrap, IntKind.signed, IntKind.bits]
  omega


set_option maxHeartbeats 4000000 in
theorem put_run {H0 : List (Nat × Ob)} {lo : Nat} {l : List UInt8} {s : V} {st : St} (h0 : Room H0 lo l s st) (hH : ∀ p ∈ H0, p.1 < lo) (x : Int) (hx : 0 ≤ x) (n : Nat) (hn1 : 1 ≤ n) (hn : n ≤ 8) (hl : l.length ≤ 1000) (Q : V → St → Prop) (hQ : ∀ t n', lo ≤ t → t < n' → Q (.sl (.own t) (ofBytes (l ++ bytesL x n))) ⟨(t, .tip 1) :: H0, n'⟩) : Vm.Fn cx 21 [s, .int .u64 x, .int .i64 n] st Q := by
  refine fnI (t0 := [(0, s), (1, .int .u64 x), (2, .int .i64 n), (3, .any), (4, .any), (5, .any), (6, .any), (7, .any), (8, .any), (9, .any), (10, .any), (11, .any), (12, .any), (13, .any), (14, .any), (15, .any), (16, .any), (17, .any), (18, .any), (19, .any), (20, .any), (21, .any), (22, .any)]) Try.func21 rfl rfl rfl rfl rfl rfl ?_
  have w0 : IntKind.i64.wrap ((n : Int) - 1) = (n : Int) - 1 := wrap_pred n (by omega)
  repeat (first
   | with_reducible refine Ev.seq ?_
   | with_reducible refine Ev.ops ?_
   | with_reducible refine NxE ?_
   | with_reducible refine BxN ?_
   | with_reducible refine BxX ?_
   | with_reducible refine NxX ?_
   | with_reducible refine NxR ?_
   | with_reducible refine BxR ?_
   | with_reducible refine NxG ?_
   | with_reducible refine GxR ?_
   | with_reducible refine GxN ?_
   | with_reducible refine Ev.goto ?_
   | with_reducible refine Ev.block ?_
   | with_reducible refine Ev.skip ?_
   | with_reducible refine Ev.exit ?_
   | with_reducible refine Ev.ret ?_
   | with_reducible refine Ev.label ?_
   | with_reducible refine EvOps.nil ?_
   | with_reducible refine EvPlan.nil ?_
   | refine evQ rfl (by simp only [opE, evE, stE, Nat.reduceAdd,  binE, ldE, tgE, clE, ncE, szE, hgE, tyE, intBin, shiftBin, indexAddrV, convV, lenV, partV, isAggT, sliceV, boundsV, bndV, asIntV, beq_self_eq_true, if_true, Nat.reduceBEq, Bool.false_eq_true, if_false, Option.map_some, Option.map_none, Option.bind_some, ofBytes_length, ofBytes_get, Int.toNat_natCast, Int.natCast_nonneg, Nat.zero_lt_one, and_self, Nat.reduceLT, Int.reduceLT, true_and, and_true, List.getElem?_cons_zero, unV, decide_true, decide_false, Bool.not_true, Bool.not_false, w0]; rfl) (by simp only [tsE, tgE, beq_self_eq_true, if_true, Nat.reduceBEq, Bool.false_eq_true, if_false]; rfl) ?_
   | refine evW rfl rfl (by simp only [opE, evE, stE, Nat.reduceAdd,  binE, ldE, tgE, clE, ncE, szE, hgE, tyE, intBin, shiftBin, indexAddrV, convV, lenV, partV, isAggT, sliceV, boundsV, bndV, asIntV, beq_self_eq_true, if_true, Nat.reduceBEq, Bool.false_eq_true, if_false, Option.map_some, Option.map_none, Option.bind_some, ofBytes_length, ofBytes_get, Int.toNat_natCast, Int.natCast_nonneg, Nat.zero_lt_one, and_self, Nat.reduceLT, Int.reduceLT, true_and, and_true, List.getElem?_cons_zero, unV, decide_true, decide_false, Bool.not_true, Bool.not_false, wrOp, storeH, hset, putAt, w0]; rfl) (by simp only [tsE, tgE, beq_self_eq_true, if_true, Nat.reduceBEq, Bool.false_eq_true, if_false]; rfl) ?_
   | refine evS rfl (by simp only [tsE, tgE, beq_self_eq_true, if_true, Nat.reduceBEq, Bool.false_eq_true, if_false]; rfl) ?_
   )
  refine Ev.loop_ind (n := n) (fun r f st' => ∃ (j : Nat) (s' j8 j9 j10 j11 j12 j13 j14 j15 j16 j17 j18 j19 j20 j21 j22 : V), j + r = n ∧ Room H0 lo (l ++ upTo x n j) s' st' ∧ (1 ≤ j → Own H0 lo (l ++ upTo x n j) s' st') ∧ f = ⟨[(0, s'), (1, .int .u64 x), (2, .int .i64 n), (3, .any), (4, .any), (5, .any), (6, .sl .full []), (7, .int .i64 ((r : Int) - 1)), (8, j8), (9, j9), (10, j10), (11, j11), (12, j12), (13, j13), (14, j14), (15, j15), (16, j16), (17, j17), (18, j18), (19, j19), (20, j20), (21, j21), (22, j22)], []⟩) ⟨0, s, .int .i64 n, .int .i64 (n - 1), .any, .any, .any, .any, .any, .any, .any, .any, .any, .any, .any, .any, .any, by omega, by simpa [upTo] using h0, fun h => by omega, rfl⟩ ?_
  rintro r f st2 ⟨j, s', j8, j9, j10, j11, j12, j13, j14, j15, j16, j17, j18, j19, j20, j21, j22, hj, hR, hO, rfl⟩
  repeat (first
   | with_reducible refine Ev.seq ?_
   | with_reducible refine Ev.ops ?_
   | with_reducible refine NxE ?_
   | with_reducible refine BxN ?_
   | with_reducible refine BxX ?_
   | with_reducible refine NxX ?_
   | with_reducible refine NxR ?_
   | with_reducible refine BxR ?_
   | with_reducible refine NxG ?_
   | with_reducible refine GxR ?_
   | with_reducible refine GxN ?_
   | with_reducible refine Ev.goto ?_
   | with_reducible refine Ev.block ?_
   | with_reducible refine Ev.skip ?_
   | with_reducible refine Ev.exit ?_
   | with_reducible refine Ev.ret ?_
   | with_reducible refine Ev.label ?_
   | with_reducible refine EvOps.nil ?_
   | with_reducible refine EvPlan.nil ?_
   | refine evQ rfl (by simp only [opE, evE, stE, Nat.reduceAdd,  binE, ldE, tgE, clE, ncE, szE, hgE, tyE, intBin, shiftBin, indexAddrV, convV, lenV, partV, isAggT, sliceV, boundsV, bndV, asIntV, beq_self_eq_true, if_true, Nat.reduceBEq, Bool.false_eq_true, if_false, Option.map_some, Option.map_none, Option.bind_some, ofBytes_length, ofBytes_get, Int.toNat_natCast, Int.natCast_nonneg, Nat.zero_lt_one, and_self, Nat.reduceLT, Int.reduceLT, true_and, and_true, List.getElem?_cons_zero, unV, decide_true, decide_false, Bool.not_true, Bool.not_false]; rfl) (by simp only [tsE, tgE, beq_self_eq_true, if_true, Nat.reduceBEq, Bool.false_eq_true, if_false]; rfl) ?_
   | refine evW rfl rfl (by simp only [opE, evE, stE, Nat.reduceAdd,  binE, ldE, tgE, clE, ncE, szE, hgE, tyE, intBin, shiftBin, indexAddrV, convV, lenV, partV, isAggT, sliceV, boundsV, bndV, asIntV, beq_self_eq_true, if_true, Nat.reduceBEq, Bool.false_eq_true, if_false, Option.map_some, Option.map_none, Option.bind_some, ofBytes_length, ofBytes_get, Int.toNat_natCast, Int.natCast_nonneg, Nat.zero_lt_one, and_self, Nat.reduceLT, Int.reduceLT, true_and, and_true, List.getElem?_cons_zero, unV, decide_true, decide_false, Bool.not_true, Bool.not_false, wrOp, storeH, hset, putAt]; rfl) (by simp only [tsE, tgE, beq_self_eq_true, if_true, Nat.reduceBEq, Bool.false_eq_true, if_false]; rfl) ?_
   | refine evS rfl (by simp only [tsE, tgE, beq_self_eq_true, if_true, Nat.reduceBEq, Bool.false_eq_true, if_false]; rfl) ?_
   )
  refine Ev.cond2 (by simp only [evE, tsE, tgE, beq_self_eq_true, if_true, Nat.reduceBEq, Bool.false_eq_true, if_false]; rfl) (fun h => ?_) (fun h => ?_)
  · have h := of_decide_eq_true h
    obtain ⟨i, rfl⟩ : ∃ i, r = i + 1 := ⟨r - 1, by omega⟩
    have e : ((i + 1 : Nat) : Int) - 1 = (i : Int) := by omega
    rw [e]
    have w1 : IntKind.i64.wrap ((i : Int) - 1) = (i : Int) - 1 := wrap_pred i (by omega)
    have sh := shr_byte hx i (by omega)
    obtain ⟨s1, st1, hap, hR1⟩ := append_room hR (byteAt x i) (by simp [upTo, bytesL_length]; omega) .full
    unfold byteAt at hap
    repeat (first
     | with_reducible refine Ev.seq ?_
     | with_reducible refine Ev.ops ?_
     | with_reducible refine NxE ?_
     | with_reducible refine BxN ?_
     | with_reducible refine BxX ?_
     | with_reducible refine NxX ?_
     | with_reducible refine NxR ?_
     | with_reducible refine BxR ?_
     | with_reducible refine NxG ?_
     | with_reducible refine GxR ?_
     | with_reducible refine GxN ?_
     | with_reducible refine Ev.goto ?_
     | with_reducible refine Ev.block ?_
     | with_reducible refine Ev.skip ?_
     | with_reducible refine Ev.exit ?_
     | with_reducible refine Ev.ret ?_
     | with_reducible refine Ev.label ?_
     | with_reducible refine EvOps.nil ?_
     | with_reducible refine EvPlan.nil ?_
     | refine evQ rfl (by simp only [opE, evE, stE, Nat.reduceAdd,  binE, ldE, tgE, clE, ncE, szE, hgE, tyE, intBin, shiftBin, indexAddrV, convV, lenV, partV, isAggT, sliceV, boundsV, bndV, asIntV, beq_self_eq_true, if_true, Nat.reduceBEq, Bool.false_eq_true, if_false, Option.map_some, Option.map_none, Option.bind_some, ofBytes_length, ofBytes_get, Int.toNat_natCast, Int.natCast_nonneg, Nat.zero_lt_one, and_self, Nat.reduceLT, Int.reduceLT, true_and, and_true, List.getElem?_cons_zero, unV, decide_true, decide_false, Bool.not_true, Bool.not_false, w1, sh, conv_byte, hap, wrOp, buildSliceV, setAll, List.toList_toArray, List.map_cons, List.map_nil, List.replicate_one, List.set_cons_zero, stripAgg, stripCell]; rfl) (by simp only [tsE, tgE, beq_self_eq_true, if_true, Nat.reduceBEq, Bool.false_eq_true, if_false]; rfl) ?_
     | refine evW rfl rfl (by simp only [opE, evE, stE, Nat.reduceAdd,  binE, ldE, tgE, clE, ncE, szE, hgE, tyE, intBin, shiftBin, indexAddrV, convV, lenV, partV, isAggT, sliceV, boundsV, bndV, asIntV, beq_self_eq_true, if_true, Nat.reduceBEq, Bool.false_eq_true, if_false, Option.map_some, Option.map_none, Option.bind_some, ofBytes_length, ofBytes_get, Int.toNat_natCast, Int.natCast_nonneg, Nat.zero_lt_one, and_self, Nat.reduceLT, Int.reduceLT, true_and, and_true, List.getElem?_cons_zero, unV, decide_true, decide_false, Bool.not_true, Bool.not_false, wrOp, storeH, hset, putAt, w1, sh, conv_byte, hap, wrOp, buildSliceV, setAll, List.toList_toArray, List.map_cons, List.map_nil, List.replicate_one, List.set_cons_zero, stripAgg, stripCell]; rfl) (by simp only [tsE, tgE, beq_self_eq_true, if_true, Nat.reduceBEq, Bool.false_eq_true, if_false]; rfl) ?_
     | refine evS rfl (by simp only [tsE, tgE, beq_self_eq_true, if_true, Nat.reduceBEq, Bool.false_eq_true, if_false]; rfl) ?_
     )
    refine NxN ⟨i, by omega, j + 1, s1, _, _, _, _, _, _, _, _, _, _, _, _, _, _, _, by omega, ?_, fun _ => ?_, rfl⟩
    all_goals rw [upTo_succ x (by omega : j < n), ← List.append_assoc, show n - 1 - j = i by omega]
    · exact hR1.room
    · exact hR1
  · have h := of_decide_eq_false h
    have hr : r = 0 := by omega
    subst hr
    have hjn : j = n := by omega
    subst hjn
    have hup : upTo x j j = bytesL x j := by unfold upTo; exact List.take_of_length_le (by rw [bytesL_length]; omega)
    rw [hup] at hO
    obtain ⟨t, n3, hl3, ht, htn⟩ := leave_own (n0 := st.n) (hO hn1) hH (by obtain ⟨_, _, h2, _⟩ := h0; exact h2)
    repeat (first
     | with_reducible refine Ev.seq ?_
     | with_reducible refine Ev.ops ?_
     | with_reducible refine NxE ?_
     | with_reducible refine BxN ?_
     | with_reducible refine BxX ?_
     | with_reducible refine NxX ?_
     | with_reducible refine NxR ?_
     | with_reducible refine BxR ?_
     | with_reducible refine NxG ?_
     | with_reducible refine GxR ?_
     | with_reducible refine GxN ?_
     | with_reducible refine Ev.goto ?_
     | with_reducible refine Ev.block ?_
     | with_reducible refine Ev.skip ?_
     | with_reducible refine Ev.exit ?_
     | with_reducible refine Ev.ret ?_
     | with_reducible refine Ev.label ?_
     | with_reducible refine EvOps.nil ?_
     | with_reducible refine EvPlan.nil ?_
     | refine evQ rfl (by simp only [opE, evE, stE, Nat.reduceAdd,  binE, ldE, tgE, clE, ncE, szE, hgE, tyE, intBin, shiftBin, indexAddrV, convV, lenV, partV, isAggT, sliceV, boundsV, bndV, asIntV, beq_self_eq_true, if_true, Nat.reduceBEq, Bool.false_eq_true, if_false, Option.map_some, Option.map_none, Option.bind_some, ofBytes_length, ofBytes_get, Int.toNat_natCast, Int.natCast_nonneg, Nat.zero_lt_one, and_self, Nat.reduceLT, Int.reduceLT, true_and, and_true, List.getElem?_cons_zero, unV, decide_true, decide_false, Bool.not_true, Bool.not_false]; rfl) (by simp only [tsE, tgE, beq_self_eq_true, if_true, Nat.reduceBEq, Bool.false_eq_true, if_false]; rfl) ?_
     | refine evW rfl rfl (by simp only [opE, evE, stE, Nat.reduceAdd,  binE, ldE, tgE, clE, ncE, szE, hgE, tyE, intBin, shiftBin, indexAddrV, convV, lenV, partV, isAggT, sliceV, boundsV, bndV, asIntV, beq_self_eq_true, if_true, Nat.reduceBEq, Bool.false_eq_true, if_false, Option.map_some, Option.map_none, Option.bind_some, ofBytes_length, ofBytes_get, Int.toNat_natCast, Int.natCast_nonneg, Nat.zero_lt_one, and_self, Nat.reduceLT, Int.reduceLT, true_and, and_true, List.getElem?_cons_zero, unV, decide_true, decide_false, Bool.not_true, Bool.not_false, wrOp, storeH, hset, putAt]; rfl) (by simp only [tsE, tgE, beq_self_eq_true, if_true, Nat.reduceBEq, Bool.false_eq_true, if_false]; rfl) ?_
     | refine evS rfl (by simp only [tsE, tgE, beq_self_eq_true, if_true, Nat.reduceBEq, Bool.false_eq_true, if_false]; rfl) ?_
     )
    exact LvE (.inl rfl) rfl (by rfl) hl3 (hQ t n3 ht htn)
end Go.Proofs.Ytfjhanjpacghkaa
