/- The law of another byte: the walk. -/
import Derived.Test.YtfjhanjpacghkaaEtM2
set_option linter.unusedSimpArgs false
set_option linter.unusedVariables false
set_option maxRecDepth 100000
namespace Go.Proofs.Ytfjhanjpacghkaa
open Go Go.Vm Go.Proofs
theorem encA_length (op sha spa tha tpa : Int) : (encA op sha spa tha tpa).length = 28 := by simp [encA, bytesL_length]
theorem encL_length (d s : Int) (tg : Bool) (tag ty : Int) : (encL d s tg tag ty).length = if tg then 18 else 14 := by
  cases tg <;> simp [encL, bytesL_length]
theorem turned_bytes {L : List UInt8} {k n : Nat} {b : UInt8} {by_ : Int} (hL : L.length = n) (hb : L[k]? = some b) (h0 : 0 < by_) (h1 : by_ < 256) :
    ∃ B : List UInt8, List.take n (ofBytes (List.take k L) ++ [V.int .u8 ((BitVec.ofInt 8 (b.toNat : Int) ^^^ BitVec.ofInt 8 by_).toNat : Int)] ++ ofBytes (List.drop (k + 1) L)) = ofBytes B ∧ B.length = n ∧ B ≠ L := by
  obtain ⟨hk, hbk⟩ := List.getElem?_eq_some_iff.1 hb
  have hl : (List.take k L ++ [UInt8.ofBitVec (BitVec.ofInt 8 (b.toNat : Int) ^^^ BitVec.ofInt 8 by_)] ++ List.drop (k + 1) L).length = n := by
    simp; omega
  refine ⟨List.take k L ++ [UInt8.ofBitVec (BitVec.ofInt 8 (b.toNat : Int) ^^^ BitVec.ofInt 8 by_)] ++ List.drop (k + 1) L, ?_, hl, fun h => ?_⟩
  · rw [List.take_of_length_le]
    · simp only [ofBytes, List.map_append, List.map_cons, List.map_nil]; rfl
    · simp [ofBytes_length]; omega
  · have h2 := congrArg (fun l => l[k]?) h
    simp only [hb] at h2
    rw [List.append_assoc, List.getElem?_append_right (by simp; omega)] at h2
    rw [show k - (List.take k L).length = 0 by simp; omega] at h2
    simp only [List.cons_append, List.nil_append, List.getElem?_cons_zero, Option.some.injEq] at h2
    have h3 := congrArg UInt8.toBitVec h2
    have h4 : BitVec.ofInt 8 (b.toNat : Int) = b.toBitVec := by simp
    rw [h4] at h3
    have h5 : b.toBitVec ^^^ BitVec.ofInt 8 by_ = b.toBitVec := h3
    have h6 : BitVec.ofInt 8 by_ = 0#8 := by
      have := congrArg (fun x => b.toBitVec ^^^ x) h5
      simpa [← BitVec.xor_assoc] using this
    have h7 := congrArg BitVec.toNat h6
    simp at h7
    omega
theorem head_shape (bs : List UInt8) : ∃ (x1 x2 : Int) (x3 : Bool) (x4 x5 n e : Int), headV bs = .tup [.agg [.int .u64 x1, .int .u64 x2, .bool x3, .int .i64 x4, .int .i64 x5], .int .i64 n, .int .i64 e] ∧ (e = 0 → encL x1 x2 x3 x4 x5 = bs.take (encL x1 x2 x3 x4 x5).length) := by
  unfold headV
  split
  · exact ⟨0, 0, false, 0, 0, 0, 3, rfl, fun h => by cases h⟩
  split
  · exact ⟨0, 0, false, 0, 0, 0, 20, rfl, fun h => by cases h⟩
  split
  · rename_i h1 h2 h3
    refine ⟨_, _, _, _, _, _, _, rfl, fun _ => ?_⟩
    rw [encL_length]
    exact (enc_plain (by omega) h3).2
  split
  · exact ⟨0, 0, false, 0, 0, 0, 20, rfl, fun h => by cases h⟩
  split
  · exact ⟨0, 0, false, 0, 0, 0, 21, rfl, fun h => by cases h⟩
  · rename_i h1 h2 h3 h4 h5
    refine ⟨_, _, _, _, _, _, _, rfl, fun _ => ?_⟩
    rw [encL_length]
    exact (enc_tagged (by omega) (Decidable.not_not.1 h3) h5).2
/-- A packet that is read, as bytes. -/
theorem enc_arp {bs : List UInt8} (h : 28 ≤ bs.length) (hh : nB bs 0 6 = 4429186564) : okArp (nB bs 6 8) (nB bs 8 14) (nB bs 18 24) ∧ encA (nB bs 6 8) (nB bs 8 14) (nB bs 14 18) (nB bs 18 24) (nB bs 24 28) = bs.take 28 := by
  have b1 := nB_lt (bs := bs) (a := 6) (b := 8) (by omega) (by omega) (by omega)
  have b2 := nB_lt (bs := bs) (a := 8) (b := 14) (by omega) (by omega) (by omega)
  have b3 := nB_lt (bs := bs) (a := 18) (b := 24) (by omega) (by omega) (by omega)
  refine ⟨⟨?_, ?_, ?_, ?_⟩, ?_⟩
  · have : (256 : Int) ^ (14 - 8) = 281474976710656 := by decide
    unfold nB; omega
  · have : (256 : Int) ^ (24 - 18) = 281474976710656 := by decide
    unfold nB; omega
  · unfold nB; omega
  · have : (256 : Int) ^ (8 - 6) = 65536 := by decide
    unfold nB; omega
  · unfold encA
    rw [← hh, nB_bytes (k := 6) rfl (by omega) (by omega), nB_bytes (k := 2) rfl (by omega) (by omega), nB_bytes (k := 6) rfl (by omega) (by omega), nB_bytes (k := 4) rfl (by omega) (by omega), nB_bytes (k := 6) rfl (by omega) (by omega), nB_bytes (k := 4) rfl (by omega) (by omega)]
    rw [List.drop_zero, pieces2 6 8 (by omega), pieces2 8 14 (by omega), pieces2 14 18 (by omega), pieces2 18 24 (by omega), pieces2 24 28 (by omega)]

theorem arp_shape (bs : List UInt8) (hl : bs.length = 28) : ∃ y1 y2 y3 y4 y5 e : Int, arpR bs = .tup [.agg [.int .i64 y1, .int .u64 y2, .int .u32 y3, .int .u64 y4, .int .u32 y5], .int .i64 e] ∧ (e = 0 → encA y1 y2 y3 y4 y5 = bs) := by
  unfold arpR
  split
  · omega
  split
  · exact ⟨0, 0, 0, 0, 0, 21, rfl, fun h => by cases h⟩
  · rename_i h1 h2
    refine ⟨_, _, _, _, _, _, rfl, fun _ => ?_⟩
    rw [(enc_arp (by omega) (Decidable.not_not.1 h2)).2, List.take_of_length_le (by omega)]
namespace M
theorem len_n : ((14 : Nat) : Int) = 14 ∧ ((18 : Nat) : Int) = 18 ∧ ((28 : Nat) : Int) = 28 := ⟨rfl, rfl, rfl⟩
theorem ownN {n : Nat} (h : n ≤ 1000) : ¬ (ownC 1 = n ∧ ownC 1 < unk) := by unfold ownC; omega
theorem eth_q (a1 a2 : Int) (a3 : Bool) (a4 a5 b1 b2 : Int) (b3 : Bool) (b4 b5 : Int) : ∃ q, eqT cx 9 25 (.agg [.int .u64 a1, .int .u64 a2, .bool a3, .int .i64 a4, .int .i64 a5]) (.agg [.int .u64 b1, .int .u64 b2, .bool b3, .int .i64 b4, .int .i64 b5]) = some q ∧ (q = true → a1 = b1 ∧ a2 = b2 ∧ a3 = b3 ∧ a4 = b4 ∧ a5 = b5) := by
  have h : 25 ∈ cx.eqs := by show 25 ∈ [25, 36]; simp
  simp [eqT, eqF, eqU, partV, isAggT, tyE, Try.underlying25, h]
  cases h1 : a1 == b1 <;> cases h2 : a2 == b2 <;> cases h3 : a3 == b3 <;> cases h4 : a4 == b4 <;> cases h5 : a5 == b5 <;> simp_all
theorem arp_q (a1 a2 a3 a4 a5 b1 b2 b3 b4 b5 : Int) : ∃ q, eqT cx 9 36 (.agg [.int .i64 a1, .int .u64 a2, .int .u32 a3, .int .u64 a4, .int .u32 a5]) (.agg [.int .i64 b1, .int .u64 b2, .int .u32 b3, .int .u64 b4, .int .u32 b5]) = some q ∧ (q = true → a1 = b1 ∧ a2 = b2 ∧ a3 = b3 ∧ a4 = b4 ∧ a5 = b5) := by
  have h : 36 ∈ cx.eqs := by show 36 ∈ [25, 36]; simp
  simp [eqT, eqF, eqU, partV, isAggT, tyE, Try.underlying36, h]
  cases h1 : a1 == b1 <;> cases h2 : a2 == b2 <;> cases h3 : a3 == b3 <;> cases h4 : a4 == b4 <;> cases h5 : a5 == b5 <;> simp_all
theorem frz1 : (∀ n0 H b off len cap, frz n0 H 1 (.msl b off len cap) = if n0 ≤ b then (match hget H b with
        | .some (.cells cs) => if off + len ≤ cs.length then .sl (if cap = len ∧ cap < unk then .full else .none) ((cs.drop off).take len) else .msl b off len cap
        | _ => .msl b off len cap) else .msl b off len cap) ∧ (∀ n0 H b off, frz n0 H 1 (.ptr b off) = if n0 ≤ b then (match hget H b with | .some (.cells cs) => .cptr (cs.drop off) | _ => .ptr b off) else .ptr b off) := by

  constructor <;> intros <;> simp only [frz, List.map_id'] <;> rfl
theorem freezeI {C : Cfg} {f : Fr} {st : St} {ops : Array Oper} {l : List Oper} {Q : Fr → St → Prop} (h : ∀ F, (∀ i, tget F i = frz 0 st.H 1 (tget f.t i)) → EvOps C ops l ⟨F, f.d⟩ ⟨[], st.n⟩ Q) : EvOps C ops l f st Q :=
  EvOps.freeze 0 [] (List.nil_sublist _) (fun _ hp => by cases hp) (h _ (tget_frzF _ _ _))

set_option maxHeartbeats 4000000 in
theorem turned_fpp (d sr tag ty : Int) (hd : 0 ≤ d) (hs : 0 ≤ sr) (g1 : d ≤ 281474976710655) (g2 : sr ≤ 281474976710655) (g4 : 0 ≤ ty ∧ ty ≤ 65535) (g5 : ty ≠ 33024) (op sha spa tha tpa : Int) (h1 : 0 ≤ sha) (h2 : sha < 18446744073709551616) (h3 : 0 ≤ spa) (h4 : spa < 4294967296) (h5 : 0 ≤ tha) (h6 : tha < 18446744073709551616) (h7 : 0 ≤ tpa) (h8 : tpa < 4294967296) (k1 : sha ≤ 281474976710655) (k2 : tha ≤ 281474976710655) (k3 : 0 ≤ op) (k4 : op ≤ 65535) (at_ by_ : Int) (b1 : 0 < by_) (b2 : by_ < 256) (s1 : 0 ≤ Int.tmod at_ 14) (s2 : 0 ≤ Int.tmod at_ 28) (b0 c0 : UInt8) (hb : (encL d sr false 0 ty)[((Int.tmod at_ 14)).toNat]? = some b0) (hc : (encA op sha spa tha tpa)[((Int.tmod at_ 28)).toNat]? = some c0) (st : St) :
    FnS cx 7 [.agg [.int .u64 d, .int .u64 sr, .bool false, .int .i64 0, .int .i64 ty], .agg [.int .i64 op, .int .u64 sha, .int .u32 spa, .int .u64 tha, .int .u32 tpa], .int .i64 at_, .int .u8 by_] st (.bool true) st := by
  have q1 : -14 < Int.tmod at_ 14 := by have := Int.lt_tmod_of_pos at_ (b := 14) (by omega); omega
  have q2 : Int.tmod at_ 14 < 14 := Int.tmod_lt_of_pos at_ (by omega)
  have q3 : -28 < Int.tmod at_ 28 := by have := Int.lt_tmod_of_pos at_ (b := 28) (by omega); omega
  have q4 : Int.tmod at_ 28 < 28 := Int.tmod_lt_of_pos at_ (by omega)
  have hl1 := encL_length d sr false 0 ty
  have hl2 := encA_length op sha spa tha tpa
  simp only [if_true, Bool.false_eq_true, if_false] at hl1
  refine goP Try.func7 rfl rfl rfl rfl ?_ ?_
  · rfl
  intro t ht
  have a0 : tget t 0 = .agg [.int .u64 d, .int .u64 sr, .bool false, .int .i64 0, .int .i64 ty] := ht 0 _ rfl
  have a1 : tget t 1 = .agg [.int .i64 op, .int .u64 sha, .int .u32 spa, .int .u64 tha, .int .u32 tpa] := ht 1 _ rfl
  have a2 : tget t 2 = .int .i64 at_ := ht 2 _ rfl
  have a3 : tget t 3 = .int .u8 by_ := ht 3 _ rfl
  clear ht
  have ex := And.intro @a0 (And.intro @a1 (And.intro @a2 (And.intro @a3 (And.intro @hb (And.intro @hc (And.intro @hl1 (And.intro @hl2 @len_n)))))))
  repeat' (first
   | (with_reducible refine isO ?_); first
     | refine mvA (h := ?_)
     | refine asA (h := ?_)
     | refine quA (h := ?_)
     | refine wnA (h := ?_)
     | refine caA (hc := (encP _ _ _ 0 _ hd hs g1 g2 g4 g5)) (h := ?_)
     | refine caA (hc := (arp17 _ _ _ _ _ _ h1 h2 h3 h4 h5 h6 h7 h8 k1 k2 k3 k4)) (h := ?_)
     | refine caA (hc := livesS _) (h := ?_)
   | (with_reducible refine isG ?_); first
     | refine stA (h := ?_)
     | refine srA (h := ?_)
     | refine swA (h := ?_)
     | refine s1A (h := ?_)
     | refine s0A (h := ?_)
     | refine sgA (h1 := fun _ => ?_) (h0 := fun _ => ?_)
     | refine sbA (h1 := fun _ => ?_) (h0 := fun _ => ?_)
   | (with_reducible refine isP ?_); first
     | refine dqA (h := ?_)
     | refine dnA (i := 17) (l := []) (h := ?_)
     | refine dnA (i := 19) (l := []) (h := ?_)
   | (with_reducible refine isC ?_); first
     | refine ctA (h := ?_)
     | refine cfA (h := ?_)
     | refine cdA (h1 := fun _ => ?_) (h0 := fun _ => ?_)
     | refine cbA (h1 := fun _ => ?_) (h0 := fun _ => ?_)
   | (with_reducible refine isR ?_); first
     | refine Ev.drawn (by decide +kernel) (l := [0, 1, 2, 3, 4, 5, 6, 7, 8, 9, 10, 11, 12, 13, 14, 15, 16, 17, 18, 19]) (by decide +kernel) ?_
   | with_reducible refine Ev.seq ?_
   | with_reducible refine Ev.ops ?_
   | with_reducible refine NxE ?_
   | with_reducible refine BxN ?_
   | with_reducible refine BxX ?_
   | with_reducible refine NxX ?_
   | with_reducible refine NxR ?_
   | with_reducible refine BxR ?_
   | with_reducible refine NxG ?_
   | with_reducible refine BxG ?_
   | with_reducible refine GxR ?_
   | with_reducible refine GxN ?_
   | with_reducible refine GxX ?_
   | with_reducible refine Ev.goto ?_
   | with_reducible refine Ev.block ?_
   | with_reducible refine Ev.skip ?_
   | with_reducible refine Ev.exit ?_
   | with_reducible refine Ev.ret ?_
   | with_reducible refine Ev.label ?_
   | with_reducible refine EvOps.nil ?_
   | with_reducible refine EvPlan.nil ?_
   | (with_reducible refine BxO ?_ ?_; · decide)
   )
  refine freezeI fun F hF => ?_
  have c9 := hF 9
  have c11 := hF 11
  have c4 := hF 4
  have c5 := hF 5
  have c81 := hF 81
  simp (disch := (first | assumption | omega | (simp only [List.length_append, bytesL_length, ofBytes_length, List.length_take, List.length_drop, List.length_cons, List.length_nil]; omega))) only [↓opE, ↓evP, stE, binE, ldE, ↓tgP, ↓reduceIte, clE, ncE, szE, hgE, intBin, shiftBin, strBin, unV, indexAddrV, indexV, lenV, partV, isAggT, sliceV, boundsV, bndV, asIntV, fieldAddrV, fieldV, putAt, nilCheckV, makeIfaceV, stripAgg, stripCell, decide_eq_true_eq, beqD, bneD, notD, beqS, if_true, if_false, ite_true, ite_false, Bool.true_eq_false, Bool.false_eq_true, Nat.reduceEqDiff, Nat.reduceBEq, Nat.reduceAdd, Nat.reduceSub, Nat.reduceMul, Nat.min_def, Nat.reducePow, Nat.reduceLeDiff, Nat.reduceLT, Int.reduceEq, Int.reduceNe, Int.reduceLT, Int.reduceLE, Int.reduceToNat, Int.reduceAdd, Int.reduceSub, Int.reduceMul, Int.reducePow, Int.reduceNeg, Option.map_some, Option.map_none, Option.bind_some, Option.getD_some, Option.getD_none, ofBytes_length, ofBytes_get, ofBytes_take, ofBytes_drop, Int.toNat_natCast, Int.natCast_nonneg, and_self, true_and, and_true, List.getElem?_cons_zero, List.getElem?_cons_succ, decide_true, decide_false, Bool.not_true, Bool.not_false, List.getElem_toArray, List.getElem?_toArray, List.getElem_cons_succ, List.getElem_cons_zero, List.toList_toArray, List.map_cons, List.map_nil, List.take_succ_cons, List.take_zero, List.drop_succ_cons, List.drop_zero, List.length_cons, List.length_nil, List.nil_append, List.cons_append, List.append_nil, Nat.le_refl, Nat.zero_add, Nat.mul_one, Nat.add_zero, Nat.zero_lt_one, List.length_singleton, IntKind.bits, reduceCtorEq, not_true_eq_false, not_false_eq_true, ne_eq, if_pos, if_neg, wI64, wI32, wU8, wU16, wU32, wU64, Int.emod_eq_of_lt, Int.fdiv_eq_ediv_of_nonneg, Int.tdiv_eq_ediv_of_nonneg, Int.tmod_eq_emod_of_nonneg, tyE, Try.underlying25, Try.underlying36, cvE, bdE, a0, a1, a2, a3, hb, hc, hl1, hl2, len_n, frz1] at c9 c11 c4 c5 c81
  clear hF
  obtain ⟨B, e9, lB, nB⟩ := turned_bytes hl1 hb b1 b2
  obtain ⟨D, e11, lD, nD⟩ := turned_bytes hl2 hc b1 b2
  rw [if_neg (ownN (by omega))] at c9 c11 c81
  replace c9 := c9.trans (congrArg (V.sl .none) e9)
  replace c81 := c81.trans (congrArg (V.sl .none) e9)
  replace c11 := c11.trans (congrArg (V.sl .none) e11)
  obtain ⟨x1, x2, x3, x4, x5, n1, e1, hv1, hk1⟩ := head_shape B
  have hh : ∀ st, FnS cx 8 [.sl .none (ofBytes B)] st (.tup [.agg [.int .u64 x1, .int .u64 x2, .bool x3, .int .i64 x4, .int .i64 x5], .int .i64 n1, .int .i64 e1]) st := fun st => hv1 ▸ tr ⟨ethHead_run .none B (by unfold maxLen; omega) st _ ⟨rfl, rfl⟩⟩
  obtain ⟨y1, y2, y3, y4, y5, e2, hv2, hk2⟩ := arp_shape D (by omega)
  have ha : ∀ st, FnS cx 13 [.sl .none (ofBytes D)] st (.tup [.agg [.int .i64 y1, .int .u64 y2, .int .u32 y3, .int .u64 y4, .int .u32 y5], .int .i64 e2]) st := fun st => hv2 ▸ tr (ethArp_long .none D (by unfold maxLen; omega) (by omega) rfl st)
  obtain ⟨q, hq, hq2⟩ := eth_q x1 x2 x3 x4 x5 d sr false 0 ty
  obtain ⟨r, hr, hr2⟩ := arp_q y1 y2 y3 y4 y5 op sha spa tha tpa
  have hq3 : e1 = 0 → q = false := fun h => by
    cases q with
    | false => rfl
    | true =>
      obtain ⟨rfl, rfl, rfl, rfl, rfl⟩ := hq2 rfl
      have h3 := hk1 h
      rw [hl1, List.take_of_length_le (by omega)] at h3
      exact absurd h3.symm nB
  have hr3 : e2 = 0 → r = false := fun h => by
    cases r with
    | false => rfl
    | true =>
      obtain ⟨rfl, rfl, rfl, rfl, rfl⟩ := hr2 rfl
      exact absurd (hk2 h).symm nD
  clear hv1 hv2 hk1 hk2 e9 e11 hq2 hr2
  have ex := And.intro @c9 (And.intro @c11 (And.intro @c4 (And.intro @c5 (And.intro @c81 (And.intro @hq @hr)))))
  repeat' (first
   | (with_reducible refine isO ?_); first
     | refine mvA (h := ?_)
     | refine asA (h := ?_)
     | refine quA (h := ?_)
     | refine wnA (h := ?_)
     | refine caA (hc := (hh _)) (h := ?_)
     | refine caA (hc := (ha _)) (h := ?_)
   | (with_reducible refine isG ?_); first
     | refine stA (h := ?_)
     | refine srA (h := ?_)
     | refine swA (h := ?_)
     | refine s1A (h := ?_)
     | refine s0A (h := ?_)
     | refine sgA (h1 := fun _ => ?_) (h0 := fun _ => ?_)
     | refine sbA (h1 := fun _ => ?_) (h0 := fun _ => ?_)
   | (with_reducible refine isP ?_); first
     | refine dqA (h := ?_)
     | refine dnA (i := 17) (l := []) (h := ?_)
     | refine dnA (i := 19) (l := []) (h := ?_)
   | (with_reducible refine isC ?_); first
     | refine ctA (h := ?_)
     | refine cfA (h := ?_)
     | refine cdA (h1 := fun _ => ?_) (h0 := fun _ => ?_)
     | refine cbA (h1 := fun _ => ?_) (h0 := fun _ => ?_)
   | (with_reducible refine isR ?_); first
     | refine Ev.drawn (by decide +kernel) (l := [0, 1, 2, 3, 4, 5, 6, 7, 8, 9, 10, 11, 12, 13, 14, 15, 16, 17, 18, 19]) (by decide +kernel) ?_
   | with_reducible refine Ev.seq ?_
   | with_reducible refine Ev.ops ?_
   | with_reducible refine NxE ?_
   | with_reducible refine BxN ?_
   | with_reducible refine BxX ?_
   | with_reducible refine NxX ?_
   | with_reducible refine NxR ?_
   | with_reducible refine BxR ?_
   | with_reducible refine NxG ?_
   | with_reducible refine BxG ?_
   | with_reducible refine GxR ?_
   | with_reducible refine GxN ?_
   | with_reducible refine GxX ?_
   | with_reducible refine Ev.goto ?_
   | with_reducible refine Ev.block ?_
   | with_reducible refine Ev.skip ?_
   | with_reducible refine Ev.exit ?_
   | with_reducible refine Ev.ret ?_
   | with_reducible refine Ev.label ?_
   | with_reducible refine EvOps.nil ?_
   | with_reducible refine EvPlan.nil ?_
   | (with_reducible refine BxO ?_ ?_; · decide)
   )
  all_goals refine lfA (rl := [.tmp 8]) rfl (hv := by
      simp only [packV, strip, stripAgg, stripCell, List.map_cons, List.map_nil]
      first | done | (clear c9 c11 c4 c5 c81 a0 a1 a2 a3 hh ha hq hr; first | rfl | (simp_all; done) | (exfalso; omega) | (trace_state; fail))) (hp := (show pureV (.bool true) = true from rfl))

set_option maxHeartbeats 4000000 in
theorem turned_fpn (d sr tag ty : Int) (hd : 0 ≤ d) (hs : 0 ≤ sr) (g1 : d ≤ 281474976710655) (g2 : sr ≤ 281474976710655) (g4 : 0 ≤ ty ∧ ty ≤ 65535) (g5 : ty ≠ 33024) (op sha spa tha tpa : Int) (h1 : 0 ≤ sha) (h2 : sha < 18446744073709551616) (h3 : 0 ≤ spa) (h4 : spa < 4294967296) (h5 : 0 ≤ tha) (h6 : tha < 18446744073709551616) (h7 : 0 ≤ tpa) (h8 : tpa < 4294967296) (k1 : sha ≤ 281474976710655) (k2 : tha ≤ 281474976710655) (k3 : 0 ≤ op) (k4 : op ≤ 65535) (at_ by_ : Int) (b1 : 0 < by_) (b2 : by_ < 256) (s1 : 0 ≤ Int.tmod at_ 14) (s2 : Int.tmod at_ 28 < 0) (b0 c0 : UInt8) (hb : (encL d sr false 0 ty)[((Int.tmod at_ 14)).toNat]? = some b0) (hc : (encA op sha spa tha tpa)[((Int.tmod at_ 28 + 28)).toNat]? = some c0) (st : St) :
    FnS cx 7 [.agg [.int .u64 d, .int .u64 sr, .bool false, .int .i64 0, .int .i64 ty], .agg [.int .i64 op, .int .u64 sha, .int .u32 spa, .int .u64 tha, .int .u32 tpa], .int .i64 at_, .int .u8 by_] st (.bool true) st := by
  have q1 : -14 < Int.tmod at_ 14 := by have := Int.lt_tmod_of_pos at_ (b := 14) (by omega); omega
  have q2 : Int.tmod at_ 14 < 14 := Int.tmod_lt_of_pos at_ (by omega)
  have q3 : -28 < Int.tmod at_ 28 := by have := Int.lt_tmod_of_pos at_ (b := 28) (by omega); omega
  have q4 : Int.tmod at_ 28 < 28 := Int.tmod_lt_of_pos at_ (by omega)
  have hl1 := encL_length d sr false 0 ty
  have hl2 := encA_length op sha spa tha tpa
  simp only [if_true, Bool.false_eq_true, if_false] at hl1
  refine goP Try.func7 rfl rfl rfl rfl ?_ ?_
  · rfl
  intro t ht
  have a0 : tget t 0 = .agg [.int .u64 d, .int .u64 sr, .bool false, .int .i64 0, .int .i64 ty] := ht 0 _ rfl
  have a1 : tget t 1 = .agg [.int .i64 op, .int .u64 sha, .int .u32 spa, .int .u64 tha, .int .u32 tpa] := ht 1 _ rfl
  have a2 : tget t 2 = .int .i64 at_ := ht 2 _ rfl
  have a3 : tget t 3 = .int .u8 by_ := ht 3 _ rfl
  clear ht
  have ex := And.intro @a0 (And.intro @a1 (And.intro @a2 (And.intro @a3 (And.intro @hb (And.intro @hc (And.intro @hl1 (And.intro @hl2 @len_n)))))))
  repeat' (first
   | (with_reducible refine isO ?_); first
     | refine mvA (h := ?_)
     | refine asA (h := ?_)
     | refine quA (h := ?_)
     | refine wnA (h := ?_)
     | refine caA (hc := (encP _ _ _ 0 _ hd hs g1 g2 g4 g5)) (h := ?_)
     | refine caA (hc := (arp17 _ _ _ _ _ _ h1 h2 h3 h4 h5 h6 h7 h8 k1 k2 k3 k4)) (h := ?_)
     | refine caA (hc := livesS _) (h := ?_)
   | (with_reducible refine isG ?_); first
     | refine stA (h := ?_)
     | refine srA (h := ?_)
     | refine swA (h := ?_)
     | refine s1A (h := ?_)
     | refine s0A (h := ?_)
     | refine sgA (h1 := fun _ => ?_) (h0 := fun _ => ?_)
     | refine sbA (h1 := fun _ => ?_) (h0 := fun _ => ?_)
   | (with_reducible refine isP ?_); first
     | refine dqA (h := ?_)
     | refine dnA (i := 17) (l := []) (h := ?_)
     | refine dnA (i := 19) (l := []) (h := ?_)
   | (with_reducible refine isC ?_); first
     | refine ctA (h := ?_)
     | refine cfA (h := ?_)
     | refine cdA (h1 := fun _ => ?_) (h0 := fun _ => ?_)
     | refine cbA (h1 := fun _ => ?_) (h0 := fun _ => ?_)
   | (with_reducible refine isR ?_); first
     | refine Ev.drawn (by decide +kernel) (l := [0, 1, 2, 3, 4, 5, 6, 7, 8, 9, 10, 11, 12, 13, 14, 15, 16, 17, 18, 19]) (by decide +kernel) ?_
   | with_reducible refine Ev.seq ?_
   | with_reducible refine Ev.ops ?_
   | with_reducible refine NxE ?_
   | with_reducible refine BxN ?_
   | with_reducible refine BxX ?_
   | with_reducible refine NxX ?_
   | with_reducible refine NxR ?_
   | with_reducible refine BxR ?_
   | with_reducible refine NxG ?_
   | with_reducible refine BxG ?_
   | with_reducible refine GxR ?_
   | with_reducible refine GxN ?_
   | with_reducible refine GxX ?_
   | with_reducible refine Ev.goto ?_
   | with_reducible refine Ev.block ?_
   | with_reducible refine Ev.skip ?_
   | with_reducible refine Ev.exit ?_
   | with_reducible refine Ev.ret ?_
   | with_reducible refine Ev.label ?_
   | with_reducible refine EvOps.nil ?_
   | with_reducible refine EvPlan.nil ?_
   | (with_reducible refine BxO ?_ ?_; · decide)
   )
  refine freezeI fun F hF => ?_
  have c9 := hF 9
  have c11 := hF 11
  have c4 := hF 4
  have c5 := hF 5
  have c81 := hF 81
  simp (disch := (first | assumption | omega | (simp only [List.length_append, bytesL_length, ofBytes_length, List.length_take, List.length_drop, List.length_cons, List.length_nil]; omega))) only [↓opE, ↓evP, stE, binE, ldE, ↓tgP, ↓reduceIte, clE, ncE, szE, hgE, intBin, shiftBin, strBin, unV, indexAddrV, indexV, lenV, partV, isAggT, sliceV, boundsV, bndV, asIntV, fieldAddrV, fieldV, putAt, nilCheckV, makeIfaceV, stripAgg, stripCell, decide_eq_true_eq, beqD, bneD, notD, beqS, if_true, if_false, ite_true, ite_false, Bool.true_eq_false, Bool.false_eq_true, Nat.reduceEqDiff, Nat.reduceBEq, Nat.reduceAdd, Nat.reduceSub, Nat.reduceMul, Nat.min_def, Nat.reducePow, Nat.reduceLeDiff, Nat.reduceLT, Int.reduceEq, Int.reduceNe, Int.reduceLT, Int.reduceLE, Int.reduceToNat, Int.reduceAdd, Int.reduceSub, Int.reduceMul, Int.reducePow, Int.reduceNeg, Option.map_some, Option.map_none, Option.bind_some, Option.getD_some, Option.getD_none, ofBytes_length, ofBytes_get, ofBytes_take, ofBytes_drop, Int.toNat_natCast, Int.natCast_nonneg, and_self, true_and, and_true, List.getElem?_cons_zero, List.getElem?_cons_succ, decide_true, decide_false, Bool.not_true, Bool.not_false, List.getElem_toArray, List.getElem?_toArray, List.getElem_cons_succ, List.getElem_cons_zero, List.toList_toArray, List.map_cons, List.map_nil, List.take_succ_cons, List.take_zero, List.drop_succ_cons, List.drop_zero, List.length_cons, List.length_nil, List.nil_append, List.cons_append, List.append_nil, Nat.le_refl, Nat.zero_add, Nat.mul_one, Nat.add_zero, Nat.zero_lt_one, List.length_singleton, IntKind.bits, reduceCtorEq, not_true_eq_false, not_false_eq_true, ne_eq, if_pos, if_neg, wI64, wI32, wU8, wU16, wU32, wU64, Int.emod_eq_of_lt, Int.fdiv_eq_ediv_of_nonneg, Int.tdiv_eq_ediv_of_nonneg, Int.tmod_eq_emod_of_nonneg, tyE, Try.underlying25, Try.underlying36, cvE, bdE, a0, a1, a2, a3, hb, hc, hl1, hl2, len_n, frz1] at c9 c11 c4 c5 c81
  clear hF
  obtain ⟨B, e9, lB, nB⟩ := turned_bytes hl1 hb b1 b2
  obtain ⟨D, e11, lD, nD⟩ := turned_bytes hl2 hc b1 b2
  rw [if_neg (ownN (by omega))] at c9 c11 c81
  replace c9 := c9.trans (congrArg (V.sl .none) e9)
  replace c81 := c81.trans (congrArg (V.sl .none) e9)
  replace c11 := c11.trans (congrArg (V.sl .none) e11)
  obtain ⟨x1, x2, x3, x4, x5, n1, e1, hv1, hk1⟩ := head_shape B
  have hh : ∀ st, FnS cx 8 [.sl .none (ofBytes B)] st (.tup [.agg [.int .u64 x1, .int .u64 x2, .bool x3, .int .i64 x4, .int .i64 x5], .int .i64 n1, .int .i64 e1]) st := fun st => hv1 ▸ tr ⟨ethHead_run .none B (by unfold maxLen; omega) st _ ⟨rfl, rfl⟩⟩
  obtain ⟨y1, y2, y3, y4, y5, e2, hv2, hk2⟩ := arp_shape D (by omega)
  have ha : ∀ st, FnS cx 13 [.sl .none (ofBytes D)] st (.tup [.agg [.int .i64 y1, .int .u64 y2, .int .u32 y3, .int .u64 y4, .int .u32 y5], .int .i64 e2]) st := fun st => hv2 ▸ tr (ethArp_long .none D (by unfold maxLen; omega) (by omega) rfl st)
  obtain ⟨q, hq, hq2⟩ := eth_q x1 x2 x3 x4 x5 d sr false 0 ty
  obtain ⟨r, hr, hr2⟩ := arp_q y1 y2 y3 y4 y5 op sha spa tha tpa
  have hq3 : e1 = 0 → q = false := fun h => by
    cases q with
    | false => rfl
    | true =>
      obtain ⟨rfl, rfl, rfl, rfl, rfl⟩ := hq2 rfl
      have h3 := hk1 h
      rw [hl1, List.take_of_length_le (by omega)] at h3
      exact absurd h3.symm nB
  have hr3 : e2 = 0 → r = false := fun h => by
    cases r with
    | false => rfl
    | true =>
      obtain ⟨rfl, rfl, rfl, rfl, rfl⟩ := hr2 rfl
      exact absurd (hk2 h).symm nD
  clear hv1 hv2 hk1 hk2 e9 e11 hq2 hr2
  have ex := And.intro @c9 (And.intro @c11 (And.intro @c4 (And.intro @c5 (And.intro @c81 (And.intro @hq @hr)))))
  repeat' (first
   | (with_reducible refine isO ?_); first
     | refine mvA (h := ?_)
     | refine asA (h := ?_)
     | refine quA (h := ?_)
     | refine wnA (h := ?_)
     | refine caA (hc := (hh _)) (h := ?_)
     | refine caA (hc := (ha _)) (h := ?_)
   | (with_reducible refine isG ?_); first
     | refine stA (h := ?_)
     | refine srA (h := ?_)
     | refine swA (h := ?_)
     | refine s1A (h := ?_)
     | refine s0A (h := ?_)
     | refine sgA (h1 := fun _ => ?_) (h0 := fun _ => ?_)
     | refine sbA (h1 := fun _ => ?_) (h0 := fun _ => ?_)
   | (with_reducible refine isP ?_); first
     | refine dqA (h := ?_)
     | refine dnA (i := 17) (l := []) (h := ?_)
     | refine dnA (i := 19) (l := []) (h := ?_)
   | (with_reducible refine isC ?_); first
     | refine ctA (h := ?_)
     | refine cfA (h := ?_)
     | refine cdA (h1 := fun _ => ?_) (h0 := fun _ => ?_)
     | refine cbA (h1 := fun _ => ?_) (h0 := fun _ => ?_)
   | (with_reducible refine isR ?_); first
     | refine Ev.drawn (by decide +kernel) (l := [0, 1, 2, 3, 4, 5, 6, 7, 8, 9, 10, 11, 12, 13, 14, 15, 16, 17, 18, 19]) (by decide +kernel) ?_
   | with_reducible refine Ev.seq ?_
   | with_reducible refine Ev.ops ?_
   | with_reducible refine NxE ?_
   | with_reducible refine BxN ?_
   | with_reducible refine BxX ?_
   | with_reducible refine NxX ?_
   | with_reducible refine NxR ?_
   | with_reducible refine BxR ?_
   | with_reducible refine NxG ?_
   | with_reducible refine BxG ?_
   | with_reducible refine GxR ?_
   | with_reducible refine GxN ?_
   | with_reducible refine GxX ?_
   | with_reducible refine Ev.goto ?_
   | with_reducible refine Ev.block ?_
   | with_reducible refine Ev.skip ?_
   | with_reducible refine Ev.exit ?_
   | with_reducible refine Ev.ret ?_
   | with_reducible refine Ev.label ?_
   | with_reducible refine EvOps.nil ?_
   | with_reducible refine EvPlan.nil ?_
   | (with_reducible refine BxO ?_ ?_; · decide)
   )
  all_goals refine lfA (rl := [.tmp 8]) rfl (hv := by
      simp only [packV, strip, stripAgg, stripCell, List.map_cons, List.map_nil]
      first | done | (clear c9 c11 c4 c5 c81 a0 a1 a2 a3 hh ha hq hr; first | rfl | (simp_all; done) | (exfalso; omega) | (trace_state; fail))) (hp := (show pureV (.bool true) = true from rfl))

set_option maxHeartbeats 4000000 in
theorem turned_fnp (d sr tag ty : Int) (hd : 0 ≤ d) (hs : 0 ≤ sr) (g1 : d ≤ 281474976710655) (g2 : sr ≤ 281474976710655) (g4 : 0 ≤ ty ∧ ty ≤ 65535) (g5 : ty ≠ 33024) (op sha spa tha tpa : Int) (h1 : 0 ≤ sha) (h2 : sha < 18446744073709551616) (h3 : 0 ≤ spa) (h4 : spa < 4294967296) (h5 : 0 ≤ tha) (h6 : tha < 18446744073709551616) (h7 : 0 ≤ tpa) (h8 : tpa < 4294967296) (k1 : sha ≤ 281474976710655) (k2 : tha ≤ 281474976710655) (k3 : 0 ≤ op) (k4 : op ≤ 65535) (at_ by_ : Int) (b1 : 0 < by_) (b2 : by_ < 256) (s1 : Int.tmod at_ 14 < 0) (s2 : 0 ≤ Int.tmod at_ 28) (b0 c0 : UInt8) (hb : (encL d sr false 0 ty)[((Int.tmod at_ 14 + 14)).toNat]? = some b0) (hc : (encA op sha spa tha tpa)[((Int.tmod at_ 28)).toNat]? = some c0) (st : St) :
    FnS cx 7 [.agg [.int .u64 d, .int .u64 sr, .bool false, .int .i64 0, .int .i64 ty], .agg [.int .i64 op, .int .u64 sha, .int .u32 spa, .int .u64 tha, .int .u32 tpa], .int .i64 at_, .int .u8 by_] st (.bool true) st := by
  have q1 : -14 < Int.tmod at_ 14 := by have := Int.lt_tmod_of_pos at_ (b := 14) (by omega); omega
  have q2 : Int.tmod at_ 14 < 14 := Int.tmod_lt_of_pos at_ (by omega)
  have q3 : -28 < Int.tmod at_ 28 := by have := Int.lt_tmod_of_pos at_ (b := 28) (by omega); omega
  have q4 : Int.tmod at_ 28 < 28 := Int.tmod_lt_of_pos at_ (by omega)
  have hl1 := encL_length d sr false 0 ty
  have hl2 := encA_length op sha spa tha tpa
  simp only [if_true, Bool.false_eq_true, if_false] at hl1
  refine goP Try.func7 rfl rfl rfl rfl ?_ ?_
  · rfl
  intro t ht
  have a0 : tget t 0 = .agg [.int .u64 d, .int .u64 sr, .bool false, .int .i64 0, .int .i64 ty] := ht 0 _ rfl
  have a1 : tget t 1 = .agg [.int .i64 op, .int .u64 sha, .int .u32 spa, .int .u64 tha, .int .u32 tpa] := ht 1 _ rfl
  have a2 : tget t 2 = .int .i64 at_ := ht 2 _ rfl
  have a3 : tget t 3 = .int .u8 by_ := ht 3 _ rfl
  clear ht
  have ex := And.intro @a0 (And.intro @a1 (And.intro @a2 (And.intro @a3 (And.intro @hb (And.intro @hc (And.intro @hl1 (And.intro @hl2 @len_n)))))))
  repeat' (first
   | (with_reducible refine isO ?_); first
     | refine mvA (h := ?_)
     | refine asA (h := ?_)
     | refine quA (h := ?_)
     | refine wnA (h := ?_)
     | refine caA (hc := (encP _ _ _ 0 _ hd hs g1 g2 g4 g5)) (h := ?_)
     | refine caA (hc := (arp17 _ _ _ _ _ _ h1 h2 h3 h4 h5 h6 h7 h8 k1 k2 k3 k4)) (h := ?_)
     | refine caA (hc := livesS _) (h := ?_)
   | (with_reducible refine isG ?_); first
     | refine stA (h := ?_)
     | refine srA (h := ?_)
     | refine swA (h := ?_)
     | refine s1A (h := ?_)
     | refine s0A (h := ?_)
     | refine sgA (h1 := fun _ => ?_) (h0 := fun _ => ?_)
     | refine sbA (h1 := fun _ => ?_) (h0 := fun _ => ?_)
   | (with_reducible refine isP ?_); first
     | refine dqA (h := ?_)
     | refine dnA (i := 17) (l := []) (h := ?_)
     | refine dnA (i := 19) (l := []) (h := ?_)
   | (with_reducible refine isC ?_); first
     | refine ctA (h := ?_)
     | refine cfA (h := ?_)
     | refine cdA (h1 := fun _ => ?_) (h0 := fun _ => ?_)
     | refine cbA (h1 := fun _ => ?_) (h0 := fun _ => ?_)
   | (with_reducible refine isR ?_); first
     | refine Ev.drawn (by decide +kernel) (l := [0, 1, 2, 3, 4, 5, 6, 7, 8, 9, 10, 11, 12, 13, 14, 15, 16, 17, 18, 19]) (by decide +kernel) ?_
   | with_reducible refine Ev.seq ?_
   | with_reducible refine Ev.ops ?_
   | with_reducible refine NxE ?_
   | with_reducible refine BxN ?_
   | with_reducible refine BxX ?_
   | with_reducible refine NxX ?_
   | with_reducible refine NxR ?_
   | with_reducible refine BxR ?_
   | with_reducible refine NxG ?_
   | with_reducible refine BxG ?_
   | with_reducible refine GxR ?_
   | with_reducible refine GxN ?_
   | with_reducible refine GxX ?_
   | with_reducible refine Ev.goto ?_
   | with_reducible refine Ev.block ?_
   | with_reducible refine Ev.skip ?_
   | with_reducible refine Ev.exit ?_
   | with_reducible refine Ev.ret ?_
   | with_reducible refine Ev.label ?_
   | with_reducible refine EvOps.nil ?_
   | with_reducible refine EvPlan.nil ?_
   | (with_reducible refine BxO ?_ ?_; · decide)
   )
  refine freezeI fun F hF => ?_
  have c9 := hF 9
  have c11 := hF 11
  have c4 := hF 4
  have c5 := hF 5
  have c81 := hF 81
  simp (disch := (first | assumption | omega | (simp only [List.length_append, bytesL_length, ofBytes_length, List.length_take, List.length_drop, List.length_cons, List.length_nil]; omega))) only [↓opE, ↓evP, stE, binE, ldE, ↓tgP, ↓reduceIte, clE, ncE, szE, hgE, intBin, shiftBin, strBin, unV, indexAddrV, indexV, lenV, partV, isAggT, sliceV, boundsV, bndV, asIntV, fieldAddrV, fieldV, putAt, nilCheckV, makeIfaceV, stripAgg, stripCell, decide_eq_true_eq, beqD, bneD, notD, beqS, if_true, if_false, ite_true, ite_false, Bool.true_eq_false, Bool.false_eq_true, Nat.reduceEqDiff, Nat.reduceBEq, Nat.reduceAdd, Nat.reduceSub, Nat.reduceMul, Nat.min_def, Nat.reducePow, Nat.reduceLeDiff, Nat.reduceLT, Int.reduceEq, Int.reduceNe, Int.reduceLT, Int.reduceLE, Int.reduceToNat, Int.reduceAdd, Int.reduceSub, Int.reduceMul, Int.reducePow, Int.reduceNeg, Option.map_some, Option.map_none, Option.bind_some, Option.getD_some, Option.getD_none, ofBytes_length, ofBytes_get, ofBytes_take, ofBytes_drop, Int.toNat_natCast, Int.natCast_nonneg, and_self, true_and, and_true, List.getElem?_cons_zero, List.getElem?_cons_succ, decide_true, decide_false, Bool.not_true, Bool.not_false, List.getElem_toArray, List.getElem?_toArray, List.getElem_cons_succ, List.getElem_cons_zero, List.toList_toArray, List.map_cons, List.map_nil, List.take_succ_cons, List.take_zero, List.drop_succ_cons, List.drop_zero, List.length_cons, List.length_nil, List.nil_append, List.cons_append, List.append_nil, Nat.le_refl, Nat.zero_add, Nat.mul_one, Nat.add_zero, Nat.zero_lt_one, List.length_singleton, IntKind.bits, reduceCtorEq, not_true_eq_false, not_false_eq_true, ne_eq, if_pos, if_neg, wI64, wI32, wU8, wU16, wU32, wU64, Int.emod_eq_of_lt, Int.fdiv_eq_ediv_of_nonneg, Int.tdiv_eq_ediv_of_nonneg, Int.tmod_eq_emod_of_nonneg, tyE, Try.underlying25, Try.underlying36, cvE, bdE, a0, a1, a2, a3, hb, hc, hl1, hl2, len_n, frz1] at c9 c11 c4 c5 c81
  clear hF
  obtain ⟨B, e9, lB, nB⟩ := turned_bytes hl1 hb b1 b2
  obtain ⟨D, e11, lD, nD⟩ := turned_bytes hl2 hc b1 b2
  rw [if_neg (ownN (by omega))] at c9 c11 c81
  replace c9 := c9.trans (congrArg (V.sl .none) e9)
  replace c81 := c81.trans (congrArg (V.sl .none) e9)
  replace c11 := c11.trans (congrArg (V.sl .none) e11)
  obtain ⟨x1, x2, x3, x4, x5, n1, e1, hv1, hk1⟩ := head_shape B
  have hh : ∀ st, FnS cx 8 [.sl .none (ofBytes B)] st (.tup [.agg [.int .u64 x1, .int .u64 x2, .bool x3, .int .i64 x4, .int .i64 x5], .int .i64 n1, .int .i64 e1]) st := fun st => hv1 ▸ tr ⟨ethHead_run .none B (by unfold maxLen; omega) st _ ⟨rfl, rfl⟩⟩
  obtain ⟨y1, y2, y3, y4, y5, e2, hv2, hk2⟩ := arp_shape D (by omega)
  have ha : ∀ st, FnS cx 13 [.sl .none (ofBytes D)] st (.tup [.agg [.int .i64 y1, .int .u64 y2, .int .u32 y3, .int .u64 y4, .int .u32 y5], .int .i64 e2]) st := fun st => hv2 ▸ tr (ethArp_long .none D (by unfold maxLen; omega) (by omega) rfl st)
  obtain ⟨q, hq, hq2⟩ := eth_q x1 x2 x3 x4 x5 d sr false 0 ty
  obtain ⟨r, hr, hr2⟩ := arp_q y1 y2 y3 y4 y5 op sha spa tha tpa
  have hq3 : e1 = 0 → q = false := fun h => by
    cases q with
    | false => rfl
    | true =>
      obtain ⟨rfl, rfl, rfl, rfl, rfl⟩ := hq2 rfl
      have h3 := hk1 h
      rw [hl1, List.take_of_length_le (by omega)] at h3
      exact absurd h3.symm nB
  have hr3 : e2 = 0 → r = false := fun h => by
    cases r with
    | false => rfl
    | true =>
      obtain ⟨rfl, rfl, rfl, rfl, rfl⟩ := hr2 rfl
      exact absurd (hk2 h).symm nD
  clear hv1 hv2 hk1 hk2 e9 e11 hq2 hr2
  have ex := And.intro @c9 (And.intro @c11 (And.intro @c4 (And.intro @c5 (And.intro @c81 (And.intro @hq @hr)))))
  repeat' (first
   | (with_reducible refine isO ?_); first
     | refine mvA (h := ?_)
     | refine asA (h := ?_)
     | refine quA (h := ?_)
     | refine wnA (h := ?_)
     | refine caA (hc := (hh _)) (h := ?_)
     | refine caA (hc := (ha _)) (h := ?_)
   | (with_reducible refine isG ?_); first
     | refine stA (h := ?_)
     | refine srA (h := ?_)
     | refine swA (h := ?_)
     | refine s1A (h := ?_)
     | refine s0A (h := ?_)
     | refine sgA (h1 := fun _ => ?_) (h0 := fun _ => ?_)
     | refine sbA (h1 := fun _ => ?_) (h0 := fun _ => ?_)
   | (with_reducible refine isP ?_); first
     | refine dqA (h := ?_)
     | refine dnA (i := 17) (l := []) (h := ?_)
     | refine dnA (i := 19) (l := []) (h := ?_)
   | (with_reducible refine isC ?_); first
     | refine ctA (h := ?_)
     | refine cfA (h := ?_)
     | refine cdA (h1 := fun _ => ?_) (h0 := fun _ => ?_)
     | refine cbA (h1 := fun _ => ?_) (h0 := fun _ => ?_)
   | (with_reducible refine isR ?_); first
     | refine Ev.drawn (by decide +kernel) (l := [0, 1, 2, 3, 4, 5, 6, 7, 8, 9, 10, 11, 12, 13, 14, 15, 16, 17, 18, 19]) (by decide +kernel) ?_
   | with_reducible refine Ev.seq ?_
   | with_reducible refine Ev.ops ?_
   | with_reducible refine NxE ?_
   | with_reducible refine BxN ?_
   | with_reducible refine BxX ?_
   | with_reducible refine NxX ?_
   | with_reducible refine NxR ?_
   | with_reducible refine BxR ?_
   | with_reducible refine NxG ?_
   | with_reducible refine BxG ?_
   | with_reducible refine GxR ?_
   | with_reducible refine GxN ?_
   | with_reducible refine GxX ?_
   | with_reducible refine Ev.goto ?_
   | with_reducible refine Ev.block ?_
   | with_reducible refine Ev.skip ?_
   | with_reducible refine Ev.exit ?_
   | with_reducible refine Ev.ret ?_
   | with_reducible refine Ev.label ?_
   | with_reducible refine EvOps.nil ?_
   | with_reducible refine EvPlan.nil ?_
   | (with_reducible refine BxO ?_ ?_; · decide)
   )
  all_goals refine lfA (rl := [.tmp 8]) rfl (hv := by
      simp only [packV, strip, stripAgg, stripCell, List.map_cons, List.map_nil]
      first | done | (clear c9 c11 c4 c5 c81 a0 a1 a2 a3 hh ha hq hr; first | rfl | (simp_all; done) | (exfalso; omega) | (trace_state; fail))) (hp := (show pureV (.bool true) = true from rfl))

set_option maxHeartbeats 4000000 in
theorem turned_fnn (d sr tag ty : Int) (hd : 0 ≤ d) (hs : 0 ≤ sr) (g1 : d ≤ 281474976710655) (g2 : sr ≤ 281474976710655) (g4 : 0 ≤ ty ∧ ty ≤ 65535) (g5 : ty ≠ 33024) (op sha spa tha tpa : Int) (h1 : 0 ≤ sha) (h2 : sha < 18446744073709551616) (h3 : 0 ≤ spa) (h4 : spa < 4294967296) (h5 : 0 ≤ tha) (h6 : tha < 18446744073709551616) (h7 : 0 ≤ tpa) (h8 : tpa < 4294967296) (k1 : sha ≤ 281474976710655) (k2 : tha ≤ 281474976710655) (k3 : 0 ≤ op) (k4 : op ≤ 65535) (at_ by_ : Int) (b1 : 0 < by_) (b2 : by_ < 256) (s1 : Int.tmod at_ 14 < 0) (s2 : Int.tmod at_ 28 < 0) (b0 c0 : UInt8) (hb : (encL d sr false 0 ty)[((Int.tmod at_ 14 + 14)).toNat]? = some b0) (hc : (encA op sha spa tha tpa)[((Int.tmod at_ 28 + 28)).toNat]? = some c0) (st : St) :
    FnS cx 7 [.agg [.int .u64 d, .int .u64 sr, .bool false, .int .i64 0, .int .i64 ty], .agg [.int .i64 op, .int .u64 sha, .int .u32 spa, .int .u64 tha, .int .u32 tpa], .int .i64 at_, .int .u8 by_] st (.bool true) st := by
  have q1 : -14 < Int.tmod at_ 14 := by have := Int.lt_tmod_of_pos at_ (b := 14) (by omega); omega
  have q2 : Int.tmod at_ 14 < 14 := Int.tmod_lt_of_pos at_ (by omega)
  have q3 : -28 < Int.tmod at_ 28 := by have := Int.lt_tmod_of_pos at_ (b := 28) (by omega); omega
  have q4 : Int.tmod at_ 28 < 28 := Int.tmod_lt_of_pos at_ (by omega)
  have hl1 := encL_length d sr false 0 ty
  have hl2 := encA_length op sha spa tha tpa
  simp only [if_true, Bool.false_eq_true, if_false] at hl1
  refine goP Try.func7 rfl rfl rfl rfl ?_ ?_
  · rfl
  intro t ht
  have a0 : tget t 0 = .agg [.int .u64 d, .int .u64 sr, .bool false, .int .i64 0, .int .i64 ty] := ht 0 _ rfl
  have a1 : tget t 1 = .agg [.int .i64 op, .int .u64 sha, .int .u32 spa, .int .u64 tha, .int .u32 tpa] := ht 1 _ rfl
  have a2 : tget t 2 = .int .i64 at_ := ht 2 _ rfl
  have a3 : tget t 3 = .int .u8 by_ := ht 3 _ rfl
  clear ht
  have ex := And.intro @a0 (And.intro @a1 (And.intro @a2 (And.intro @a3 (And.intro @hb (And.intro @hc (And.intro @hl1 (And.intro @hl2 @len_n)))))))
  repeat' (first
   | (with_reducible refine isO ?_); first
     | refine mvA (h := ?_)
     | refine asA (h := ?_)
     | refine quA (h := ?_)
     | refine wnA (h := ?_)
     | refine caA (hc := (encP _ _ _ 0 _ hd hs g1 g2 g4 g5)) (h := ?_)
     | refine caA (hc := (arp17 _ _ _ _ _ _ h1 h2 h3 h4 h5 h6 h7 h8 k1 k2 k3 k4)) (h := ?_)
     | refine caA (hc := livesS _) (h := ?_)
   | (with_reducible refine isG ?_); first
     | refine stA (h := ?_)
     | refine srA (h := ?_)
     | refine swA (h := ?_)
     | refine s1A (h := ?_)
     | refine s0A (h := ?_)
     | refine sgA (h1 := fun _ => ?_) (h0 := fun _ => ?_)
     | refine sbA (h1 := fun _ => ?_) (h0 := fun _ => ?_)
   | (with_reducible refine isP ?_); first
     | refine dqA (h := ?_)
     | refine dnA (i := 17) (l := []) (h := ?_)
     | refine dnA (i := 19) (l := []) (h := ?_)
   | (with_reducible refine isC ?_); first
     | refine ctA (h := ?_)
     | refine cfA (h := ?_)
     | refine cdA (h1 := fun _ => ?_) (h0 := fun _ => ?_)
     | refine cbA (h1 := fun _ => ?_) (h0 := fun _ => ?_)
   | (with_reducible refine isR ?_); first
     | refine Ev.drawn (by decide +kernel) (l := [0, 1, 2, 3, 4, 5, 6, 7, 8, 9, 10, 11, 12, 13, 14, 15, 16, 17, 18, 19]) (by decide +kernel) ?_
   | with_reducible refine Ev.seq ?_
   | with_reducible refine Ev.ops ?_
   | with_reducible refine NxE ?_
   | with_reducible refine BxN ?_
   | with_reducible refine BxX ?_
   | with_reducible refine NxX ?_
   | with_reducible refine NxR ?_
   | with_reducible refine BxR ?_
   | with_reducible refine NxG ?_
   | with_reducible refine BxG ?_
   | with_reducible refine GxR ?_
   | with_reducible refine GxN ?_
   | with_reducible refine GxX ?_
   | with_reducible refine Ev.goto ?_
   | with_reducible refine Ev.block ?_
   | with_reducible refine Ev.skip ?_
   | with_reducible refine Ev.exit ?_
   | with_reducible refine Ev.ret ?_
   | with_reducible refine Ev.label ?_
   | with_reducible refine EvOps.nil ?_
   | with_reducible refine EvPlan.nil ?_
   | (with_reducible refine BxO ?_ ?_; · decide)
   )
  refine freezeI fun F hF => ?_
  have c9 := hF 9
  have c11 := hF 11
  have c4 := hF 4
  have c5 := hF 5
  have c81 := hF 81
  simp (disch := (first | assumption | omega | (simp only [List.length_append, bytesL_length, ofBytes_length, List.length_take, List.length_drop, List.length_cons, List.length_nil]; omega))) only [↓opE, ↓evP, stE, binE, ldE, ↓tgP, ↓reduceIte, clE, ncE, szE, hgE, intBin, shiftBin, strBin, unV, indexAddrV, indexV, lenV, partV, isAggT, sliceV, boundsV, bndV, asIntV, fieldAddrV, fieldV, putAt, nilCheckV, makeIfaceV, stripAgg, stripCell, decide_eq_true_eq, beqD, bneD, notD, beqS, if_true, if_false, ite_true, ite_false, Bool.true_eq_false, Bool.false_eq_true, Nat.reduceEqDiff, Nat.reduceBEq, Nat.reduceAdd, Nat.reduceSub, Nat.reduceMul, Nat.min_def, Nat.reducePow, Nat.reduceLeDiff, Nat.reduceLT, Int.reduceEq, Int.reduceNe, Int.reduceLT, Int.reduceLE, Int.reduceToNat, Int.reduceAdd, Int.reduceSub, Int.reduceMul, Int.reducePow, Int.reduceNeg, Option.map_some, Option.map_none, Option.bind_some, Option.getD_some, Option.getD_none, ofBytes_length, ofBytes_get, ofBytes_take, ofBytes_drop, Int.toNat_natCast, Int.natCast_nonneg, and_self, true_and, and_true, List.getElem?_cons_zero, List.getElem?_cons_succ, decide_true, decide_false, Bool.not_true, Bool.not_false, List.getElem_toArray, List.getElem?_toArray, List.getElem_cons_succ, List.getElem_cons_zero, List.toList_toArray, List.map_cons, List.map_nil, List.take_succ_cons, List.take_zero, List.drop_succ_cons, List.drop_zero, List.length_cons, List.length_nil, List.nil_append, List.cons_append, List.append_nil, Nat.le_refl, Nat.zero_add, Nat.mul_one, Nat.add_zero, Nat.zero_lt_one, List.length_singleton, IntKind.bits, reduceCtorEq, not_true_eq_false, not_false_eq_true, ne_eq, if_pos, if_neg, wI64, wI32, wU8, wU16, wU32, wU64, Int.emod_eq_of_lt, Int.fdiv_eq_ediv_of_nonneg, Int.tdiv_eq_ediv_of_nonneg, Int.tmod_eq_emod_of_nonneg, tyE, Try.underlying25, Try.underlying36, cvE, bdE, a0, a1, a2, a3, hb, hc, hl1, hl2, len_n, frz1] at c9 c11 c4 c5 c81
  clear hF
  obtain ⟨B, e9, lB, nB⟩ := turned_bytes hl1 hb b1 b2
  obtain ⟨D, e11, lD, nD⟩ := turned_bytes hl2 hc b1 b2
  rw [if_neg (ownN (by omega))] at c9 c11 c81
  replace c9 := c9.trans (congrArg (V.sl .none) e9)
  replace c81 := c81.trans (congrArg (V.sl .none) e9)
  replace c11 := c11.trans (congrArg (V.sl .none) e11)
  obtain ⟨x1, x2, x3, x4, x5, n1, e1, hv1, hk1⟩ := head_shape B
  have hh : ∀ st, FnS cx 8 [.sl .none (ofBytes B)] st (.tup [.agg [.int .u64 x1, .int .u64 x2, .bool x3, .int .i64 x4, .int .i64 x5], .int .i64 n1, .int .i64 e1]) st := fun st => hv1 ▸ tr ⟨ethHead_run .none B (by unfold maxLen; omega) st _ ⟨rfl, rfl⟩⟩
  obtain ⟨y1, y2, y3, y4, y5, e2, hv2, hk2⟩ := arp_shape D (by omega)
  have ha : ∀ st, FnS cx 13 [.sl .none (ofBytes D)] st (.tup [.agg [.int .i64 y1, .int .u64 y2, .int .u32 y3, .int .u64 y4, .int .u32 y5], .int .i64 e2]) st := fun st => hv2 ▸ tr (ethArp_long .none D (by unfold maxLen; omega) (by omega) rfl st)
  obtain ⟨q, hq, hq2⟩ := eth_q x1 x2 x3 x4 x5 d sr false 0 ty
  obtain ⟨r, hr, hr2⟩ := arp_q y1 y2 y3 y4 y5 op sha spa tha tpa
  have hq3 : e1 = 0 → q = false := fun h => by
    cases q with
    | false => rfl
    | true =>
      obtain ⟨rfl, rfl, rfl, rfl, rfl⟩ := hq2 rfl
      have h3 := hk1 h
      rw [hl1, List.take_of_length_le (by omega)] at h3
      exact absurd h3.symm nB
  have hr3 : e2 = 0 → r = false := fun h => by
    cases r with
    | false => rfl
    | true =>
      obtain ⟨rfl, rfl, rfl, rfl, rfl⟩ := hr2 rfl
      exact absurd (hk2 h).symm nD
  clear hv1 hv2 hk1 hk2 e9 e11 hq2 hr2
  have ex := And.intro @c9 (And.intro @c11 (And.intro @c4 (And.intro @c5 (And.intro @c81 (And.intro @hq @hr)))))
  repeat' (first
   | (with_reducible refine isO ?_); first
     | refine mvA (h := ?_)
     | refine asA (h := ?_)
     | refine quA (h := ?_)
     | refine wnA (h := ?_)
     | refine caA (hc := (hh _)) (h := ?_)
     | refine caA (hc := (ha _)) (h := ?_)
   | (with_reducible refine isG ?_); first
     | refine stA (h := ?_)
     | refine srA (h := ?_)
     | refine swA (h := ?_)
     | refine s1A (h := ?_)
     | refine s0A (h := ?_)
     | refine sgA (h1 := fun _ => ?_) (h0 := fun _ => ?_)
     | refine sbA (h1 := fun _ => ?_) (h0 := fun _ => ?_)
   | (with_reducible refine isP ?_); first
     | refine dqA (h := ?_)
     | refine dnA (i := 17) (l := []) (h := ?_)
     | refine dnA (i := 19) (l := []) (h := ?_)
   | (with_reducible refine isC ?_); first
     | refine ctA (h := ?_)
     | refine cfA (h := ?_)
     | refine cdA (h1 := fun _ => ?_) (h0 := fun _ => ?_)
     | refine cbA (h1 := fun _ => ?_) (h0 := fun _ => ?_)
   | (with_reducible refine isR ?_); first
     | refine Ev.drawn (by decide +kernel) (l := [0, 1, 2, 3, 4, 5, 6, 7, 8, 9, 10, 11, 12, 13, 14, 15, 16, 17, 18, 19]) (by decide +kernel) ?_
   | with_reducible refine Ev.seq ?_
   | with_reducible refine Ev.ops ?_
   | with_reducible refine NxE ?_
   | with_reducible refine BxN ?_
   | with_reducible refine BxX ?_
   | with_reducible refine NxX ?_
   | with_reducible refine NxR ?_
   | with_reducible refine BxR ?_
   | with_reducible refine NxG ?_
   | with_reducible refine BxG ?_
   | with_reducible refine GxR ?_
   | with_reducible refine GxN ?_
   | with_reducible refine GxX ?_
   | with_reducible refine Ev.goto ?_
   | with_reducible refine Ev.block ?_
   | with_reducible refine Ev.skip ?_
   | with_reducible refine Ev.exit ?_
   | with_reducible refine Ev.ret ?_
   | with_reducible refine Ev.label ?_
   | with_reducible refine EvOps.nil ?_
   | with_reducible refine EvPlan.nil ?_
   | (with_reducible refine BxO ?_ ?_; · decide)
   )
  all_goals refine lfA (rl := [.tmp 8]) rfl (hv := by
      simp only [packV, strip, stripAgg, stripCell, List.map_cons, List.map_nil]
      first | done | (clear c9 c11 c4 c5 c81 a0 a1 a2 a3 hh ha hq hr; first | rfl | (simp_all; done) | (exfalso; omega) | (trace_state; fail))) (hp := (show pureV (.bool true) = true from rfl))

set_option maxHeartbeats 4000000 in
theorem turned_tpp (d sr tag ty : Int) (hd : 0 ≤ d) (hs : 0 ≤ sr) (g1 : d ≤ 281474976710655) (g2 : sr ≤ 281474976710655) (g3 : 0 ≤ tag ∧ tag ≤ 65535) (g4 : 0 ≤ ty ∧ ty ≤ 65535) (g5 : ty ≠ 33024) (op sha spa tha tpa : Int) (h1 : 0 ≤ sha) (h2 : sha < 18446744073709551616) (h3 : 0 ≤ spa) (h4 : spa < 4294967296) (h5 : 0 ≤ tha) (h6 : tha < 18446744073709551616) (h7 : 0 ≤ tpa) (h8 : tpa < 4294967296) (k1 : sha ≤ 281474976710655) (k2 : tha ≤ 281474976710655) (k3 : 0 ≤ op) (k4 : op ≤ 65535) (at_ by_ : Int) (b1 : 0 < by_) (b2 : by_ < 256) (s1 : 0 ≤ Int.tmod at_ 18) (s2 : 0 ≤ Int.tmod at_ 28) (b0 c0 : UInt8) (hb : (encL d sr true tag ty)[((Int.tmod at_ 18)).toNat]? = some b0) (hc : (encA op sha spa tha tpa)[((Int.tmod at_ 28)).toNat]? = some c0) (st : St) :
    FnS cx 7 [.agg [.int .u64 d, .int .u64 sr, .bool true, .int .i64 tag, .int .i64 ty], .agg [.int .i64 op, .int .u64 sha, .int .u32 spa, .int .u64 tha, .int .u32 tpa], .int .i64 at_, .int .u8 by_] st (.bool true) st := by
  have q1 : -18 < Int.tmod at_ 18 := by have := Int.lt_tmod_of_pos at_ (b := 18) (by omega); omega
  have q2 : Int.tmod at_ 18 < 18 := Int.tmod_lt_of_pos at_ (by omega)
  have q3 : -28 < Int.tmod at_ 28 := by have := Int.lt_tmod_of_pos at_ (b := 28) (by omega); omega
  have q4 : Int.tmod at_ 28 < 28 := Int.tmod_lt_of_pos at_ (by omega)
  have hl1 := encL_length d sr true tag ty
  have hl2 := encA_length op sha spa tha tpa
  simp only [if_true, Bool.false_eq_true, if_false] at hl1
  refine goP Try.func7 rfl rfl rfl rfl ?_ ?_
  · rfl
  intro t ht
  have a0 : tget t 0 = .agg [.int .u64 d, .int .u64 sr, .bool true, .int .i64 tag, .int .i64 ty] := ht 0 _ rfl
  have a1 : tget t 1 = .agg [.int .i64 op, .int .u64 sha, .int .u32 spa, .int .u64 tha, .int .u32 tpa] := ht 1 _ rfl
  have a2 : tget t 2 = .int .i64 at_ := ht 2 _ rfl
  have a3 : tget t 3 = .int .u8 by_ := ht 3 _ rfl
  clear ht
  have ex := And.intro @a0 (And.intro @a1 (And.intro @a2 (And.intro @a3 (And.intro @hb (And.intro @hc (And.intro @hl1 (And.intro @hl2 @len_n)))))))
  repeat' (first
   | (with_reducible refine isO ?_); first
     | refine mvA (h := ?_)
     | refine asA (h := ?_)
     | refine quA (h := ?_)
     | refine wnA (h := ?_)
     | refine caA (hc := (encT _ _ _ _ _ hd hs g1 g2 g3 g4 g5)) (h := ?_)
     | refine caA (hc := (arp21 _ _ _ _ _ _ h1 h2 h3 h4 h5 h6 h7 h8 k1 k2 k3 k4)) (h := ?_)
     | refine caA (hc := livesS _) (h := ?_)
   | (with_reducible refine isG ?_); first
     | refine stA (h := ?_)
     | refine srA (h := ?_)
     | refine swA (h := ?_)
     | refine s1A (h := ?_)
     | refine s0A (h := ?_)
     | refine sgA (h1 := fun _ => ?_) (h0 := fun _ => ?_)
     | refine sbA (h1 := fun _ => ?_) (h0 := fun _ => ?_)
   | (with_reducible refine isP ?_); first
     | refine dqA (h := ?_)
     | refine dnA (i := 17) (l := []) (h := ?_)
     | refine dnA (i := 19) (l := []) (h := ?_)
   | (with_reducible refine isC ?_); first
     | refine ctA (h := ?_)
     | refine cfA (h := ?_)
     | refine cdA (h1 := fun _ => ?_) (h0 := fun _ => ?_)
     | refine cbA (h1 := fun _ => ?_) (h0 := fun _ => ?_)
   | (with_reducible refine isR ?_); first
     | refine Ev.drawn (by decide +kernel) (l := [0, 1, 2, 3, 4, 5, 6, 7, 8, 9, 10, 11, 12, 13, 14, 15, 16, 17, 18, 19]) (by decide +kernel) ?_
   | with_reducible refine Ev.seq ?_
   | with_reducible refine Ev.ops ?_
   | with_reducible refine NxE ?_
   | with_reducible refine BxN ?_
   | with_reducible refine BxX ?_
   | with_reducible refine NxX ?_
   | with_reducible refine NxR ?_
   | with_reducible refine BxR ?_
   | with_reducible refine NxG ?_
   | with_reducible refine BxG ?_
   | with_reducible refine GxR ?_
   | with_reducible refine GxN ?_
   | with_reducible refine GxX ?_
   | with_reducible refine Ev.goto ?_
   | with_reducible refine Ev.block ?_
   | with_reducible refine Ev.skip ?_
   | with_reducible refine Ev.exit ?_
   | with_reducible refine Ev.ret ?_
   | with_reducible refine Ev.label ?_
   | with_reducible refine EvOps.nil ?_
   | with_reducible refine EvPlan.nil ?_
   | (with_reducible refine BxO ?_ ?_; · decide)
   )
  refine freezeI fun F hF => ?_
  have c9 := hF 9
  have c11 := hF 11
  have c4 := hF 4
  have c5 := hF 5
  have c81 := hF 81
  simp (disch := (first | assumption | omega | (simp only [List.length_append, bytesL_length, ofBytes_length, List.length_take, List.length_drop, List.length_cons, List.length_nil]; omega))) only [↓opE, ↓evP, stE, binE, ldE, ↓tgP, ↓reduceIte, clE, ncE, szE, hgE, intBin, shiftBin, strBin, unV, indexAddrV, indexV, lenV, partV, isAggT, sliceV, boundsV, bndV, asIntV, fieldAddrV, fieldV, putAt, nilCheckV, makeIfaceV, stripAgg, stripCell, decide_eq_true_eq, beqD, bneD, notD, beqS, if_true, if_false, ite_true, ite_false, Bool.true_eq_false, Bool.false_eq_true, Nat.reduceEqDiff, Nat.reduceBEq, Nat.reduceAdd, Nat.reduceSub, Nat.reduceMul, Nat.min_def, Nat.reducePow, Nat.reduceLeDiff, Nat.reduceLT, Int.reduceEq, Int.reduceNe, Int.reduceLT, Int.reduceLE, Int.reduceToNat, Int.reduceAdd, Int.reduceSub, Int.reduceMul, Int.reducePow, Int.reduceNeg, Option.map_some, Option.map_none, Option.bind_some, Option.getD_some, Option.getD_none, ofBytes_length, ofBytes_get, ofBytes_take, ofBytes_drop, Int.toNat_natCast, Int.natCast_nonneg, and_self, true_and, and_true, List.getElem?_cons_zero, List.getElem?_cons_succ, decide_true, decide_false, Bool.not_true, Bool.not_false, List.getElem_toArray, List.getElem?_toArray, List.getElem_cons_succ, List.getElem_cons_zero, List.toList_toArray, List.map_cons, List.map_nil, List.take_succ_cons, List.take_zero, List.drop_succ_cons, List.drop_zero, List.length_cons, List.length_nil, List.nil_append, List.cons_append, List.append_nil, Nat.le_refl, Nat.zero_add, Nat.mul_one, Nat.add_zero, Nat.zero_lt_one, List.length_singleton, IntKind.bits, reduceCtorEq, not_true_eq_false, not_false_eq_true, ne_eq, if_pos, if_neg, wI64, wI32, wU8, wU16, wU32, wU64, Int.emod_eq_of_lt, Int.fdiv_eq_ediv_of_nonneg, Int.tdiv_eq_ediv_of_nonneg, Int.tmod_eq_emod_of_nonneg, tyE, Try.underlying25, Try.underlying36, cvE, bdE, a0, a1, a2, a3, hb, hc, hl1, hl2, len_n, frz1] at c9 c11 c4 c5 c81
  clear hF
  obtain ⟨B, e9, lB, nB⟩ := turned_bytes hl1 hb b1 b2
  obtain ⟨D, e11, lD, nD⟩ := turned_bytes hl2 hc b1 b2
  rw [if_neg (ownN (by omega))] at c9 c11 c81
  replace c9 := c9.trans (congrArg (V.sl .none) e9)
  replace c81 := c81.trans (congrArg (V.sl .none) e9)
  replace c11 := c11.trans (congrArg (V.sl .none) e11)
  obtain ⟨x1, x2, x3, x4, x5, n1, e1, hv1, hk1⟩ := head_shape B
  have hh : ∀ st, FnS cx 8 [.sl .none (ofBytes B)] st (.tup [.agg [.int .u64 x1, .int .u64 x2, .bool x3, .int .i64 x4, .int .i64 x5], .int .i64 n1, .int .i64 e1]) st := fun st => hv1 ▸ tr ⟨ethHead_run .none B (by unfold maxLen; omega) st _ ⟨rfl, rfl⟩⟩
  obtain ⟨y1, y2, y3, y4, y5, e2, hv2, hk2⟩ := arp_shape D (by omega)
  have ha : ∀ st, FnS cx 13 [.sl .none (ofBytes D)] st (.tup [.agg [.int .i64 y1, .int .u64 y2, .int .u32 y3, .int .u64 y4, .int .u32 y5], .int .i64 e2]) st := fun st => hv2 ▸ tr (ethArp_long .none D (by unfold maxLen; omega) (by omega) rfl st)
  obtain ⟨q, hq, hq2⟩ := eth_q x1 x2 x3 x4 x5 d sr true tag ty
  obtain ⟨r, hr, hr2⟩ := arp_q y1 y2 y3 y4 y5 op sha spa tha tpa
  have hq3 : e1 = 0 → q = false := fun h => by
    cases q with
    | false => rfl
    | true =>
      obtain ⟨rfl, rfl, rfl, rfl, rfl⟩ := hq2 rfl
      have h3 := hk1 h
      rw [hl1, List.take_of_length_le (by omega)] at h3
      exact absurd h3.symm nB
  have hr3 : e2 = 0 → r = false := fun h => by
    cases r with
    | false => rfl
    | true =>
      obtain ⟨rfl, rfl, rfl, rfl, rfl⟩ := hr2 rfl
      exact absurd (hk2 h).symm nD
  clear hv1 hv2 hk1 hk2 e9 e11 hq2 hr2
  have ex := And.intro @c9 (And.intro @c11 (And.intro @c4 (And.intro @c5 (And.intro @c81 (And.intro @hq @hr)))))
  repeat' (first
   | (with_reducible refine isO ?_); first
     | refine mvA (h := ?_)
     | refine asA (h := ?_)
     | refine quA (h := ?_)
     | refine wnA (h := ?_)
     | refine caA (hc := (hh _)) (h := ?_)
     | refine caA (hc := (ha _)) (h := ?_)
   | (with_reducible refine isG ?_); first
     | refine stA (h := ?_)
     | refine srA (h := ?_)
     | refine swA (h := ?_)
     | refine s1A (h := ?_)
     | refine s0A (h := ?_)
     | refine sgA (h1 := fun _ => ?_) (h0 := fun _ => ?_)
     | refine sbA (h1 := fun _ => ?_) (h0 := fun _ => ?_)
   | (with_reducible refine isP ?_); first
     | refine dqA (h := ?_)
     | refine dnA (i := 17) (l := []) (h := ?_)
     | refine dnA (i := 19) (l := []) (h := ?_)
   | (with_reducible refine isC ?_); first
     | refine ctA (h := ?_)
     | refine cfA (h := ?_)
     | refine cdA (h1 := fun _ => ?_) (h0 := fun _ => ?_)
     | refine cbA (h1 := fun _ => ?_) (h0 := fun _ => ?_)
   | (with_reducible refine isR ?_); first
     | refine Ev.drawn (by decide +kernel) (l := [0, 1, 2, 3, 4, 5, 6, 7, 8, 9, 10, 11, 12, 13, 14, 15, 16, 17, 18, 19]) (by decide +kernel) ?_
   | with_reducible refine Ev.seq ?_
   | with_reducible refine Ev.ops ?_
   | with_reducible refine NxE ?_
   | with_reducible refine BxN ?_
   | with_reducible refine BxX ?_
   | with_reducible refine NxX ?_
   | with_reducible refine NxR ?_
   | with_reducible refine BxR ?_
   | with_reducible refine NxG ?_
   | with_reducible refine BxG ?_
   | with_reducible refine GxR ?_
   | with_reducible refine GxN ?_
   | with_reducible refine GxX ?_
   | with_reducible refine Ev.goto ?_
   | with_reducible refine Ev.block ?_
   | with_reducible refine Ev.skip ?_
   | with_reducible refine Ev.exit ?_
   | with_reducible refine Ev.ret ?_
   | with_reducible refine Ev.label ?_
   | with_reducible refine EvOps.nil ?_
   | with_reducible refine EvPlan.nil ?_
   | (with_reducible refine BxO ?_ ?_; · decide)
   )
  all_goals refine lfA (rl := [.tmp 8]) rfl (hv := by
      simp only [packV, strip, stripAgg, stripCell, List.map_cons, List.map_nil]
      first | done | (clear c9 c11 c4 c5 c81 a0 a1 a2 a3 hh ha hq hr; first | rfl | (simp_all; done) | (exfalso; omega) | (trace_state; fail))) (hp := (show pureV (.bool true) = true from rfl))

set_option maxHeartbeats 4000000 in
theorem turned_tpn (d sr tag ty : Int) (hd : 0 ≤ d) (hs : 0 ≤ sr) (g1 : d ≤ 281474976710655) (g2 : sr ≤ 281474976710655) (g3 : 0 ≤ tag ∧ tag ≤ 65535) (g4 : 0 ≤ ty ∧ ty ≤ 65535) (g5 : ty ≠ 33024) (op sha spa tha tpa : Int) (h1 : 0 ≤ sha) (h2 : sha < 18446744073709551616) (h3 : 0 ≤ spa) (h4 : spa < 4294967296) (h5 : 0 ≤ tha) (h6 : tha < 18446744073709551616) (h7 : 0 ≤ tpa) (h8 : tpa < 4294967296) (k1 : sha ≤ 281474976710655) (k2 : tha ≤ 281474976710655) (k3 : 0 ≤ op) (k4 : op ≤ 65535) (at_ by_ : Int) (b1 : 0 < by_) (b2 : by_ < 256) (s1 : 0 ≤ Int.tmod at_ 18) (s2 : Int.tmod at_ 28 < 0) (b0 c0 : UInt8) (hb : (encL d sr true tag ty)[((Int.tmod at_ 18)).toNat]? = some b0) (hc : (encA op sha spa tha tpa)[((Int.tmod at_ 28 + 28)).toNat]? = some c0) (st : St) :
    FnS cx 7 [.agg [.int .u64 d, .int .u64 sr, .bool true, .int .i64 tag, .int .i64 ty], .agg [.int .i64 op, .int .u64 sha, .int .u32 spa, .int .u64 tha, .int .u32 tpa], .int .i64 at_, .int .u8 by_] st (.bool true) st := by
  have q1 : -18 < Int.tmod at_ 18 := by have := Int.lt_tmod_of_pos at_ (b := 18) (by omega); omega
  have q2 : Int.tmod at_ 18 < 18 := Int.tmod_lt_of_pos at_ (by omega)
  have q3 : -28 < Int.tmod at_ 28 := by have := Int.lt_tmod_of_pos at_ (b := 28) (by omega); omega
  have q4 : Int.tmod at_ 28 < 28 := Int.tmod_lt_of_pos at_ (by omega)
  have hl1 := encL_length d sr true tag ty
  have hl2 := encA_length op sha spa tha tpa
  simp only [if_true, Bool.false_eq_true, if_false] at hl1
  refine goP Try.func7 rfl rfl rfl rfl ?_ ?_
  · rfl
  intro t ht
  have a0 : tget t 0 = .agg [.int .u64 d, .int .u64 sr, .bool true, .int .i64 tag, .int .i64 ty] := ht 0 _ rfl
  have a1 : tget t 1 = .agg [.int .i64 op, .int .u64 sha, .int .u32 spa, .int .u64 tha, .int .u32 tpa] := ht 1 _ rfl
  have a2 : tget t 2 = .int .i64 at_ := ht 2 _ rfl
  have a3 : tget t 3 = .int .u8 by_ := ht 3 _ rfl
  clear ht
  have ex := And.intro @a0 (And.intro @a1 (And.intro @a2 (And.intro @a3 (And.intro @hb (And.intro @hc (And.intro @hl1 (And.intro @hl2 @len_n)))))))
  repeat' (first
   | (with_reducible refine isO ?_); first
     | refine mvA (h := ?_)
     | refine asA (h := ?_)
     | refine quA (h := ?_)
     | refine wnA (h := ?_)
     | refine caA (hc := (encT _ _ _ _ _ hd hs g1 g2 g3 g4 g5)) (h := ?_)
     | refine caA (hc := (arp21 _ _ _ _ _ _ h1 h2 h3 h4 h5 h6 h7 h8 k1 k2 k3 k4)) (h := ?_)
     | refine caA (hc := livesS _) (h := ?_)
   | (with_reducible refine isG ?_); first
     | refine stA (h := ?_)
     | refine srA (h := ?_)
     | refine swA (h := ?_)
     | refine s1A (h := ?_)
     | refine s0A (h := ?_)
     | refine sgA (h1 := fun _ => ?_) (h0 := fun _ => ?_)
     | refine sbA (h1 := fun _ => ?_) (h0 := fun _ => ?_)
   | (with_reducible refine isP ?_); first
     | refine dqA (h := ?_)
     | refine dnA (i := 17) (l := []) (h := ?_)
     | refine dnA (i := 19) (l := []) (h := ?_)
   | (with_reducible refine isC ?_); first
     | refine ctA (h := ?_)
     | refine cfA (h := ?_)
     | refine cdA (h1 := fun _ => ?_) (h0 := fun _ => ?_)
     | refine cbA (h1 := fun _ => ?_) (h0 := fun _ => ?_)
   | (with_reducible refine isR ?_); first
     | refine Ev.drawn (by decide +kernel) (l := [0, 1, 2, 3, 4, 5, 6, 7, 8, 9, 10, 11, 12, 13, 14, 15, 16, 17, 18, 19]) (by decide +kernel) ?_
   | with_reducible refine Ev.seq ?_
   | with_reducible refine Ev.ops ?_
   | with_reducible refine NxE ?_
   | with_reducible refine BxN ?_
   | with_reducible refine BxX ?_
   | with_reducible refine NxX ?_
   | with_reducible refine NxR ?_
   | with_reducible refine BxR ?_
   | with_reducible refine NxG ?_
   | with_reducible refine BxG ?_
   | with_reducible refine GxR ?_
   | with_reducible refine GxN ?_
   | with_reducible refine GxX ?_
   | with_reducible refine Ev.goto ?_
   | with_reducible refine Ev.block ?_
   | with_reducible refine Ev.skip ?_
   | with_reducible refine Ev.exit ?_
   | with_reducible refine Ev.ret ?_
   | with_reducible refine Ev.label ?_
   | with_reducible refine EvOps.nil ?_
   | with_reducible refine EvPlan.nil ?_
   | (with_reducible refine BxO ?_ ?_; · decide)
   )
  refine freezeI fun F hF => ?_
  have c9 := hF 9
  have c11 := hF 11
  have c4 := hF 4
  have c5 := hF 5
  have c81 := hF 81
  simp (disch := (first | assumption | omega | (simp only [List.length_append, bytesL_length, ofBytes_length, List.length_take, List.length_drop, List.length_cons, List.length_nil]; omega))) only [↓opE, ↓evP, stE, binE, ldE, ↓tgP, ↓reduceIte, clE, ncE, szE, hgE, intBin, shiftBin, strBin, unV, indexAddrV, indexV, lenV, partV, isAggT, sliceV, boundsV, bndV, asIntV, fieldAddrV, fieldV, putAt, nilCheckV, makeIfaceV, stripAgg, stripCell, decide_eq_true_eq, beqD, bneD, notD, beqS, if_true, if_false, ite_true, ite_false, Bool.true_eq_false, Bool.false_eq_true, Nat.reduceEqDiff, Nat.reduceBEq, Nat.reduceAdd, Nat.reduceSub, Nat.reduceMul, Nat.min_def, Nat.reducePow, Nat.reduceLeDiff, Nat.reduceLT, Int.reduceEq, Int.reduceNe, Int.reduceLT, Int.reduceLE, Int.reduceToNat, Int.reduceAdd, Int.reduceSub, Int.reduceMul, Int.reducePow, Int.reduceNeg, Option.map_some, Option.map_none, Option.bind_some, Option.getD_some, Option.getD_none, ofBytes_length, ofBytes_get, ofBytes_take, ofBytes_drop, Int.toNat_natCast, Int.natCast_nonneg, and_self, true_and, and_true, List.getElem?_cons_zero, List.getElem?_cons_succ, decide_true, decide_false, Bool.not_true, Bool.not_false, List.getElem_toArray, List.getElem?_toArray, List.getElem_cons_succ, List.getElem_cons_zero, List.toList_toArray, List.map_cons, List.map_nil, List.take_succ_cons, List.take_zero, List.drop_succ_cons, List.drop_zero, List.length_cons, List.length_nil, List.nil_append, List.cons_append, List.append_nil, Nat.le_refl, Nat.zero_add, Nat.mul_one, Nat.add_zero, Nat.zero_lt_one, List.length_singleton, IntKind.bits, reduceCtorEq, not_true_eq_false, not_false_eq_true, ne_eq, if_pos, if_neg, wI64, wI32, wU8, wU16, wU32, wU64, Int.emod_eq_of_lt, Int.fdiv_eq_ediv_of_nonneg, Int.tdiv_eq_ediv_of_nonneg, Int.tmod_eq_emod_of_nonneg, tyE, Try.underlying25, Try.underlying36, cvE, bdE, a0, a1, a2, a3, hb, hc, hl1, hl2, len_n, frz1] at c9 c11 c4 c5 c81
  clear hF
  obtain ⟨B, e9, lB, nB⟩ := turned_bytes hl1 hb b1 b2
  obtain ⟨D, e11, lD, nD⟩ := turned_bytes hl2 hc b1 b2
  rw [if_neg (ownN (by omega))] at c9 c11 c81
  replace c9 := c9.trans (congrArg (V.sl .none) e9)
  replace c81 := c81.trans (congrArg (V.sl .none) e9)
  replace c11 := c11.trans (congrArg (V.sl .none) e11)
  obtain ⟨x1, x2, x3, x4, x5, n1, e1, hv1, hk1⟩ := head_shape B
  have hh : ∀ st, FnS cx 8 [.sl .none (ofBytes B)] st (.tup [.agg [.int .u64 x1, .int .u64 x2, .bool x3, .int .i64 x4, .int .i64 x5], .int .i64 n1, .int .i64 e1]) st := fun st => hv1 ▸ tr ⟨ethHead_run .none B (by unfold maxLen; omega) st _ ⟨rfl, rfl⟩⟩
  obtain ⟨y1, y2, y3, y4, y5, e2, hv2, hk2⟩ := arp_shape D (by omega)
  have ha : ∀ st, FnS cx 13 [.sl .none (ofBytes D)] st (.tup [.agg [.int .i64 y1, .int .u64 y2, .int .u32 y3, .int .u64 y4, .int .u32 y5], .int .i64 e2]) st := fun st => hv2 ▸ tr (ethArp_long .none D (by unfold maxLen; omega) (by omega) rfl st)
  obtain ⟨q, hq, hq2⟩ := eth_q x1 x2 x3 x4 x5 d sr true tag ty
  obtain ⟨r, hr, hr2⟩ := arp_q y1 y2 y3 y4 y5 op sha spa tha tpa
  have hq3 : e1 = 0 → q = false := fun h => by
    cases q with
    | false => rfl
    | true =>
      obtain ⟨rfl, rfl, rfl, rfl, rfl⟩ := hq2 rfl
      have h3 := hk1 h
      rw [hl1, List.take_of_length_le (by omega)] at h3
      exact absurd h3.symm nB
  have hr3 : e2 = 0 → r = false := fun h => by
    cases r with
    | false => rfl
    | true =>
      obtain ⟨rfl, rfl, rfl, rfl, rfl⟩ := hr2 rfl
      exact absurd (hk2 h).symm nD
  clear hv1 hv2 hk1 hk2 e9 e11 hq2 hr2
  have ex := And.intro @c9 (And.intro @c11 (And.intro @c4 (And.intro @c5 (And.intro @c81 (And.intro @hq @hr)))))
  repeat' (first
   | (with_reducible refine isO ?_); first
     | refine mvA (h := ?_)
     | refine asA (h := ?_)
     | refine quA (h := ?_)
     | refine wnA (h := ?_)
     | refine caA (hc := (hh _)) (h := ?_)
     | refine caA (hc := (ha _)) (h := ?_)
   | (with_reducible refine isG ?_); first
     | refine stA (h := ?_)
     | refine srA (h := ?_)
     | refine swA (h := ?_)
     | refine s1A (h := ?_)
     | refine s0A (h := ?_)
     | refine sgA (h1 := fun _ => ?_) (h0 := fun _ => ?_)
     | refine sbA (h1 := fun _ => ?_) (h0 := fun _ => ?_)
   | (with_reducible refine isP ?_); first
     | refine dqA (h := ?_)
     | refine dnA (i := 17) (l := []) (h := ?_)
     | refine dnA (i := 19) (l := []) (h := ?_)
   | (with_reducible refine isC ?_); first
     | refine ctA (h := ?_)
     | refine cfA (h := ?_)
     | refine cdA (h1 := fun _ => ?_) (h0 := fun _ => ?_)
     | refine cbA (h1 := fun _ => ?_) (h0 := fun _ => ?_)
   | (with_reducible refine isR ?_); first
     | refine Ev.drawn (by decide +kernel) (l := [0, 1, 2, 3, 4, 5, 6, 7, 8, 9, 10, 11, 12, 13, 14, 15, 16, 17, 18, 19]) (by decide +kernel) ?_
   | with_reducible refine Ev.seq ?_
   | with_reducible refine Ev.ops ?_
   | with_reducible refine NxE ?_
   | with_reducible refine BxN ?_
   | with_reducible refine BxX ?_
   | with_reducible refine NxX ?_
   | with_reducible refine NxR ?_
   | with_reducible refine BxR ?_
   | with_reducible refine NxG ?_
   | with_reducible refine BxG ?_
   | with_reducible refine GxR ?_
   | with_reducible refine GxN ?_
   | with_reducible refine GxX ?_
   | with_reducible refine Ev.goto ?_
   | with_reducible refine Ev.block ?_
   | with_reducible refine Ev.skip ?_
   | with_reducible refine Ev.exit ?_
   | with_reducible refine Ev.ret ?_
   | with_reducible refine Ev.label ?_
   | with_reducible refine EvOps.nil ?_
   | with_reducible refine EvPlan.nil ?_
   | (with_reducible refine BxO ?_ ?_; · decide)
   )
  all_goals refine lfA (rl := [.tmp 8]) rfl (hv := by
      simp only [packV, strip, stripAgg, stripCell, List.map_cons, List.map_nil]
      first | done | (clear c9 c11 c4 c5 c81 a0 a1 a2 a3 hh ha hq hr; first | rfl | (simp_all; done) | (exfalso; omega) | (trace_state; fail))) (hp := (show pureV (.bool true) = true from rfl))

set_option maxHeartbeats 4000000 in
theorem turned_tnp (d sr tag ty : Int) (hd : 0 ≤ d) (hs : 0 ≤ sr) (g1 : d ≤ 281474976710655) (g2 : sr ≤ 281474976710655) (g3 : 0 ≤ tag ∧ tag ≤ 65535) (g4 : 0 ≤ ty ∧ ty ≤ 65535) (g5 : ty ≠ 33024) (op sha spa tha tpa : Int) (h1 : 0 ≤ sha) (h2 : sha < 18446744073709551616) (h3 : 0 ≤ spa) (h4 : spa < 4294967296) (h5 : 0 ≤ tha) (h6 : tha < 18446744073709551616) (h7 : 0 ≤ tpa) (h8 : tpa < 4294967296) (k1 : sha ≤ 281474976710655) (k2 : tha ≤ 281474976710655) (k3 : 0 ≤ op) (k4 : op ≤ 65535) (at_ by_ : Int) (b1 : 0 < by_) (b2 : by_ < 256) (s1 : Int.tmod at_ 18 < 0) (s2 : 0 ≤ Int.tmod at_ 28) (b0 c0 : UInt8) (hb : (encL d sr true tag ty)[((Int.tmod at_ 18 + 18)).toNat]? = some b0) (hc : (encA op sha spa tha tpa)[((Int.tmod at_ 28)).toNat]? = some c0) (st : St) :
    FnS cx 7 [.agg [.int .u64 d, .int .u64 sr, .bool true, .int .i64 tag, .int .i64 ty], .agg [.int .i64 op, .int .u64 sha, .int .u32 spa, .int .u64 tha, .int .u32 tpa], .int .i64 at_, .int .u8 by_] st (.bool true) st := by
  have q1 : -18 < Int.tmod at_ 18 := by have := Int.lt_tmod_of_pos at_ (b := 18) (by omega); omega
  have q2 : Int.tmod at_ 18 < 18 := Int.tmod_lt_of_pos at_ (by omega)
  have q3 : -28 < Int.tmod at_ 28 := by have := Int.lt_tmod_of_pos at_ (b := 28) (by omega); omega
  have q4 : Int.tmod at_ 28 < 28 := Int.tmod_lt_of_pos at_ (by omega)
  have hl1 := encL_length d sr true tag ty
  have hl2 := encA_length op sha spa tha tpa
  simp only [if_true, Bool.false_eq_true, if_false] at hl1
  refine goP Try.func7 rfl rfl rfl rfl ?_ ?_
  · rfl
  intro t ht
  have a0 : tget t 0 = .agg [.int .u64 d, .int .u64 sr, .bool true, .int .i64 tag, .int .i64 ty] := ht 0 _ rfl
  have a1 : tget t 1 = .agg [.int .i64 op, .int .u64 sha, .int .u32 spa, .int .u64 tha, .int .u32 tpa] := ht 1 _ rfl
  have a2 : tget t 2 = .int .i64 at_ := ht 2 _ rfl
  have a3 : tget t 3 = .int .u8 by_ := ht 3 _ rfl
  clear ht
  have ex := And.intro @a0 (And.intro @a1 (And.intro @a2 (And.intro @a3 (And.intro @hb (And.intro @hc (And.intro @hl1 (And.intro @hl2 @len_n)))))))
  repeat' (first
   | (with_reducible refine isO ?_); first
     | refine mvA (h := ?_)
     | refine asA (h := ?_)
     | refine quA (h := ?_)
     | refine wnA (h := ?_)
     | refine caA (hc := (encT _ _ _ _ _ hd hs g1 g2 g3 g4 g5)) (h := ?_)
     | refine caA (hc := (arp21 _ _ _ _ _ _ h1 h2 h3 h4 h5 h6 h7 h8 k1 k2 k3 k4)) (h := ?_)
     | refine caA (hc := livesS _) (h := ?_)
   | (with_reducible refine isG ?_); first
     | refine stA (h := ?_)
     | refine srA (h := ?_)
     | refine swA (h := ?_)
     | refine s1A (h := ?_)
     | refine s0A (h := ?_)
     | refine sgA (h1 := fun _ => ?_) (h0 := fun _ => ?_)
     | refine sbA (h1 := fun _ => ?_) (h0 := fun _ => ?_)
   | (with_reducible refine isP ?_); first
     | refine dqA (h := ?_)
     | refine dnA (i := 17) (l := []) (h := ?_)
     | refine dnA (i := 19) (l := []) (h := ?_)
   | (with_reducible refine isC ?_); first
     | refine ctA (h := ?_)
     | refine cfA (h := ?_)
     | refine cdA (h1 := fun _ => ?_) (h0 := fun _ => ?_)
     | refine cbA (h1 := fun _ => ?_) (h0 := fun _ => ?_)
   | (with_reducible refine isR ?_); first
     | refine Ev.drawn (by decide +kernel) (l := [0, 1, 2, 3, 4, 5, 6, 7, 8, 9, 10, 11, 12, 13, 14, 15, 16, 17, 18, 19]) (by decide +kernel) ?_
   | with_reducible refine Ev.seq ?_
   | with_reducible refine Ev.ops ?_
   | with_reducible refine NxE ?_
   | with_reducible refine BxN ?_
   | with_reducible refine BxX ?_
   | with_reducible refine NxX ?_
   | with_reducible refine NxR ?_
   | with_reducible refine BxR ?_
   | with_reducible refine NxG ?_
   | with_reducible refine BxG ?_
   | with_reducible refine GxR ?_
   | with_reducible refine GxN ?_
   | with_reducible refine GxX ?_
   | with_reducible refine Ev.goto ?_
   | with_reducible refine Ev.block ?_
   | with_reducible refine Ev.skip ?_
   | with_reducible refine Ev.exit ?_
   | with_reducible refine Ev.ret ?_
   | with_reducible refine Ev.label ?_
   | with_reducible refine EvOps.nil ?_
   | with_reducible refine EvPlan.nil ?_
   | (with_reducible refine BxO ?_ ?_; · decide)
   )
  refine freezeI fun F hF => ?_
  have c9 := hF 9
  have c11 := hF 11
  have c4 := hF 4
  have c5 := hF 5
  have c81 := hF 81
  simp (disch := (first | assumption | omega | (simp only [List.length_append, bytesL_length, ofBytes_length, List.length_take, List.length_drop, List.length_cons, List.length_nil]; omega))) only [↓opE, ↓evP, stE, binE, ldE, ↓tgP, ↓reduceIte, clE, ncE, szE, hgE, intBin, shiftBin, strBin, unV, indexAddrV, indexV, lenV, partV, isAggT, sliceV, boundsV, bndV, asIntV, fieldAddrV, fieldV, putAt, nilCheckV, makeIfaceV, stripAgg, stripCell, decide_eq_true_eq, beqD, bneD, notD, beqS, if_true, if_false, ite_true, ite_false, Bool.true_eq_false, Bool.false_eq_true, Nat.reduceEqDiff, Nat.reduceBEq, Nat.reduceAdd, Nat.reduceSub, Nat.reduceMul, Nat.min_def, Nat.reducePow, Nat.reduceLeDiff, Nat.reduceLT, Int.reduceEq, Int.reduceNe, Int.reduceLT, Int.reduceLE, Int.reduceToNat, Int.reduceAdd, Int.reduceSub, Int.reduceMul, Int.reducePow, Int.reduceNeg, Option.map_some, Option.map_none, Option.bind_some, Option.getD_some, Option.getD_none, ofBytes_length, ofBytes_get, ofBytes_take, ofBytes_drop, Int.toNat_natCast, Int.natCast_nonneg, and_self, true_and, and_true, List.getElem?_cons_zero, List.getElem?_cons_succ, decide_true, decide_false, Bool.not_true, Bool.not_false, List.getElem_toArray, List.getElem?_toArray, List.getElem_cons_succ, List.getElem_cons_zero, List.toList_toArray, List.map_cons, List.map_nil, List.take_succ_cons, List.take_zero, List.drop_succ_cons, List.drop_zero, List.length_cons, List.length_nil, List.nil_append, List.cons_append, List.append_nil, Nat.le_refl, Nat.zero_add, Nat.mul_one, Nat.add_zero, Nat.zero_lt_one, List.length_singleton, IntKind.bits, reduceCtorEq, not_true_eq_false, not_false_eq_true, ne_eq, if_pos, if_neg, wI64, wI32, wU8, wU16, wU32, wU64, Int.emod_eq_of_lt, Int.fdiv_eq_ediv_of_nonneg, Int.tdiv_eq_ediv_of_nonneg, Int.tmod_eq_emod_of_nonneg, tyE, Try.underlying25, Try.underlying36, cvE, bdE, a0, a1, a2, a3, hb, hc, hl1, hl2, len_n, frz1] at c9 c11 c4 c5 c81
  clear hF
  obtain ⟨B, e9, lB, nB⟩ := turned_bytes hl1 hb b1 b2
  obtain ⟨D, e11, lD, nD⟩ := turned_bytes hl2 hc b1 b2
  rw [if_neg (ownN (by omega))] at c9 c11 c81
  replace c9 := c9.trans (congrArg (V.sl .none) e9)
  replace c81 := c81.trans (congrArg (V.sl .none) e9)
  replace c11 := c11.trans (congrArg (V.sl .none) e11)
  obtain ⟨x1, x2, x3, x4, x5, n1, e1, hv1, hk1⟩ := head_shape B
  have hh : ∀ st, FnS cx 8 [.sl .none (ofBytes B)] st (.tup [.agg [.int .u64 x1, .int .u64 x2, .bool x3, .int .i64 x4, .int .i64 x5], .int .i64 n1, .int .i64 e1]) st := fun st => hv1 ▸ tr ⟨ethHead_run .none B (by unfold maxLen; omega) st _ ⟨rfl, rfl⟩⟩
  obtain ⟨y1, y2, y3, y4, y5, e2, hv2, hk2⟩ := arp_shape D (by omega)
  have ha : ∀ st, FnS cx 13 [.sl .none (ofBytes D)] st (.tup [.agg [.int .i64 y1, .int .u64 y2, .int .u32 y3, .int .u64 y4, .int .u32 y5], .int .i64 e2]) st := fun st => hv2 ▸ tr (ethArp_long .none D (by unfold maxLen; omega) (by omega) rfl st)
  obtain ⟨q, hq, hq2⟩ := eth_q x1 x2 x3 x4 x5 d sr true tag ty
  obtain ⟨r, hr, hr2⟩ := arp_q y1 y2 y3 y4 y5 op sha spa tha tpa
  have hq3 : e1 = 0 → q = false := fun h => by
    cases q with
    | false => rfl
    | true =>
      obtain ⟨rfl, rfl, rfl, rfl, rfl⟩ := hq2 rfl
      have h3 := hk1 h
      rw [hl1, List.take_of_length_le (by omega)] at h3
      exact absurd h3.symm nB
  have hr3 : e2 = 0 → r = false := fun h => by
    cases r with
    | false => rfl
    | true =>
      obtain ⟨rfl, rfl, rfl, rfl, rfl⟩ := hr2 rfl
      exact absurd (hk2 h).symm nD
  clear hv1 hv2 hk1 hk2 e9 e11 hq2 hr2
  have ex := And.intro @c9 (And.intro @c11 (And.intro @c4 (And.intro @c5 (And.intro @c81 (And.intro @hq @hr)))))
  repeat' (first
   | (with_reducible refine isO ?_); first
     | refine mvA (h := ?_)
     | refine asA (h := ?_)
     | refine quA (h := ?_)
     | refine wnA (h := ?_)
     | refine caA (hc := (hh _)) (h := ?_)
     | refine caA (hc := (ha _)) (h := ?_)
   | (with_reducible refine isG ?_); first
     | refine stA (h := ?_)
     | refine srA (h := ?_)
     | refine swA (h := ?_)
     | refine s1A (h := ?_)
     | refine s0A (h := ?_)
     | refine sgA (h1 := fun _ => ?_) (h0 := fun _ => ?_)
     | refine sbA (h1 := fun _ => ?_) (h0 := fun _ => ?_)
   | (with_reducible refine isP ?_); first
     | refine dqA (h := ?_)
     | refine dnA (i := 17) (l := []) (h := ?_)
     | refine dnA (i := 19) (l := []) (h := ?_)
   | (with_reducible refine isC ?_); first
     | refine ctA (h := ?_)
     | refine cfA (h := ?_)
     | refine cdA (h1 := fun _ => ?_) (h0 := fun _ => ?_)
     | refine cbA (h1 := fun _ => ?_) (h0 := fun _ => ?_)
   | (with_reducible refine isR ?_); first
     | refine Ev.drawn (by decide +kernel) (l := [0, 1, 2, 3, 4, 5, 6, 7, 8, 9, 10, 11, 12, 13, 14, 15, 16, 17, 18, 19]) (by decide +kernel) ?_
   | with_reducible refine Ev.seq ?_
   | with_reducible refine Ev.ops ?_
   | with_reducible refine NxE ?_
   | with_reducible refine BxN ?_
   | with_reducible refine BxX ?_
   | with_reducible refine NxX ?_
   | with_reducible refine NxR ?_
   | with_reducible refine BxR ?_
   | with_reducible refine NxG ?_
   | with_reducible refine BxG ?_
   | with_reducible refine GxR ?_
   | with_reducible refine GxN ?_
   | with_reducible refine GxX ?_
   | with_reducible refine Ev.goto ?_
   | with_reducible refine Ev.block ?_
   | with_reducible refine Ev.skip ?_
   | with_reducible refine Ev.exit ?_
   | with_reducible refine Ev.ret ?_
   | with_reducible refine Ev.label ?_
   | with_reducible refine EvOps.nil ?_
   | with_reducible refine EvPlan.nil ?_
   | (with_reducible refine BxO ?_ ?_; · decide)
   )
  all_goals refine lfA (rl := [.tmp 8]) rfl (hv := by
      simp only [packV, strip, stripAgg, stripCell, List.map_cons, List.map_nil]
      first | done | (clear c9 c11 c4 c5 c81 a0 a1 a2 a3 hh ha hq hr; first | rfl | (simp_all; done) | (exfalso; omega) | (trace_state; fail))) (hp := (show pureV (.bool true) = true from rfl))

set_option maxHeartbeats 4000000 in
theorem turned_tnn (d sr tag ty : Int) (hd : 0 ≤ d) (hs : 0 ≤ sr) (g1 : d ≤ 281474976710655) (g2 : sr ≤ 281474976710655) (g3 : 0 ≤ tag ∧ tag ≤ 65535) (g4 : 0 ≤ ty ∧ ty ≤ 65535) (g5 : ty ≠ 33024) (op sha spa tha tpa : Int) (h1 : 0 ≤ sha) (h2 : sha < 18446744073709551616) (h3 : 0 ≤ spa) (h4 : spa < 4294967296) (h5 : 0 ≤ tha) (h6 : tha < 18446744073709551616) (h7 : 0 ≤ tpa) (h8 : tpa < 4294967296) (k1 : sha ≤ 281474976710655) (k2 : tha ≤ 281474976710655) (k3 : 0 ≤ op) (k4 : op ≤ 65535) (at_ by_ : Int) (b1 : 0 < by_) (b2 : by_ < 256) (s1 : Int.tmod at_ 18 < 0) (s2 : Int.tmod at_ 28 < 0) (b0 c0 : UInt8) (hb : (encL d sr true tag ty)[((Int.tmod at_ 18 + 18)).toNat]? = some b0) (hc : (encA op sha spa tha tpa)[((Int.tmod at_ 28 + 28)).toNat]? = some c0) (st : St) :
    FnS cx 7 [.agg [.int .u64 d, .int .u64 sr, .bool true, .int .i64 tag, .int .i64 ty], .agg [.int .i64 op, .int .u64 sha, .int .u32 spa, .int .u64 tha, .int .u32 tpa], .int .i64 at_, .int .u8 by_] st (.bool true) st := by
  have q1 : -18 < Int.tmod at_ 18 := by have := Int.lt_tmod_of_pos at_ (b := 18) (by omega); omega
  have q2 : Int.tmod at_ 18 < 18 := Int.tmod_lt_of_pos at_ (by omega)
  have q3 : -28 < Int.tmod at_ 28 := by have := Int.lt_tmod_of_pos at_ (b := 28) (by omega); omega
  have q4 : Int.tmod at_ 28 < 28 := Int.tmod_lt_of_pos at_ (by omega)
  have hl1 := encL_length d sr true tag ty
  have hl2 := encA_length op sha spa tha tpa
  simp only [if_true, Bool.false_eq_true, if_false] at hl1
  refine goP Try.func7 rfl rfl rfl rfl ?_ ?_
  · rfl
  intro t ht
  have a0 : tget t 0 = .agg [.int .u64 d, .int .u64 sr, .bool true, .int .i64 tag, .int .i64 ty] := ht 0 _ rfl
  have a1 : tget t 1 = .agg [.int .i64 op, .int .u64 sha, .int .u32 spa, .int .u64 tha, .int .u32 tpa] := ht 1 _ rfl
  have a2 : tget t 2 = .int .i64 at_ := ht 2 _ rfl
  have a3 : tget t 3 = .int .u8 by_ := ht 3 _ rfl
  clear ht
  have ex := And.intro @a0 (And.intro @a1 (And.intro @a2 (And.intro @a3 (And.intro @hb (And.intro @hc (And.intro @hl1 (And.intro @hl2 @len_n)))))))
  repeat' (first
   | (with_reducible refine isO ?_); first
     | refine mvA (h := ?_)
     | refine asA (h := ?_)
     | refine quA (h := ?_)
     | refine wnA (h := ?_)
     | refine caA (hc := (encT _ _ _ _ _ hd hs g1 g2 g3 g4 g5)) (h := ?_)
     | refine caA (hc := (arp21 _ _ _ _ _ _ h1 h2 h3 h4 h5 h6 h7 h8 k1 k2 k3 k4)) (h := ?_)
     | refine caA (hc := livesS _) (h := ?_)
   | (with_reducible refine isG ?_); first
     | refine stA (h := ?_)
     | refine srA (h := ?_)
     | refine swA (h := ?_)
     | refine s1A (h := ?_)
     | refine s0A (h := ?_)
     | refine sgA (h1 := fun _ => ?_) (h0 := fun _ => ?_)
     | refine sbA (h1 := fun _ => ?_) (h0 := fun _ => ?_)
   | (with_reducible refine isP ?_); first
     | refine dqA (h := ?_)
     | refine dnA (i := 17) (l := []) (h := ?_)
     | refine dnA (i := 19) (l := []) (h := ?_)
   | (with_reducible refine isC ?_); first
     | refine ctA (h := ?_)
     | refine cfA (h := ?_)
     | refine cdA (h1 := fun _ => ?_) (h0 := fun _ => ?_)
     | refine cbA (h1 := fun _ => ?_) (h0 := fun _ => ?_)
   | (with_reducible refine isR ?_); first
     | refine Ev.drawn (by decide +kernel) (l := [0, 1, 2, 3, 4, 5, 6, 7, 8, 9, 10, 11, 12, 13, 14, 15, 16, 17, 18, 19]) (by decide +kernel) ?_
   | with_reducible refine Ev.seq ?_
   | with_reducible refine Ev.ops ?_
   | with_reducible refine NxE ?_
   | with_reducible refine BxN ?_
   | with_reducible refine BxX ?_
   | with_reducible refine NxX ?_
   | with_reducible refine NxR ?_
   | with_reducible refine BxR ?_
   | with_reducible refine NxG ?_
   | with_reducible refine BxG ?_
   | with_reducible refine GxR ?_
   | with_reducible refine GxN ?_
   | with_reducible refine GxX ?_
   | with_reducible refine Ev.goto ?_
   | with_reducible refine Ev.block ?_
   | with_reducible refine Ev.skip ?_
   | with_reducible refine Ev.exit ?_
   | with_reducible refine Ev.ret ?_
   | with_reducible refine Ev.label ?_
   | with_reducible refine EvOps.nil ?_
   | with_reducible refine EvPlan.nil ?_
   | (with_reducible refine BxO ?_ ?_; · decide)
   )
  refine freezeI fun F hF => ?_
  have c9 := hF 9
  have c11 := hF 11
  have c4 := hF 4
  have c5 := hF 5
  have c81 := hF 81
  simp (disch := (first | assumption | omega | (simp only [List.length_append, bytesL_length, ofBytes_length, List.length_take, List.length_drop, List.length_cons, List.length_nil]; omega))) only [↓opE, ↓evP, stE, binE, ldE, ↓tgP, ↓reduceIte, clE, ncE, szE, hgE, intBin, shiftBin, strBin, unV, indexAddrV, indexV, lenV, partV, isAggT, sliceV, boundsV, bndV, asIntV, fieldAddrV, fieldV, putAt, nilCheckV, makeIfaceV, stripAgg, stripCell, decide_eq_true_eq, beqD, bneD, notD, beqS, if_true, if_false, ite_true, ite_false, Bool.true_eq_false, Bool.false_eq_true, Nat.reduceEqDiff, Nat.reduceBEq, Nat.reduceAdd, Nat.reduceSub, Nat.reduceMul, Nat.min_def, Nat.reducePow, Nat.reduceLeDiff, Nat.reduceLT, Int.reduceEq, Int.reduceNe, Int.reduceLT, Int.reduceLE, Int.reduceToNat, Int.reduceAdd, Int.reduceSub, Int.reduceMul, Int.reducePow, Int.reduceNeg, Option.map_some, Option.map_none, Option.bind_some, Option.getD_some, Option.getD_none, ofBytes_length, ofBytes_get, ofBytes_take, ofBytes_drop, Int.toNat_natCast, Int.natCast_nonneg, and_self, true_and, and_true, List.getElem?_cons_zero, List.getElem?_cons_succ, decide_true, decide_false, Bool.not_true, Bool.not_false, List.getElem_toArray, List.getElem?_toArray, List.getElem_cons_succ, List.getElem_cons_zero, List.toList_toArray, List.map_cons, List.map_nil, List.take_succ_cons, List.take_zero, List.drop_succ_cons, List.drop_zero, List.length_cons, List.length_nil, List.nil_append, List.cons_append, List.append_nil, Nat.le_refl, Nat.zero_add, Nat.mul_one, Nat.add_zero, Nat.zero_lt_one, List.length_singleton, IntKind.bits, reduceCtorEq, not_true_eq_false, not_false_eq_true, ne_eq, if_pos, if_neg, wI64, wI32, wU8, wU16, wU32, wU64, Int.emod_eq_of_lt, Int.fdiv_eq_ediv_of_nonneg, Int.tdiv_eq_ediv_of_nonneg, Int.tmod_eq_emod_of_nonneg, tyE, Try.underlying25, Try.underlying36, cvE, bdE, a0, a1, a2, a3, hb, hc, hl1, hl2, len_n, frz1] at c9 c11 c4 c5 c81
  clear hF
  obtain ⟨B, e9, lB, nB⟩ := turned_bytes hl1 hb b1 b2
  obtain ⟨D, e11, lD, nD⟩ := turned_bytes hl2 hc b1 b2
  rw [if_neg (ownN (by omega))] at c9 c11 c81
  replace c9 := c9.trans (congrArg (V.sl .none) e9)
  replace c81 := c81.trans (congrArg (V.sl .none) e9)
  replace c11 := c11.trans (congrArg (V.sl .none) e11)
  obtain ⟨x1, x2, x3, x4, x5, n1, e1, hv1, hk1⟩ := head_shape B
  have hh : ∀ st, FnS cx 8 [.sl .none (ofBytes B)] st (.tup [.agg [.int .u64 x1, .int .u64 x2, .bool x3, .int .i64 x4, .int .i64 x5], .int .i64 n1, .int .i64 e1]) st := fun st => hv1 ▸ tr ⟨ethHead_run .none B (by unfold maxLen; omega) st _ ⟨rfl, rfl⟩⟩
  obtain ⟨y1, y2, y3, y4, y5, e2, hv2, hk2⟩ := arp_shape D (by omega)
  have ha : ∀ st, FnS cx 13 [.sl .none (ofBytes D)] st (.tup [.agg [.int .i64 y1, .int .u64 y2, .int .u32 y3, .int .u64 y4, .int .u32 y5], .int .i64 e2]) st := fun st => hv2 ▸ tr (ethArp_long .none D (by unfold maxLen; omega) (by omega) rfl st)
  obtain ⟨q, hq, hq2⟩ := eth_q x1 x2 x3 x4 x5 d sr true tag ty
  obtain ⟨r, hr, hr2⟩ := arp_q y1 y2 y3 y4 y5 op sha spa tha tpa
  have hq3 : e1 = 0 → q = false := fun h => by
    cases q with
    | false => rfl
    | true =>
      obtain ⟨rfl, rfl, rfl, rfl, rfl⟩ := hq2 rfl
      have h3 := hk1 h
      rw [hl1, List.take_of_length_le (by omega)] at h3
      exact absurd h3.symm nB
  have hr3 : e2 = 0 → r = false := fun h => by
    cases r with
    | false => rfl
    | true =>
      obtain ⟨rfl, rfl, rfl, rfl, rfl⟩ := hr2 rfl
      exact absurd (hk2 h).symm nD
  clear hv1 hv2 hk1 hk2 e9 e11 hq2 hr2
  have ex := And.intro @c9 (And.intro @c11 (And.intro @c4 (And.intro @c5 (And.intro @c81 (And.intro @hq @hr)))))
  repeat' (first
   | (with_reducible refine isO ?_); first
     | refine mvA (h := ?_)
     | refine asA (h := ?_)
     | refine quA (h := ?_)
     | refine wnA (h := ?_)
     | refine caA (hc := (hh _)) (h := ?_)
     | refine caA (hc := (ha _)) (h := ?_)
   | (with_reducible refine isG ?_); first
     | refine stA (h := ?_)
     | refine srA (h := ?_)
     | refine swA (h := ?_)
     | refine s1A (h := ?_)
     | refine s0A (h := ?_)
     | refine sgA (h1 := fun _ => ?_) (h0 := fun _ => ?_)
     | refine sbA (h1 := fun _ => ?_) (h0 := fun _ => ?_)
   | (with_reducible refine isP ?_); first
     | refine dqA (h := ?_)
     | refine dnA (i := 17) (l := []) (h := ?_)
     | refine dnA (i := 19) (l := []) (h := ?_)
   | (with_reducible refine isC ?_); first
     | refine ctA (h := ?_)
     | refine cfA (h := ?_)
     | refine cdA (h1 := fun _ => ?_) (h0 := fun _ => ?_)
     | refine cbA (h1 := fun _ => ?_) (h0 := fun _ => ?_)
   | (with_reducible refine isR ?_); first
     | refine Ev.drawn (by decide +kernel) (l := [0, 1, 2, 3, 4, 5, 6, 7, 8, 9, 10, 11, 12, 13, 14, 15, 16, 17, 18, 19]) (by decide +kernel) ?_
   | with_reducible refine Ev.seq ?_
   | with_reducible refine Ev.ops ?_
   | with_reducible refine NxE ?_
   | with_reducible refine BxN ?_
   | with_reducible refine BxX ?_
   | with_reducible refine NxX ?_
   | with_reducible refine NxR ?_
   | with_reducible refine BxR ?_
   | with_reducible refine NxG ?_
   | with_reducible refine BxG ?_
   | with_reducible refine GxR ?_
   | with_reducible refine GxN ?_
   | with_reducible refine GxX ?_
   | with_reducible refine Ev.goto ?_
   | with_reducible refine Ev.block ?_
   | with_reducible refine Ev.skip ?_
   | with_reducible refine Ev.exit ?_
   | with_reducible refine Ev.ret ?_
   | with_reducible refine Ev.label ?_
   | with_reducible refine EvOps.nil ?_
   | with_reducible refine EvPlan.nil ?_
   | (with_reducible refine BxO ?_ ?_; · decide)
   )
  all_goals refine lfA (rl := [.tmp 8]) rfl (hv := by
      simp only [packV, strip, stripAgg, stripCell, List.map_cons, List.map_nil]
      first | done | (clear c9 c11 c4 c5 c81 a0 a1 a2 a3 hh ha hq hr; first | rfl | (simp_all; done) | (exfalso; omega) | (trace_state; fail))) (hp := (show pureV (.bool true) = true from rfl))
end M
end Go.Proofs.Ytfjhanjpacghkaa
