/- Numbers of texts: internal/strconv.ParseUint. -/
import Derived.Test.YtklcmgodhpediaaGreatDoorExLP1
set_option linter.unusedSimpArgs false
set_option linter.unusedVariables false
set_option maxRecDepth 100000
namespace Go.Proofs.YtklcmgodhpediaaGreatDoor.L
open Go Go.Vm Go.Proofs Go.Proofs.YtklcmgodhpediaaGreatDoor

theorem lowB : ∀ b : Fin 256, ((BitVec.ofInt 8 (b.val : Int) ||| BitVec.ofInt 8 32).toNat : Int) = ((UInt8.ofNat b.val ||| 32).toNat : Int) := by decide +kernel
theorem lowI (b : UInt8) : IntKind.u8.wrap ((BitVec.ofInt IntKind.u8.bits (b.toNat : Int) ||| BitVec.ofInt IntKind.u8.bits 32).toNat : Int) = ((b ||| 32).toNat : Int) := by
  have h : ((BitVec.ofInt IntKind.u8.bits (b.toNat : Int) ||| BitVec.ofInt IntKind.u8.bits 32).toNat : Int) = ((UInt8.ofNat b.toNat ||| 32).toNat : Int) := lowB ⟨b.toNat, b.toNat_lt⟩
  rw [h, UInt8.ofNat_toNat, wU8]
  have := (b ||| 32).toNat_lt
  omega
theorem lowS (b : UInt8) (st : St) : FnS cx 150 [.int .u8 b.toNat] st (.int .u8 (b ||| 32).toNat) st := by
  refine goP Tryz.func150 rfl rfl rfl rfl ?_ ?_
  · rfl
  intro t ht
  have a0 : tget t 0 = .int .u8 b.toNat := ht 0 _ rfl
  clear ht
  have ex := @a0
  have exd := @lowI
  repeat' (first
   | (with_reducible refine isO ?_); first | refine mvA (h := ?_) | refine asA (h := ?_) | refine quA (h := ?_)
   | (with_reducible refine isC ?_); first | refine ctA (h := ?_) | refine cfA (h := ?_) | refine cdA (h1 := fun _ => ?_) (h0 := fun _ => ?_) | refine cbA (h1 := fun _ => ?_) (h0 := fun _ => ?_)
   | with_reducible first | refine Ev.seq ?_ | refine Ev.ops ?_ | refine NxE ?_ | refine BxN ?_ | refine BxX ?_ | refine NxX ?_ | refine NxR ?_ | refine BxR ?_ | refine Ev.block ?_ | refine Ev.skip ?_ | refine Ev.exit ?_ | refine Ev.ret ?_ | refine EvOps.nil ?_ | refine EvPlan.nil ?_
   | (with_reducible refine BxO ?_ ?_; · decide)
   )
  repeat' refine lfA (rl := [.tmp 2]) rfl (hv := by
      simp only [packV, strip, stripAgg, stripCell, List.map_cons, List.map_nil]
      first | done | rfl | exact congrArg V.bool (decide_eq_decide.2 (by omega)) | exact congrArg V.bool (decide_eq_false (by omega)).symm | exact congrArg V.bool (decide_eq_true (by omega)).symm) (hp := rfl)

def errV (c : Nat) : V := if c = 0 then .niliface else .iface 158 (.int .i64 c)
def puV (p : Nat × Nat) : V := .tup [.int .u64 p.1, errV p.2]
theorem pure_puV (p : Nat × Nat) : pureV (puV p) = true := by unfold puV errV; split <;> rfl

theorem cvB (H : List (Nat × Ob)) (n : Nat) (l : List UInt8) (hl : l.length ≤ 2 ^ 47) (t : List (Nat × V)) (x : Operand) (dd : List (V × List V)) (hx : evalO cx ⟨t, dd⟩ x = .str l) : quietOp cx ⟨t, dd⟩ ⟨H, n⟩ (.convert 9 104 x) = some (.sl (.own n) (ofBytes l), ⟨(n, .tip 1) :: H, n + 1⟩) := by
  unfold quietOp
  simp only [rdOp, alOp, hx, convV, tyE]
  rw [if_pos ⟨by simp only [isU8, tyE], hl⟩]
  rfl
theorem sCvB {ops : Array Oper} {rest : List Oper} {t : List (Nat × V)} {dd : List (V × List V)} {H : List (Nat × Ob)} {n : Nat} {Q : Fr → St → Prop} {d : Tmp} {type : TypeId} {pos : String} {after : Array Edge} {x : Operand} {l : List UInt8} (hx : evalO cx ⟨t, dd⟩ x = .str l) (hl : l.length ≤ 2 ^ 47)
    (h : EvOps cx ops rest ⟨tset t d (.sl (.own n) (ofBytes l)), dd⟩ ⟨(n, .tip 1) :: H, n + 1⟩ Q) :
    EvOps cx ops ({ dst := some d, op := .convert 9 104 x, type := type, pos := pos, after := after, guard := none } :: rest) ⟨t, dd⟩ ⟨H, n⟩ Q := sQ (cvB H n l hl t x dd hx) h
theorem mkI : (∀ v, makeIfaceV cx 158 v = some (.iface 158 v)) := fun _ => by simp only [makeIfaceV, tyE]

theorem puL_syn {base mx n : Nat} {c : UInt8} {r : List UInt8} (h : ∀ d, digV c = some d → base ≤ d) : puL base mx n (c :: r) = (0, 2) := by
  simp only [puL]
  split
  · rfl
  · rename_i d hd; rw [if_pos (h d hd)]
theorem puL_rng {base mx n d : Nat} {c : UInt8} {r : List UInt8} (hd : digV c = some d) (hb : d < base) (h : mx < n * base + d) : puL base mx n (c :: r) = (mx, 1) := by
  simp only [puL, hd]
  rw [if_neg (by omega), if_pos h]
theorem puL_go {base mx n d : Nat} {c : UInt8} {r : List UInt8} (hd : digV c = some d) (hb : d < base) (h : n * base + d ≤ mx) : puL base mx n (c :: r) = puL base mx (n * base + d) r := by
  simp only [puL, hd]
  rw [if_neg (by omega), if_neg (by omega)]
theorem dig_num {c : UInt8} (h1 : (48 : Int) ≤ c.toNat) (h2 : (c.toNat : Int) ≤ 57) : digV c = some (c.toNat - 48) := by unfold digV; rw [if_pos (by omega)]
theorem dig_let {c : UInt8} (h0 : ¬ ((48 : Int) ≤ c.toNat ∧ (c.toNat : Int) ≤ 57)) (h1 : (97 : Int) ≤ (c ||| 32).toNat) (h2 : ((c ||| 32).toNat : Int) ≤ 122) : digV c = some ((c ||| 32).toNat - 87) := by unfold digV; rw [if_neg (by omega), if_pos (by omega)]
theorem dig_no {c : UInt8} (h0 : ¬ ((48 : Int) ≤ c.toNat ∧ (c.toNat : Int) ≤ 57)) (h1 : ¬ ((97 : Int) ≤ (c ||| 32).toNat ∧ ((c ||| 32).toNat : Int) ≤ 122)) : digV c = none := by unfold digV; rw [if_neg (by omega), if_neg (by omega)]

set_option maxHeartbeats 16000000 in
theorem pu16_8 (sx : List UInt8) (hs : sx.length ≤ 1000000) (st : St) : FnS cx 99 [.str sx, .int .i64 16, .int .i64 8] st (puV (puE 16 255 sx)) st := by
  by_cases h0 : sx = []
  · subst h0
    refine goP Tryz.func99 rfl rfl rfl rfl ?_ ?_
    · rfl
    intro t ht
    have a0 : tget t 0 = .str [] := ht 0 _ rfl
    have a1 : tget t 1 = .int .i64 16 := ht 1 _ rfl
    have a2 : tget t 2 = .int .i64 8 := ht 2 _ rfl
    clear ht
    have ex := And.intro @a0 (And.intro @a1 (And.intro @a2 @mkI))
    repeat' (first
     | (with_reducible refine isO ?_); first | refine mvA (h := ?_) | refine asA (h := ?_) | refine quA (h := ?_)
     | (with_reducible refine isG ?_); first | refine stA (h := ?_) | refine srA (h := ?_) | refine swA (h := ?_) | refine s1A (h := ?_) | refine s0A (h := ?_) | refine sgA (h1 := fun _ => ?_) (h0 := fun _ => ?_) | refine sbA (h1 := fun _ => ?_) (h0 := fun _ => ?_)
     | (with_reducible refine isC ?_); first | refine ctA (h := ?_) | refine cfA (h := ?_) | refine cdA (h1 := fun _ => ?_) (h0 := fun _ => ?_) | refine cbA (h1 := fun _ => ?_) (h0 := fun _ => ?_)
     | with_reducible first | refine Ev.seq ?_ | refine Ev.ops ?_ | refine NxE ?_ | refine BxN ?_ | refine BxX ?_ | refine NxX ?_ | refine NxR ?_ | refine BxR ?_ | refine Ev.block ?_ | refine Ev.skip ?_ | refine Ev.exit ?_ | refine Ev.ret ?_ | refine EvOps.nil ?_ | refine EvPlan.nil ?_
     | (with_reducible refine BxO ?_ ?_; · decide)
     )
    all_goals refine lfA (rl := [.tmp 6, .tmp 7]) rfl (hv := by
      simp only [packV, strip, stripAgg, stripCell, List.map_cons, List.map_nil]
      (first | done | rfl)) (hp := rfl)
  refine goP Tryz.func99 rfl rfl rfl rfl ?_ ?_
  · rfl
  intro t ht
  have a0 : tget t 0 = .str sx := ht 0 _ rfl
  have a1 : tget t 1 = .int .i64 16 := ht 1 _ rfl
  have a2 : tget t 2 = .int .i64 8 := ht 2 _ rfl
  clear ht
  have ex := And.intro @a0 (And.intro @a1 (And.intro @a2 (And.intro @mkI @h0)))
  repeat' (first
   | (with_reducible refine isO ?_); first | refine mvA (h := ?_) | refine asA (h := ?_) | refine sCvB (by simp only [↓evP, ↓tgP, ↓reduceIte, Nat.reduceEqDiff, reduceCtorEq, List.map_cons, List.map_nil, List.nil_append, List.append_nil, List.toList_toArray, a0]; with_reducible rfl) (by omega) ?_ | refine quA (h := ?_)
   | (with_reducible refine isG ?_); first | refine stA (h := ?_) | refine srA (h := ?_) | refine swA (h := ?_) | refine s1A (h := ?_) | refine s0A (h := ?_) | refine sgA (h1 := fun _ => ?_) (h0 := fun _ => ?_) | refine sbA (h1 := fun _ => ?_) (h0 := fun _ => ?_)
   | (with_reducible refine isC ?_); first | refine ctA (h := ?_) | refine cfA (h := ?_) | refine cdA (h1 := fun _ => ?_) (h0 := fun _ => ?_) | refine cbA (h1 := fun _ => ?_) (h0 := fun _ => ?_)
   | with_reducible first | refine Ev.seq ?_ | refine Ev.ops ?_ | refine NxE ?_ | refine BxN ?_ | refine BxX ?_ | refine NxX ?_ | refine NxR ?_ | refine BxR ?_ | refine Ev.block ?_ | refine Ev.skip ?_ | refine Ev.exit ?_ | refine Ev.ret ?_ | refine EvOps.nil ?_ | refine EvPlan.nil ?_
   | (with_reducible refine BxO ?_ ?_; · decide)
   )
  refine loopT (fun r t st' => ∃ (j n : Nat), r = sx.length - j ∧ j ≤ sx.length ∧ n ≤ 255 ∧ puL 16 255 0 sx = puL 16 255 n (sx.drop j) ∧ tget t 0 = .str sx ∧ tget t 1 = .int .i64 16 ∧ tget t 8 = .bool false ∧ tget t 10 = .int .u64 1152921504606846976 ∧ tget t 11 = .int .u64 255 ∧ tget t 12 = .bool false ∧ tget t 13 = .int .u64 n ∧ tget t 99 = .sl (.own 0) (ofBytes sx) ∧ tget t 100 = .int .i64 sx.length ∧ tget t 101 = .int .i64 j) (n := sx.length) ?_ ?_
  · refine ⟨0, 0, by omega, by omega, by omega, by rw [List.drop_zero], ?_, ?_, ?_, ?_, ?_, ?_, ?_, ?_, ?_, ?_⟩
    all_goals (simp (disch := (first | assumption | omega)) only [↓opE, ↓evP, stE, binE, ldE, ↓tgP, ↓reduceIte, clE, ncE, szE, hgE, intBin, shiftBin, strBin, unV, indexAddrV, indexV, lenV, partV, isAggT, sliceV, boundsV, bndV, asIntV, fieldAddrV, fieldV, putAt, nilCheckV, makeIfaceV, stripAgg, stripCell, decide_eq_true_eq, beqD, bneD, notD, beqS, if_true, if_false, ite_true, ite_false, Bool.true_eq_false, Bool.false_eq_true, Nat.reduceEqDiff, Nat.reduceBEq, Nat.reduceAdd, Nat.reduceSub, Nat.reduceMul, Nat.min_def, Nat.reducePow, Nat.reduceLeDiff, Nat.reduceLT, Int.reduceEq, Int.reduceNe, Int.reduceLT, Int.reduceLE, Int.reduceToNat, Int.reduceAdd, Int.reduceSub, Int.reduceMul, Int.reducePow, Int.reduceNeg, Option.map_some, Option.map_none, Option.bind_some, Option.getD_some, Option.getD_none, ofBytes_length, ofBytes_get, ofBytes_take, ofBytes_drop, Int.toNat_natCast, Int.natCast_nonneg, and_self, true_and, and_true, List.getElem?_cons_zero, List.getElem?_cons_succ, decide_true, decide_false, Bool.not_true, Bool.not_false, List.getElem_toArray, List.getElem?_toArray, List.getElem_cons_succ, List.getElem_cons_zero, List.toList_toArray, List.map_cons, List.map_nil, List.take_succ_cons, List.take_zero, List.drop_succ_cons, List.drop_zero, List.length_cons, List.length_nil, List.nil_append, List.cons_append, List.append_nil, Nat.le_refl, Nat.zero_add, Nat.mul_one, Nat.add_zero, Nat.zero_lt_one, List.length_singleton, IntKind.bits, reduceCtorEq, not_true_eq_false, not_false_eq_true, ne_eq, if_pos, if_neg, wI64, wI32, wU8, wU16, wU32, wU64, Int.emod_eq_of_lt, Int.fdiv_eq_ediv_of_nonneg, Int.tdiv_eq_ediv_of_nonneg, Int.tmod_eq_emod_of_nonneg, tyE, Tryz.underlying68, Tryz.underlying83, cvE, bdE, a0, a1, a2]; try rfl)
  rintro r t st' ⟨j, n, rfl, hj, hn, he, c0, c1, c8, c10, c11, c12, c13, c99, c100, c101⟩
  have hpE : puE 16 255 sx = puL 16 255 0 sx := by unfold puE; rw [if_neg h0]
  have low95 : ∀ st, FnS cx 150 [.int .u8 95] st (.int .u8 127) st := fun st => lowS 95 st
  have hcons : j < sx.length → sx.drop j = sx.getD j 0 :: sx.drop (j + 1) := fun h => by rw [List.drop_eq_getElem_cons h]; simp [h]
  by_cases h95 : ((sx.getD j 0).toNat : Int) = 95
  · have hc95 : sx.getD j 0 = 95 := UInt8.toNat_inj.1 (by show (sx.getD j 0).toNat = 95; omega)
    have ex := And.intro @c0 (And.intro @c1 (And.intro @c8 (And.intro @c10 (And.intro @c11 (And.intro @c12 (And.intro @c13 (And.intro @c99 (And.intro @c100 (And.intro @c101 (And.intro @strAt (And.intro @mkI @h95)))))))))))
    repeat' (first
     | (with_reducible refine isO ?_); first | refine mvA (h := ?_) | refine asA (h := ?_) | refine quA (h := ?_) | refine caA (hc := low95 _) (h := ?_)
     | (with_reducible refine isG ?_); first | refine stA (h := ?_) | refine srA (h := ?_) | refine swA (h := ?_) | refine s1A (h := ?_) | refine s0A (h := ?_) | refine sgA (h1 := fun _ => ?_) (h0 := fun _ => ?_) | refine sbA (h1 := fun _ => ?_) (h0 := fun _ => ?_)
     | (with_reducible refine isC ?_); first | refine ctA (h := ?_) | refine cfA (h := ?_) | refine cdA (h1 := fun _ => ?_) (h0 := fun _ => ?_) | refine cbA (h1 := fun _ => ?_) (h0 := fun _ => ?_)
     | with_reducible first | refine Ev.seq ?_ | refine Ev.ops ?_ | refine NxE ?_ | refine BxN ?_ | refine BxX ?_ | refine NxX ?_ | refine NxR ?_ | refine BxR ?_ | refine Ev.block ?_ | refine Ev.skip ?_ | refine Ev.exit ?_ | refine Ev.ret ?_ | refine EvOps.nil ?_ | refine EvPlan.nil ?_
     | (with_reducible refine BxO ?_ ?_; · decide)
     )
    all_goals first
      | refine lfA (rl := [.tmp 6, .tmp 7]) rfl (hv := by
      simp only [packV, strip, stripAgg, stripCell, List.map_cons, List.map_nil]
      (rw [hpE, he, hcons (by omega), hc95]; rfl)) (hp := (pure_puV _))
      | refine lfA (rl := [.tmp 6, .tmp 7]) rfl (hv := by
      simp only [packV, strip, stripAgg, stripCell, List.map_cons, List.map_nil]
      (rw [hpE, he, List.drop_of_length_le (by omega)]; rfl)) (hp := (pure_puV _))
  have ex := And.intro @c0 (And.intro @c1 (And.intro @c8 (And.intro @c10 (And.intro @c11 (And.intro @c12 (And.intro @c13 (And.intro @c99 (And.intro @c100 (And.intro @c101 (And.intro @strAt (And.intro @mkI @h95)))))))))))
  repeat' (first
   | (with_reducible refine isO ?_); first | refine mvA (h := ?_) | refine asA (h := ?_) | refine quA (h := ?_) | refine caA (hc := lowS (sx.getD j 0) _) (h := ?_)
   | (with_reducible refine isG ?_); first | refine stA (h := ?_) | refine srA (h := ?_) | refine swA (h := ?_) | refine s1A (h := ?_) | refine s0A (h := ?_) | refine sgA (h1 := fun _ => ?_) (h0 := fun _ => ?_) | refine sbA (h1 := fun _ => ?_) (h0 := fun _ => ?_)
   | (with_reducible refine isC ?_); first | refine ctA (h := ?_) | refine cfA (h := ?_) | refine cdA (h1 := fun _ => ?_) (h0 := fun _ => ?_) | refine cbA (h1 := fun _ => ?_) (h0 := fun _ => ?_)
   | with_reducible first | refine Ev.seq ?_ | refine Ev.ops ?_ | refine NxE ?_ | refine BxN ?_ | refine BxX ?_ | refine NxX ?_ | refine NxR ?_ | refine BxR ?_ | refine Ev.block ?_ | refine Ev.skip ?_ | refine Ev.exit ?_ | refine Ev.ret ?_ | refine EvOps.nil ?_ | refine EvPlan.nil ?_
   | (with_reducible refine BxO ?_ ?_; · decide)
   )
  all_goals first
    | (exfalso; omega)
    | refine lfA (rl := [.tmp 6, .tmp 7]) rfl (hv := by
      simp only [packV, strip, stripAgg, stripCell, List.map_cons, List.map_nil]
      (rw [hpE, he, hcons (by omega), puL_syn (fun d hd => by first | (rw [dig_num (by omega) (by omega)] at hd; cases hd; omega) | (rw [dig_let (by omega) (by omega) (by omega)] at hd; cases hd; omega) | (rw [dig_no (by omega) (by omega)] at hd; cases hd))]; rfl)) (hp := (pure_puV _))
    | refine lfA (rl := [.tmp 6, .tmp 7]) rfl (hv := by
      simp only [packV, strip, stripAgg, stripCell, List.map_cons, List.map_nil]
      (rw [hpE, he, hcons (by omega)]; first | (rw [puL_rng (dig_num (by omega) (by omega)) (by omega) (by omega)]; rfl) | (rw [puL_rng (dig_let (by omega) (by omega) (by omega)) (by omega) (by omega)]; rfl))) (hp := (pure_puV _))
    | refine lfA (rl := [.tmp 6, .tmp 7]) rfl (hv := by
      simp only [packV, strip, stripAgg, stripCell, List.map_cons, List.map_nil]
      (rw [hpE, he, List.drop_of_length_le (by omega)]; rfl)) (hp := (pure_puV _))
    | (refine ⟨sx.length - (j + 1), by omega, rfl, j + 1, n * 16 + ((sx.getD j 0).toNat - 48), rfl, by omega, by omega, by rw [he, hcons (by omega), puL_go (dig_num (by omega) (by omega)) (by omega) (by omega)], ?_, ?_, ?_, ?_, ?_, ?_, ?_, ?_, ?_, ?_⟩ <;> simp only [↓evP, ↓tgP, ↓reduceIte, Nat.reduceEqDiff, reduceCtorEq, List.map_cons, List.map_nil, List.nil_append, List.append_nil, List.toList_toArray, c0, c1, c8, c10, c11, c12, c13, c99, c100, c101] <;> first | rfl | (congr 1; omega))
    | (refine ⟨sx.length - (j + 1), by omega, rfl, j + 1, n * 16 + ((sx.getD j 0 ||| 32).toNat - 87), rfl, by omega, by omega, by rw [he, hcons (by omega), puL_go (dig_let (by omega) (by omega) (by omega)) (by omega) (by omega)], ?_, ?_, ?_, ?_, ?_, ?_, ?_, ?_, ?_, ?_⟩ <;> simp only [↓evP, ↓tgP, ↓reduceIte, Nat.reduceEqDiff, reduceCtorEq, List.map_cons, List.map_nil, List.nil_append, List.append_nil, List.toList_toArray, c0, c1, c8, c10, c11, c12, c13, c99, c100, c101] <;> first | rfl | (congr 1; omega))

end Go.Proofs.YtklcmgodhpediaaGreatDoor.L
/- internal/strconv.ParseUint, base 10, 8 bits. -/
namespace Go.Proofs.YtklcmgodhpediaaGreatDoor.L
open Go Go.Vm Go.Proofs Go.Proofs.YtklcmgodhpediaaGreatDoor

set_option maxHeartbeats 16000000 in
theorem pu10_8 (sx : List UInt8) (hs : sx.length ≤ 1000000) (st : St) : FnS cx 99 [.str sx, .int .i64 10, .int .i64 8] st (puV (puE 10 255 sx)) st := by
  by_cases h0 : sx = []
  · subst h0
    refine goP Tryz.func99 rfl rfl rfl rfl ?_ ?_
    · rfl
    intro t ht
    have a0 : tget t 0 = .str [] := ht 0 _ rfl
    have a1 : tget t 1 = .int .i64 10 := ht 1 _ rfl
    have a2 : tget t 2 = .int .i64 8 := ht 2 _ rfl
    clear ht
    have ex := And.intro @a0 (And.intro @a1 (And.intro @a2 @mkI))
    repeat' (first
     | (with_reducible refine isO ?_); first | refine mvA (h := ?_) | refine asA (h := ?_) | refine quA (h := ?_)
     | (with_reducible refine isG ?_); first | refine stA (h := ?_) | refine srA (h := ?_) | refine swA (h := ?_) | refine s1A (h := ?_) | refine s0A (h := ?_) | refine sgA (h1 := fun _ => ?_) (h0 := fun _ => ?_) | refine sbA (h1 := fun _ => ?_) (h0 := fun _ => ?_)
     | (with_reducible refine isC ?_); first | refine ctA (h := ?_) | refine cfA (h := ?_) | refine cdA (h1 := fun _ => ?_) (h0 := fun _ => ?_) | refine cbA (h1 := fun _ => ?_) (h0 := fun _ => ?_)
     | with_reducible first | refine Ev.seq ?_ | refine Ev.ops ?_ | refine NxE ?_ | refine BxN ?_ | refine BxX ?_ | refine NxX ?_ | refine NxR ?_ | refine BxR ?_ | refine Ev.block ?_ | refine Ev.skip ?_ | refine Ev.exit ?_ | refine Ev.ret ?_ | refine EvOps.nil ?_ | refine EvPlan.nil ?_
     | (with_reducible refine BxO ?_ ?_; · decide)
     )
    all_goals refine lfA (rl := [.tmp 6, .tmp 7]) rfl (hv := by
      simp only [packV, strip, stripAgg, stripCell, List.map_cons, List.map_nil]
      (first | done | rfl)) (hp := rfl)
  refine goP Tryz.func99 rfl rfl rfl rfl ?_ ?_
  · rfl
  intro t ht
  have a0 : tget t 0 = .str sx := ht 0 _ rfl
  have a1 : tget t 1 = .int .i64 10 := ht 1 _ rfl
  have a2 : tget t 2 = .int .i64 8 := ht 2 _ rfl
  clear ht
  have ex := And.intro @a0 (And.intro @a1 (And.intro @a2 (And.intro @mkI @h0)))
  repeat' (first
   | (with_reducible refine isO ?_); first | refine mvA (h := ?_) | refine asA (h := ?_) | refine sCvB (by simp only [↓evP, ↓tgP, ↓reduceIte, Nat.reduceEqDiff, reduceCtorEq, List.map_cons, List.map_nil, List.nil_append, List.append_nil, List.toList_toArray, a0]; with_reducible rfl) (by omega) ?_ | refine quA (h := ?_)
   | (with_reducible refine isG ?_); first | refine stA (h := ?_) | refine srA (h := ?_) | refine swA (h := ?_) | refine s1A (h := ?_) | refine s0A (h := ?_) | refine sgA (h1 := fun _ => ?_) (h0 := fun _ => ?_) | refine sbA (h1 := fun _ => ?_) (h0 := fun _ => ?_)
   | (with_reducible refine isC ?_); first | refine ctA (h := ?_) | refine cfA (h := ?_) | refine cdA (h1 := fun _ => ?_) (h0 := fun _ => ?_) | refine cbA (h1 := fun _ => ?_) (h0 := fun _ => ?_)
   | with_reducible first | refine Ev.seq ?_ | refine Ev.ops ?_ | refine NxE ?_ | refine BxN ?_ | refine BxX ?_ | refine NxX ?_ | refine NxR ?_ | refine BxR ?_ | refine Ev.block ?_ | refine Ev.skip ?_ | refine Ev.exit ?_ | refine Ev.ret ?_ | refine EvOps.nil ?_ | refine EvPlan.nil ?_
   | (with_reducible refine BxO ?_ ?_; · decide)
   )
  refine loopT (fun r t st' => ∃ (j n : Nat), r = sx.length - j ∧ j ≤ sx.length ∧ n ≤ 255 ∧ puL 10 255 0 sx = puL 10 255 n (sx.drop j) ∧ tget t 0 = .str sx ∧ tget t 1 = .int .i64 10 ∧ tget t 8 = .bool false ∧ tget t 10 = .int .u64 1844674407370955162 ∧ tget t 11 = .int .u64 255 ∧ tget t 12 = .bool false ∧ tget t 13 = .int .u64 n ∧ tget t 99 = .sl (.own 0) (ofBytes sx) ∧ tget t 100 = .int .i64 sx.length ∧ tget t 101 = .int .i64 j) (n := sx.length) ?_ ?_
  · refine ⟨0, 0, by omega, by omega, by omega, by rw [List.drop_zero], ?_, ?_, ?_, ?_, ?_, ?_, ?_, ?_, ?_, ?_⟩
    all_goals (simp (disch := (first | assumption | omega)) only [↓opE, ↓evP, stE, binE, ldE, ↓tgP, ↓reduceIte, clE, ncE, szE, hgE, intBin, shiftBin, strBin, unV, indexAddrV, indexV, lenV, partV, isAggT, sliceV, boundsV, bndV, asIntV, fieldAddrV, fieldV, putAt, nilCheckV, makeIfaceV, stripAgg, stripCell, decide_eq_true_eq, beqD, bneD, notD, beqS, if_true, if_false, ite_true, ite_false, Bool.true_eq_false, Bool.false_eq_true, Nat.reduceEqDiff, Nat.reduceBEq, Nat.reduceAdd, Nat.reduceSub, Nat.reduceMul, Nat.min_def, Nat.reducePow, Nat.reduceLeDiff, Nat.reduceLT, Int.reduceEq, Int.reduceNe, Int.reduceLT, Int.reduceLE, Int.reduceToNat, Int.reduceAdd, Int.reduceSub, Int.reduceMul, Int.reducePow, Int.reduceNeg, Option.map_some, Option.map_none, Option.bind_some, Option.getD_some, Option.getD_none, ofBytes_length, ofBytes_get, ofBytes_take, ofBytes_drop, Int.toNat_natCast, Int.natCast_nonneg, and_self, true_and, and_true, List.getElem?_cons_zero, List.getElem?_cons_succ, decide_true, decide_false, Bool.not_true, Bool.not_false, List.getElem_toArray, List.getElem?_toArray, List.getElem_cons_succ, List.getElem_cons_zero, List.toList_toArray, List.map_cons, List.map_nil, List.take_succ_cons, List.take_zero, List.drop_succ_cons, List.drop_zero, List.length_cons, List.length_nil, List.nil_append, List.cons_append, List.append_nil, Nat.le_refl, Nat.zero_add, Nat.mul_one, Nat.add_zero, Nat.zero_lt_one, List.length_singleton, IntKind.bits, reduceCtorEq, not_true_eq_false, not_false_eq_true, ne_eq, if_pos, if_neg, wI64, wI32, wU8, wU16, wU32, wU64, Int.emod_eq_of_lt, Int.fdiv_eq_ediv_of_nonneg, Int.tdiv_eq_ediv_of_nonneg, Int.tmod_eq_emod_of_nonneg, tyE, Tryz.underlying68, Tryz.underlying83, cvE, bdE, a0, a1, a2]; try rfl)
  rintro r t st' ⟨j, n, rfl, hj, hn, he, c0, c1, c8, c10, c11, c12, c13, c99, c100, c101⟩
  have hpE : puE 10 255 sx = puL 10 255 0 sx := by unfold puE; rw [if_neg h0]
  have low95 : ∀ st, FnS cx 150 [.int .u8 95] st (.int .u8 127) st := fun st => lowS 95 st
  have hcons : j < sx.length → sx.drop j = sx.getD j 0 :: sx.drop (j + 1) := fun h => by rw [List.drop_eq_getElem_cons h]; simp [h]
  by_cases h95 : ((sx.getD j 0).toNat : Int) = 95
  · have hc95 : sx.getD j 0 = 95 := UInt8.toNat_inj.1 (by show (sx.getD j 0).toNat = 95; omega)
    have ex := And.intro @c0 (And.intro @c1 (And.intro @c8 (And.intro @c10 (And.intro @c11 (And.intro @c12 (And.intro @c13 (And.intro @c99 (And.intro @c100 (And.intro @c101 (And.intro @strAt (And.intro @mkI @h95)))))))))))
    repeat' (first
     | (with_reducible refine isO ?_); first | refine mvA (h := ?_) | refine asA (h := ?_) | refine quA (h := ?_) | refine caA (hc := low95 _) (h := ?_)
     | (with_reducible refine isG ?_); first | refine stA (h := ?_) | refine srA (h := ?_) | refine swA (h := ?_) | refine s1A (h := ?_) | refine s0A (h := ?_) | refine sgA (h1 := fun _ => ?_) (h0 := fun _ => ?_) | refine sbA (h1 := fun _ => ?_) (h0 := fun _ => ?_)
     | (with_reducible refine isC ?_); first | refine ctA (h := ?_) | refine cfA (h := ?_) | refine cdA (h1 := fun _ => ?_) (h0 := fun _ => ?_) | refine cbA (h1 := fun _ => ?_) (h0 := fun _ => ?_)
     | with_reducible first | refine Ev.seq ?_ | refine Ev.ops ?_ | refine NxE ?_ | refine BxN ?_ | refine BxX ?_ | refine NxX ?_ | refine NxR ?_ | refine BxR ?_ | refine Ev.block ?_ | refine Ev.skip ?_ | refine Ev.exit ?_ | refine Ev.ret ?_ | refine EvOps.nil ?_ | refine EvPlan.nil ?_
     | (with_reducible refine BxO ?_ ?_; · decide)
     )
    all_goals first
      | refine lfA (rl := [.tmp 6, .tmp 7]) rfl (hv := by
      simp only [packV, strip, stripAgg, stripCell, List.map_cons, List.map_nil]
      (rw [hpE, he, hcons (by omega), hc95]; rfl)) (hp := (pure_puV _))
      | refine lfA (rl := [.tmp 6, .tmp 7]) rfl (hv := by
      simp only [packV, strip, stripAgg, stripCell, List.map_cons, List.map_nil]
      (rw [hpE, he, List.drop_of_length_le (by omega)]; rfl)) (hp := (pure_puV _))
  have ex := And.intro @c0 (And.intro @c1 (And.intro @c8 (And.intro @c10 (And.intro @c11 (And.intro @c12 (And.intro @c13 (And.intro @c99 (And.intro @c100 (And.intro @c101 (And.intro @strAt (And.intro @mkI @h95)))))))))))
  repeat' (first
   | (with_reducible refine isO ?_); first | refine mvA (h := ?_) | refine asA (h := ?_) | refine quA (h := ?_) | refine caA (hc := lowS (sx.getD j 0) _) (h := ?_)
   | (with_reducible refine isG ?_); first | refine stA (h := ?_) | refine srA (h := ?_) | refine swA (h := ?_) | refine s1A (h := ?_) | refine s0A (h := ?_) | refine sgA (h1 := fun _ => ?_) (h0 := fun _ => ?_) | refine sbA (h1 := fun _ => ?_) (h0 := fun _ => ?_)
   | (with_reducible refine isC ?_); first | refine ctA (h := ?_) | refine cfA (h := ?_) | refine cdA (h1 := fun _ => ?_) (h0 := fun _ => ?_) | refine cbA (h1 := fun _ => ?_) (h0 := fun _ => ?_)
   | with_reducible first | refine Ev.seq ?_ | refine Ev.ops ?_ | refine NxE ?_ | refine BxN ?_ | refine BxX ?_ | refine NxX ?_ | refine NxR ?_ | refine BxR ?_ | refine Ev.block ?_ | refine Ev.skip ?_ | refine Ev.exit ?_ | refine Ev.ret ?_ | refine EvOps.nil ?_ | refine EvPlan.nil ?_
   | (with_reducible refine BxO ?_ ?_; · decide)
   )
  all_goals first
    | (exfalso; omega)
    | refine lfA (rl := [.tmp 6, .tmp 7]) rfl (hv := by
      simp only [packV, strip, stripAgg, stripCell, List.map_cons, List.map_nil]
      (rw [hpE, he, hcons (by omega), puL_syn (fun d hd => by first | (rw [dig_num (by omega) (by omega)] at hd; cases hd; omega) | (rw [dig_let (by omega) (by omega) (by omega)] at hd; cases hd; omega) | (rw [dig_no (by omega) (by omega)] at hd; cases hd))]; rfl)) (hp := (pure_puV _))
    | refine lfA (rl := [.tmp 6, .tmp 7]) rfl (hv := by
      simp only [packV, strip, stripAgg, stripCell, List.map_cons, List.map_nil]
      (rw [hpE, he, hcons (by omega)]; first | (rw [puL_rng (dig_num (by omega) (by omega)) (by omega) (by omega)]; rfl) | (rw [puL_rng (dig_let (by omega) (by omega) (by omega)) (by omega) (by omega)]; rfl))) (hp := (pure_puV _))
    | refine lfA (rl := [.tmp 6, .tmp 7]) rfl (hv := by
      simp only [packV, strip, stripAgg, stripCell, List.map_cons, List.map_nil]
      (rw [hpE, he, List.drop_of_length_le (by omega)]; rfl)) (hp := (pure_puV _))
    | (refine ⟨sx.length - (j + 1), by omega, rfl, j + 1, n * 10 + ((sx.getD j 0).toNat - 48), rfl, by omega, by omega, by rw [he, hcons (by omega), puL_go (dig_num (by omega) (by omega)) (by omega) (by omega)], ?_, ?_, ?_, ?_, ?_, ?_, ?_, ?_, ?_, ?_⟩ <;> simp only [↓evP, ↓tgP, ↓reduceIte, Nat.reduceEqDiff, reduceCtorEq, List.map_cons, List.map_nil, List.nil_append, List.append_nil, List.toList_toArray, c0, c1, c8, c10, c11, c12, c13, c99, c100, c101] <;> first | rfl | (congr 1; omega))
    | (refine ⟨sx.length - (j + 1), by omega, rfl, j + 1, n * 10 + ((sx.getD j 0 ||| 32).toNat - 87), rfl, by omega, by omega, by rw [he, hcons (by omega), puL_go (dig_let (by omega) (by omega) (by omega)) (by omega) (by omega)], ?_, ?_, ?_, ?_, ?_, ?_, ?_, ?_, ?_, ?_⟩ <;> simp only [↓evP, ↓tgP, ↓reduceIte, Nat.reduceEqDiff, reduceCtorEq, List.map_cons, List.map_nil, List.nil_append, List.append_nil, List.toList_toArray, c0, c1, c8, c10, c11, c12, c13, c99, c100, c101] <;> first | rfl | (congr 1; omega))

end Go.Proofs.YtklcmgodhpediaaGreatDoor.L
/- internal/strconv.ParseUint, base 10, 64 bits. -/
namespace Go.Proofs.YtklcmgodhpediaaGreatDoor.L
open Go Go.Vm Go.Proofs Go.Proofs.YtklcmgodhpediaaGreatDoor

set_option maxHeartbeats 16000000 in
theorem pu10_64 (sx : List UInt8) (hs : sx.length ≤ 1000000) (st : St) : FnS cx 99 [.str sx, .int .i64 10, .int .i64 64] st (puV (puE 10 18446744073709551615 sx)) st := by
  by_cases h0 : sx = []
  · subst h0
    refine goP Tryz.func99 rfl rfl rfl rfl ?_ ?_
    · rfl
    intro t ht
    have a0 : tget t 0 = .str [] := ht 0 _ rfl
    have a1 : tget t 1 = .int .i64 10 := ht 1 _ rfl
    have a2 : tget t 2 = .int .i64 64 := ht 2 _ rfl
    clear ht
    have ex := And.intro @a0 (And.intro @a1 (And.intro @a2 @mkI))
    repeat' (first
     | (with_reducible refine isO ?_); first | refine mvA (h := ?_) | refine asA (h := ?_) | refine quA (h := ?_)
     | (with_reducible refine isG ?_); first | refine stA (h := ?_) | refine srA (h := ?_) | refine swA (h := ?_) | refine s1A (h := ?_) | refine s0A (h := ?_) | refine sgA (h1 := fun _ => ?_) (h0 := fun _ => ?_) | refine sbA (h1 := fun _ => ?_) (h0 := fun _ => ?_)
     | (with_reducible refine isC ?_); first | refine ctA (h := ?_) | refine cfA (h := ?_) | refine cdA (h1 := fun _ => ?_) (h0 := fun _ => ?_) | refine cbA (h1 := fun _ => ?_) (h0 := fun _ => ?_)
     | with_reducible first | refine Ev.seq ?_ | refine Ev.ops ?_ | refine NxE ?_ | refine BxN ?_ | refine BxX ?_ | refine NxX ?_ | refine NxR ?_ | refine BxR ?_ | refine Ev.block ?_ | refine Ev.skip ?_ | refine Ev.exit ?_ | refine Ev.ret ?_ | refine EvOps.nil ?_ | refine EvPlan.nil ?_
     | (with_reducible refine BxO ?_ ?_; · decide)
     )
    all_goals refine lfA (rl := [.tmp 6, .tmp 7]) rfl (hv := by
      simp only [packV, strip, stripAgg, stripCell, List.map_cons, List.map_nil]
      (first | done | rfl)) (hp := rfl)
  refine goP Tryz.func99 rfl rfl rfl rfl ?_ ?_
  · rfl
  intro t ht
  have a0 : tget t 0 = .str sx := ht 0 _ rfl
  have a1 : tget t 1 = .int .i64 10 := ht 1 _ rfl
  have a2 : tget t 2 = .int .i64 64 := ht 2 _ rfl
  clear ht
  have ex := And.intro @a0 (And.intro @a1 (And.intro @a2 (And.intro @mkI @h0)))
  repeat' (first
   | (with_reducible refine isO ?_); first | refine mvA (h := ?_) | refine asA (h := ?_) | refine sCvB (by simp only [↓evP, ↓tgP, ↓reduceIte, Nat.reduceEqDiff, reduceCtorEq, List.map_cons, List.map_nil, List.nil_append, List.append_nil, List.toList_toArray, a0]; with_reducible rfl) (by omega) ?_ | refine quA (h := ?_)
   | (with_reducible refine isG ?_); first | refine stA (h := ?_) | refine srA (h := ?_) | refine swA (h := ?_) | refine s1A (h := ?_) | refine s0A (h := ?_) | refine sgA (h1 := fun _ => ?_) (h0 := fun _ => ?_) | refine sbA (h1 := fun _ => ?_) (h0 := fun _ => ?_)
   | (with_reducible refine isC ?_); first | refine ctA (h := ?_) | refine cfA (h := ?_) | refine cdA (h1 := fun _ => ?_) (h0 := fun _ => ?_) | refine cbA (h1 := fun _ => ?_) (h0 := fun _ => ?_)
   | with_reducible first | refine Ev.seq ?_ | refine Ev.ops ?_ | refine NxE ?_ | refine BxN ?_ | refine BxX ?_ | refine NxX ?_ | refine NxR ?_ | refine BxR ?_ | refine Ev.block ?_ | refine Ev.skip ?_ | refine Ev.exit ?_ | refine Ev.ret ?_ | refine EvOps.nil ?_ | refine EvPlan.nil ?_
   | (with_reducible refine BxO ?_ ?_; · decide)
   )
  refine loopT (fun r t st' => ∃ (j n : Nat), r = sx.length - j ∧ j ≤ sx.length ∧ n ≤ 18446744073709551615 ∧ puL 10 18446744073709551615 0 sx = puL 10 18446744073709551615 n (sx.drop j) ∧ tget t 0 = .str sx ∧ tget t 1 = .int .i64 10 ∧ tget t 8 = .bool false ∧ tget t 10 = .int .u64 1844674407370955162 ∧ tget t 11 = .int .u64 18446744073709551615 ∧ tget t 12 = .bool false ∧ tget t 13 = .int .u64 n ∧ tget t 99 = .sl (.own 0) (ofBytes sx) ∧ tget t 100 = .int .i64 sx.length ∧ tget t 101 = .int .i64 j) (n := sx.length) ?_ ?_
  · refine ⟨0, 0, by omega, by omega, by omega, by rw [List.drop_zero], ?_, ?_, ?_, ?_, ?_, ?_, ?_, ?_, ?_, ?_⟩
    all_goals (simp (disch := (first | assumption | omega)) only [↓opE, ↓evP, stE, binE, ldE, ↓tgP, ↓reduceIte, clE, ncE, szE, hgE, intBin, shiftBin, strBin, unV, indexAddrV, indexV, lenV, partV, isAggT, sliceV, boundsV, bndV, asIntV, fieldAddrV, fieldV, putAt, nilCheckV, makeIfaceV, stripAgg, stripCell, decide_eq_true_eq, beqD, bneD, notD, beqS, if_true, if_false, ite_true, ite_false, Bool.true_eq_false, Bool.false_eq_true, Nat.reduceEqDiff, Nat.reduceBEq, Nat.reduceAdd, Nat.reduceSub, Nat.reduceMul, Nat.min_def, Nat.reducePow, Nat.reduceLeDiff, Nat.reduceLT, Int.reduceEq, Int.reduceNe, Int.reduceLT, Int.reduceLE, Int.reduceToNat, Int.reduceAdd, Int.reduceSub, Int.reduceMul, Int.reducePow, Int.reduceNeg, Option.map_some, Option.map_none, Option.bind_some, Option.getD_some, Option.getD_none, ofBytes_length, ofBytes_get, ofBytes_take, ofBytes_drop, Int.toNat_natCast, Int.natCast_nonneg, and_self, true_and, and_true, List.getElem?_cons_zero, List.getElem?_cons_succ, decide_true, decide_false, Bool.not_true, Bool.not_false, List.getElem_toArray, List.getElem?_toArray, List.getElem_cons_succ, List.getElem_cons_zero, List.toList_toArray, List.map_cons, List.map_nil, List.take_succ_cons, List.take_zero, List.drop_succ_cons, List.drop_zero, List.length_cons, List.length_nil, List.nil_append, List.cons_append, List.append_nil, Nat.le_refl, Nat.zero_add, Nat.mul_one, Nat.add_zero, Nat.zero_lt_one, List.length_singleton, IntKind.bits, reduceCtorEq, not_true_eq_false, not_false_eq_true, ne_eq, if_pos, if_neg, wI64, wI32, wU8, wU16, wU32, wU64, Int.emod_eq_of_lt, Int.fdiv_eq_ediv_of_nonneg, Int.tdiv_eq_ediv_of_nonneg, Int.tmod_eq_emod_of_nonneg, tyE, Tryz.underlying68, Tryz.underlying83, cvE, bdE, a0, a1, a2]; try rfl)
  rintro r t st' ⟨j, n, rfl, hj, hn, he, c0, c1, c8, c10, c11, c12, c13, c99, c100, c101⟩
  have hpE : puE 10 18446744073709551615 sx = puL 10 18446744073709551615 0 sx := by unfold puE; rw [if_neg h0]
  have low95 : ∀ st, FnS cx 150 [.int .u8 95] st (.int .u8 127) st := fun st => lowS 95 st
  have hcons : j < sx.length → sx.drop j = sx.getD j 0 :: sx.drop (j + 1) := fun h => by rw [List.drop_eq_getElem_cons h]; simp [h]
  by_cases h95 : ((sx.getD j 0).toNat : Int) = 95
  · have hc95 : sx.getD j 0 = 95 := UInt8.toNat_inj.1 (by show (sx.getD j 0).toNat = 95; omega)
    have ex := And.intro @c0 (And.intro @c1 (And.intro @c8 (And.intro @c10 (And.intro @c11 (And.intro @c12 (And.intro @c13 (And.intro @c99 (And.intro @c100 (And.intro @c101 (And.intro @strAt (And.intro @mkI @h95)))))))))))
    repeat' (first
     | (with_reducible refine isO ?_); first | refine mvA (h := ?_) | refine asA (h := ?_) | refine quA (h := ?_) | refine caA (hc := low95 _) (h := ?_)
     | (with_reducible refine isG ?_); first | refine stA (h := ?_) | refine srA (h := ?_) | refine swA (h := ?_) | refine s1A (h := ?_) | refine s0A (h := ?_) | refine sgA (h1 := fun _ => ?_) (h0 := fun _ => ?_) | refine sbA (h1 := fun _ => ?_) (h0 := fun _ => ?_)
     | (with_reducible refine isC ?_); first | refine ctA (h := ?_) | refine cfA (h := ?_) | refine cdA (h1 := fun _ => ?_) (h0 := fun _ => ?_) | refine cbA (h1 := fun _ => ?_) (h0 := fun _ => ?_)
     | with_reducible first | refine Ev.seq ?_ | refine Ev.ops ?_ | refine NxE ?_ | refine BxN ?_ | refine BxX ?_ | refine NxX ?_ | refine NxR ?_ | refine BxR ?_ | refine Ev.block ?_ | refine Ev.skip ?_ | refine Ev.exit ?_ | refine Ev.ret ?_ | refine EvOps.nil ?_ | refine EvPlan.nil ?_
     | (with_reducible refine BxO ?_ ?_; · decide)
     )
    all_goals first
      | refine lfA (rl := [.tmp 6, .tmp 7]) rfl (hv := by
      simp only [packV, strip, stripAgg, stripCell, List.map_cons, List.map_nil]
      (rw [hpE, he, hcons (by omega), hc95]; rfl)) (hp := (pure_puV _))
      | refine lfA (rl := [.tmp 6, .tmp 7]) rfl (hv := by
      simp only [packV, strip, stripAgg, stripCell, List.map_cons, List.map_nil]
      (rw [hpE, he, List.drop_of_length_le (by omega)]; rfl)) (hp := (pure_puV _))
  have ex := And.intro @c0 (And.intro @c1 (And.intro @c8 (And.intro @c10 (And.intro @c11 (And.intro @c12 (And.intro @c13 (And.intro @c99 (And.intro @c100 (And.intro @c101 (And.intro @strAt (And.intro @mkI @h95)))))))))))
  repeat' (first
   | (with_reducible refine isO ?_); first | refine mvA (h := ?_) | refine asA (h := ?_) | refine quA (h := ?_) | refine caA (hc := lowS (sx.getD j 0) _) (h := ?_)
   | (with_reducible refine isG ?_); first | refine stA (h := ?_) | refine srA (h := ?_) | refine swA (h := ?_) | refine s1A (h := ?_) | refine s0A (h := ?_) | refine sgA (h1 := fun _ => ?_) (h0 := fun _ => ?_) | refine sbA (h1 := fun _ => ?_) (h0 := fun _ => ?_)
   | (with_reducible refine isC ?_); first | refine ctA (h := ?_) | refine cfA (h := ?_) | refine cdA (h1 := fun _ => ?_) (h0 := fun _ => ?_) | refine cbA (h1 := fun _ => ?_) (h0 := fun _ => ?_)
   | with_reducible first | refine Ev.seq ?_ | refine Ev.ops ?_ | refine NxE ?_ | refine BxN ?_ | refine BxX ?_ | refine NxX ?_ | refine NxR ?_ | refine BxR ?_ | refine Ev.block ?_ | refine Ev.skip ?_ | refine Ev.exit ?_ | refine Ev.ret ?_ | refine EvOps.nil ?_ | refine EvPlan.nil ?_
   | (with_reducible refine BxO ?_ ?_; · decide)
   )
  all_goals first
    | (exfalso; omega)
    | refine lfA (rl := [.tmp 6, .tmp 7]) rfl (hv := by
      simp only [packV, strip, stripAgg, stripCell, List.map_cons, List.map_nil]
      (rw [hpE, he, hcons (by omega), puL_syn (fun d hd => by first | (rw [dig_num (by omega) (by omega)] at hd; cases hd; omega) | (rw [dig_let (by omega) (by omega) (by omega)] at hd; cases hd; omega) | (rw [dig_no (by omega) (by omega)] at hd; cases hd))]; rfl)) (hp := (pure_puV _))
    | refine lfA (rl := [.tmp 6, .tmp 7]) rfl (hv := by
      simp only [packV, strip, stripAgg, stripCell, List.map_cons, List.map_nil]
      (rw [hpE, he, hcons (by omega)]; first | (rw [puL_rng (dig_num (by omega) (by omega)) (by omega) (by omega)]; rfl) | (rw [puL_rng (dig_let (by omega) (by omega) (by omega)) (by omega) (by omega)]; rfl))) (hp := (pure_puV _))
    | refine lfA (rl := [.tmp 6, .tmp 7]) rfl (hv := by
      simp only [packV, strip, stripAgg, stripCell, List.map_cons, List.map_nil]
      (rw [hpE, he, List.drop_of_length_le (by omega)]; rfl)) (hp := (pure_puV _))
    | (refine ⟨sx.length - (j + 1), by omega, rfl, j + 1, n * 10 + ((sx.getD j 0).toNat - 48), rfl, by omega, by omega, by rw [he, hcons (by omega), puL_go (dig_num (by omega) (by omega)) (by omega) (by omega)], ?_, ?_, ?_, ?_, ?_, ?_, ?_, ?_, ?_, ?_⟩ <;> simp only [↓evP, ↓tgP, ↓reduceIte, Nat.reduceEqDiff, reduceCtorEq, List.map_cons, List.map_nil, List.nil_append, List.append_nil, List.toList_toArray, c0, c1, c8, c10, c11, c12, c13, c99, c100, c101] <;> first | rfl | (congr 1; omega))
    | (refine ⟨sx.length - (j + 1), by omega, rfl, j + 1, n * 10 + ((sx.getD j 0 ||| 32).toNat - 87), rfl, by omega, by omega, by rw [he, hcons (by omega), puL_go (dig_let (by omega) (by omega) (by omega)) (by omega) (by omega)], ?_, ?_, ?_, ?_, ?_, ?_, ?_, ?_, ?_, ?_⟩ <;> simp only [↓evP, ↓tgP, ↓reduceIte, Nat.reduceEqDiff, reduceCtorEq, List.map_cons, List.map_nil, List.nil_append, List.append_nil, List.toList_toArray, c0, c1, c8, c10, c11, c12, c13, c99, c100, c101] <;> first | rfl | (congr 1; omega))

end Go.Proofs.YtklcmgodhpediaaGreatDoor.L
/- internal/strconv.ParseUint, base 16, 64 bits. -/
namespace Go.Proofs.YtklcmgodhpediaaGreatDoor.L
open Go Go.Vm Go.Proofs Go.Proofs.YtklcmgodhpediaaGreatDoor

set_option maxHeartbeats 16000000 in
theorem pu16_64 (sx : List UInt8) (hs : sx.length ≤ 1000000) (st : St) : FnS cx 99 [.str sx, .int .i64 16, .int .i64 64] st (puV (puE 16 18446744073709551615 sx)) st := by
  by_cases h0 : sx = []
  · subst h0
    refine goP Tryz.func99 rfl rfl rfl rfl ?_ ?_
    · rfl
    intro t ht
    have a0 : tget t 0 = .str [] := ht 0 _ rfl
    have a1 : tget t 1 = .int .i64 16 := ht 1 _ rfl
    have a2 : tget t 2 = .int .i64 64 := ht 2 _ rfl
    clear ht
    have ex := And.intro @a0 (And.intro @a1 (And.intro @a2 @mkI))
    repeat' (first
     | (with_reducible refine isO ?_); first | refine mvA (h := ?_) | refine asA (h := ?_) | refine quA (h := ?_)
     | (with_reducible refine isG ?_); first | refine stA (h := ?_) | refine srA (h := ?_) | refine swA (h := ?_) | refine s1A (h := ?_) | refine s0A (h := ?_) | refine sgA (h1 := fun _ => ?_) (h0 := fun _ => ?_) | refine sbA (h1 := fun _ => ?_) (h0 := fun _ => ?_)
     | (with_reducible refine isC ?_); first | refine ctA (h := ?_) | refine cfA (h := ?_) | refine cdA (h1 := fun _ => ?_) (h0 := fun _ => ?_) | refine cbA (h1 := fun _ => ?_) (h0 := fun _ => ?_)
     | with_reducible first | refine Ev.seq ?_ | refine Ev.ops ?_ | refine NxE ?_ | refine BxN ?_ | refine BxX ?_ | refine NxX ?_ | refine NxR ?_ | refine BxR ?_ | refine Ev.block ?_ | refine Ev.skip ?_ | refine Ev.exit ?_ | refine Ev.ret ?_ | refine EvOps.nil ?_ | refine EvPlan.nil ?_
     | (with_reducible refine BxO ?_ ?_; · decide)
     )
    all_goals refine lfA (rl := [.tmp 6, .tmp 7]) rfl (hv := by
      simp only [packV, strip, stripAgg, stripCell, List.map_cons, List.map_nil]
      (first | done | rfl)) (hp := rfl)
  refine goP Tryz.func99 rfl rfl rfl rfl ?_ ?_
  · rfl
  intro t ht
  have a0 : tget t 0 = .str sx := ht 0 _ rfl
  have a1 : tget t 1 = .int .i64 16 := ht 1 _ rfl
  have a2 : tget t 2 = .int .i64 64 := ht 2 _ rfl
  clear ht
  have ex := And.intro @a0 (And.intro @a1 (And.intro @a2 (And.intro @mkI @h0)))
  repeat' (first
   | (with_reducible refine isO ?_); first | refine mvA (h := ?_) | refine asA (h := ?_) | refine sCvB (by simp only [↓evP, ↓tgP, ↓reduceIte, Nat.reduceEqDiff, reduceCtorEq, List.map_cons, List.map_nil, List.nil_append, List.append_nil, List.toList_toArray, a0]; with_reducible rfl) (by omega) ?_ | refine quA (h := ?_)
   | (with_reducible refine isG ?_); first | refine stA (h := ?_) | refine srA (h := ?_) | refine swA (h := ?_) | refine s1A (h := ?_) | refine s0A (h := ?_) | refine sgA (h1 := fun _ => ?_) (h0 := fun _ => ?_) | refine sbA (h1 := fun _ => ?_) (h0 := fun _ => ?_)
   | (with_reducible refine isC ?_); first | refine ctA (h := ?_) | refine cfA (h := ?_) | refine cdA (h1 := fun _ => ?_) (h0 := fun _ => ?_) | refine cbA (h1 := fun _ => ?_) (h0 := fun _ => ?_)
   | with_reducible first | refine Ev.seq ?_ | refine Ev.ops ?_ | refine NxE ?_ | refine BxN ?_ | refine BxX ?_ | refine NxX ?_ | refine NxR ?_ | refine BxR ?_ | refine Ev.block ?_ | refine Ev.skip ?_ | refine Ev.exit ?_ | refine Ev.ret ?_ | refine EvOps.nil ?_ | refine EvPlan.nil ?_
   | (with_reducible refine BxO ?_ ?_; · decide)
   )
  refine loopT (fun r t st' => ∃ (j n : Nat), r = sx.length - j ∧ j ≤ sx.length ∧ n ≤ 18446744073709551615 ∧ puL 16 18446744073709551615 0 sx = puL 16 18446744073709551615 n (sx.drop j) ∧ tget t 0 = .str sx ∧ tget t 1 = .int .i64 16 ∧ tget t 8 = .bool false ∧ tget t 10 = .int .u64 1152921504606846976 ∧ tget t 11 = .int .u64 18446744073709551615 ∧ tget t 12 = .bool false ∧ tget t 13 = .int .u64 n ∧ tget t 99 = .sl (.own 0) (ofBytes sx) ∧ tget t 100 = .int .i64 sx.length ∧ tget t 101 = .int .i64 j) (n := sx.length) ?_ ?_
  · refine ⟨0, 0, by omega, by omega, by omega, by rw [List.drop_zero], ?_, ?_, ?_, ?_, ?_, ?_, ?_, ?_, ?_, ?_⟩
    all_goals (simp (disch := (first | assumption | omega)) only [↓opE, ↓evP, stE, binE, ldE, ↓tgP, ↓reduceIte, clE, ncE, szE, hgE, intBin, shiftBin, strBin, unV, indexAddrV, indexV, lenV, partV, isAggT, sliceV, boundsV, bndV, asIntV, fieldAddrV, fieldV, putAt, nilCheckV, makeIfaceV, stripAgg, stripCell, decide_eq_true_eq, beqD, bneD, notD, beqS, if_true, if_false, ite_true, ite_false, Bool.true_eq_false, Bool.false_eq_true, Nat.reduceEqDiff, Nat.reduceBEq, Nat.reduceAdd, Nat.reduceSub, Nat.reduceMul, Nat.min_def, Nat.reducePow, Nat.reduceLeDiff, Nat.reduceLT, Int.reduceEq, Int.reduceNe, Int.reduceLT, Int.reduceLE, Int.reduceToNat, Int.reduceAdd, Int.reduceSub, Int.reduceMul, Int.reducePow, Int.reduceNeg, Option.map_some, Option.map_none, Option.bind_some, Option.getD_some, Option.getD_none, ofBytes_length, ofBytes_get, ofBytes_take, ofBytes_drop, Int.toNat_natCast, Int.natCast_nonneg, and_self, true_and, and_true, List.getElem?_cons_zero, List.getElem?_cons_succ, decide_true, decide_false, Bool.not_true, Bool.not_false, List.getElem_toArray, List.getElem?_toArray, List.getElem_cons_succ, List.getElem_cons_zero, List.toList_toArray, List.map_cons, List.map_nil, List.take_succ_cons, List.take_zero, List.drop_succ_cons, List.drop_zero, List.length_cons, List.length_nil, List.nil_append, List.cons_append, List.append_nil, Nat.le_refl, Nat.zero_add, Nat.mul_one, Nat.add_zero, Nat.zero_lt_one, List.length_singleton, IntKind.bits, reduceCtorEq, not_true_eq_false, not_false_eq_true, ne_eq, if_pos, if_neg, wI64, wI32, wU8, wU16, wU32, wU64, Int.emod_eq_of_lt, Int.fdiv_eq_ediv_of_nonneg, Int.tdiv_eq_ediv_of_nonneg, Int.tmod_eq_emod_of_nonneg, tyE, Tryz.underlying68, Tryz.underlying83, cvE, bdE, a0, a1, a2]; try rfl)
  rintro r t st' ⟨j, n, rfl, hj, hn, he, c0, c1, c8, c10, c11, c12, c13, c99, c100, c101⟩
  have hpE : puE 16 18446744073709551615 sx = puL 16 18446744073709551615 0 sx := by unfold puE; rw [if_neg h0]
  have low95 : ∀ st, FnS cx 150 [.int .u8 95] st (.int .u8 127) st := fun st => lowS 95 st
  have hcons : j < sx.length → sx.drop j = sx.getD j 0 :: sx.drop (j + 1) := fun h => by rw [List.drop_eq_getElem_cons h]; simp [h]
  by_cases h95 : ((sx.getD j 0).toNat : Int) = 95
  · have hc95 : sx.getD j 0 = 95 := UInt8.toNat_inj.1 (by show (sx.getD j 0).toNat = 95; omega)
    have ex := And.intro @c0 (And.intro @c1 (And.intro @c8 (And.intro @c10 (And.intro @c11 (And.intro @c12 (And.intro @c13 (And.intro @c99 (And.intro @c100 (And.intro @c101 (And.intro @strAt (And.intro @mkI @h95)))))))))))
    repeat' (first
     | (with_reducible refine isO ?_); first | refine mvA (h := ?_) | refine asA (h := ?_) | refine quA (h := ?_) | refine caA (hc := low95 _) (h := ?_)
     | (with_reducible refine isG ?_); first | refine stA (h := ?_) | refine srA (h := ?_) | refine swA (h := ?_) | refine s1A (h := ?_) | refine s0A (h := ?_) | refine sgA (h1 := fun _ => ?_) (h0 := fun _ => ?_) | refine sbA (h1 := fun _ => ?_) (h0 := fun _ => ?_)
     | (with_reducible refine isC ?_); first | refine ctA (h := ?_) | refine cfA (h := ?_) | refine cdA (h1 := fun _ => ?_) (h0 := fun _ => ?_) | refine cbA (h1 := fun _ => ?_) (h0 := fun _ => ?_)
     | with_reducible first | refine Ev.seq ?_ | refine Ev.ops ?_ | refine NxE ?_ | refine BxN ?_ | refine BxX ?_ | refine NxX ?_ | refine NxR ?_ | refine BxR ?_ | refine Ev.block ?_ | refine Ev.skip ?_ | refine Ev.exit ?_ | refine Ev.ret ?_ | refine EvOps.nil ?_ | refine EvPlan.nil ?_
     | (with_reducible refine BxO ?_ ?_; · decide)
     )
    all_goals first
      | refine lfA (rl := [.tmp 6, .tmp 7]) rfl (hv := by
      simp only [packV, strip, stripAgg, stripCell, List.map_cons, List.map_nil]
      (rw [hpE, he, hcons (by omega), hc95]; rfl)) (hp := (pure_puV _))
      | refine lfA (rl := [.tmp 6, .tmp 7]) rfl (hv := by
      simp only [packV, strip, stripAgg, stripCell, List.map_cons, List.map_nil]
      (rw [hpE, he, List.drop_of_length_le (by omega)]; rfl)) (hp := (pure_puV _))
  have ex := And.intro @c0 (And.intro @c1 (And.intro @c8 (And.intro @c10 (And.intro @c11 (And.intro @c12 (And.intro @c13 (And.intro @c99 (And.intro @c100 (And.intro @c101 (And.intro @strAt (And.intro @mkI @h95)))))))))))
  repeat' (first
   | (with_reducible refine isO ?_); first | refine mvA (h := ?_) | refine asA (h := ?_) | refine quA (h := ?_) | refine caA (hc := lowS (sx.getD j 0) _) (h := ?_)
   | (with_reducible refine isG ?_); first | refine stA (h := ?_) | refine srA (h := ?_) | refine swA (h := ?_) | refine s1A (h := ?_) | refine s0A (h := ?_) | refine sgA (h1 := fun _ => ?_) (h0 := fun _ => ?_) | refine sbA (h1 := fun _ => ?_) (h0 := fun _ => ?_)
   | (with_reducible refine isC ?_); first | refine ctA (h := ?_) | refine cfA (h := ?_) | refine cdA (h1 := fun _ => ?_) (h0 := fun _ => ?_) | refine cbA (h1 := fun _ => ?_) (h0 := fun _ => ?_)
   | with_reducible first | refine Ev.seq ?_ | refine Ev.ops ?_ | refine NxE ?_ | refine BxN ?_ | refine BxX ?_ | refine NxX ?_ | refine NxR ?_ | refine BxR ?_ | refine Ev.block ?_ | refine Ev.skip ?_ | refine Ev.exit ?_ | refine Ev.ret ?_ | refine EvOps.nil ?_ | refine EvPlan.nil ?_
   | (with_reducible refine BxO ?_ ?_; · decide)
   )
  all_goals first
    | (exfalso; omega)
    | refine lfA (rl := [.tmp 6, .tmp 7]) rfl (hv := by
      simp only [packV, strip, stripAgg, stripCell, List.map_cons, List.map_nil]
      (rw [hpE, he, hcons (by omega), puL_syn (fun d hd => by first | (rw [dig_num (by omega) (by omega)] at hd; cases hd; omega) | (rw [dig_let (by omega) (by omega) (by omega)] at hd; cases hd; omega) | (rw [dig_no (by omega) (by omega)] at hd; cases hd))]; rfl)) (hp := (pure_puV _))
    | refine lfA (rl := [.tmp 6, .tmp 7]) rfl (hv := by
      simp only [packV, strip, stripAgg, stripCell, List.map_cons, List.map_nil]
      (rw [hpE, he, hcons (by omega)]; first | (rw [puL_rng (dig_num (by omega) (by omega)) (by omega) (by omega)]; rfl) | (rw [puL_rng (dig_let (by omega) (by omega) (by omega)) (by omega) (by omega)]; rfl))) (hp := (pure_puV _))
    | refine lfA (rl := [.tmp 6, .tmp 7]) rfl (hv := by
      simp only [packV, strip, stripAgg, stripCell, List.map_cons, List.map_nil]
      (rw [hpE, he, List.drop_of_length_le (by omega)]; rfl)) (hp := (pure_puV _))
    | (refine ⟨sx.length - (j + 1), by omega, rfl, j + 1, n * 16 + ((sx.getD j 0).toNat - 48), rfl, by omega, by omega, by rw [he, hcons (by omega), puL_go (dig_num (by omega) (by omega)) (by omega) (by omega)], ?_, ?_, ?_, ?_, ?_, ?_, ?_, ?_, ?_, ?_⟩ <;> simp only [↓evP, ↓tgP, ↓reduceIte, Nat.reduceEqDiff, reduceCtorEq, List.map_cons, List.map_nil, List.nil_append, List.append_nil, List.toList_toArray, c0, c1, c8, c10, c11, c12, c13, c99, c100, c101] <;> first | rfl | (congr 1; omega))
    | (refine ⟨sx.length - (j + 1), by omega, rfl, j + 1, n * 16 + ((sx.getD j 0 ||| 32).toNat - 87), rfl, by omega, by omega, by rw [he, hcons (by omega), puL_go (dig_let (by omega) (by omega) (by omega)) (by omega) (by omega)], ?_, ?_, ?_, ?_, ?_, ?_, ?_, ?_, ?_, ?_⟩ <;> simp only [↓evP, ↓tgP, ↓reduceIte, Nat.reduceEqDiff, reduceCtorEq, List.map_cons, List.map_nil, List.nil_append, List.append_nil, List.toList_toArray, c0, c1, c8, c10, c11, c12, c13, c99, c100, c101] <;> first | rfl | (congr 1; omega))

end Go.Proofs.YtklcmgodhpediaaGreatDoor.L
