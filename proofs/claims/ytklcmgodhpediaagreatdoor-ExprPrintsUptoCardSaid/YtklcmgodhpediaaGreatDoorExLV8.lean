/- Known functions in walks; bytes of numbers; addresses as texts. -/
import Derived.Test.YtklcmgodhpediaaGreatDoorExLP1
set_option linter.unusedSimpArgs false
set_option linter.unusedVariables false
set_option maxRecDepth 100000
namespace Go.Proofs.YtklcmgodhpediaaGreatDoor.L
open Go Go.Vm Go.Proofs Go.Proofs.YtklcmgodhpediaaGreatDoor

theorem textsOf_map : ∀ l : List (List UInt8), textsOf (l.map .str) = some l
  | [] => rfl
  | x :: l => by simp [textsOf, textsOf_map l]
theorem knownX {k : FuncId} {args : List V} {st : St} {v : V} (h : known k args = some v) : FnS cx k args st v st :=
  ⟨Fn.ofX (by show (known k args).map _ = _; rw [h]; rfl) ⟨rfl, rfl⟩⟩
theorem joinX {tip : Tip} {l : List (List UInt8)} {sep : List UInt8} {st : St} (h1 : (Lib.join l sep).length ≤ 1048576) (h2 : l.length ≤ 1048576) : FnS cx 37 [.sl tip (l.map .str), .str sep] st (.str (Lib.join l sep)) st :=
  knownX (by simp only [known, textsOf_map, Option.bind_some]; rw [if_pos ⟨h1, by simpa using h2⟩])
theorem splitX {sx : List UInt8} {c : UInt8} {st : St} (h : sx.length ≤ 1000000) : FnS cx 95 [.str sx, .str [c]] st (.sl .full ((splitC c sx).map .str)) st :=
  knownX (by simp only [known]; rw [if_pos (by omega)])
theorem itoaX {n : Int} {st : St} (h0 : 0 ≤ n) (h1 : n ≤ 1000000) : FnS cx 149 [.int .i64 n] st (.str (Lib.itoa n)) st :=
  knownX (by simp only [known]; rw [if_pos (by omega)])
theorem hasX {a b : List UInt8} {st : St} : FnS cx 78 [.str a, .str b] st (.bool (b.isPrefixOf a)) st := knownX rfl

def byteAt (x : Int) (i : Nat) : UInt8 := UInt8.ofNat (x / 2 ^ (8 * i) % 256).toNat
def bytesL (x : Int) : Nat → List UInt8
  | 0 => []
  | n + 1 => byteAt x n :: bytesL x n
def upTo (x : Int) (n j : Nat) : List UInt8 := (bytesL x n).take j
theorem bytesL_length (x : Int) : ∀ n, (bytesL x n).length = n
  | 0 => rfl
  | n + 1 => by simp [bytesL, bytesL_length x n]
theorem bytesL_get (x : Int) : ∀ n j, j < n → (bytesL x n)[j]? = some (byteAt x (n - 1 - j))
  | 0, j, h => by omega
  | n + 1, 0, h => by simp [bytesL]
  | n + 1, j + 1, h => by
    simp only [bytesL, List.getElem?_cons_succ]
    rw [bytesL_get x n j (by omega)]
    congr 2; omega
theorem upTo_succ (x : Int) {n j : Nat} (h : j < n) : upTo x n (j + 1) = upTo x n j ++ [byteAt x (n - 1 - j)] := by
  unfold upTo
  rw [List.take_add_one, bytesL_get x n j h]; rfl
theorem bytesL_low (x : Nat) : ∀ n, (bytesL x n).map (fun b => b.toNat) = lowBytes x n
  | 0 => rfl
  | n + 1 => by
    simp only [bytesL, lowBytes, List.map_cons, bytesL_low x n]
    congr 1
    unfold byteAt
    have e : ((x : Int) / 2 ^ (8 * n) % 256).toNat = x / 256 ^ n % 256 := by
      have : (2 : Int) ^ (8 * n) = ((256 ^ n : Nat) : Int) := by rw [Int.pow_mul]; norm_cast
      rw [this]
      norm_cast
    rw [e, ofNat_toNat' (Nat.mod_lt _ (by omega))]

/-! Rows that grow. -/
def accB (k : Nat) (l : List UInt8) : V := if l = [] then .sl .full [] else .sl (.own k) (ofBytes l)
def accS (k : Nat) (l : List (List UInt8)) : V := if l = [] then .sl .full [] else .sl (.own k) (l.map .str)
def accH {α : Type} (k : Nat) (l : List α) (H : List (Nat × Ob)) : List (Nat × Ob) := if l.isEmpty then H else (k, .tip 1) :: H
theorem accB_nil (k : Nat) : accB k [] = .sl .full [] := rfl
theorem accS_nil (k : Nat) : accS k [] = .sl .full [] := rfl
theorem accH_nil {α : Type} (k : Nat) (H : List (Nat × Ob)) : accH k ([] : List α) H = H := rfl
theorem bs1 (z : Int) : buildSliceV cx 104 1 [(0, .int .u8 z)] = some (.sl .full [.int .u8 z]) := by rfl
theorem bs2 (z y : Int) : buildSliceV cx 104 2 [(0, .int .u8 z), (1, .int .u8 y)] = some (.sl .full [.int .u8 z, .int .u8 y]) := by rfl
theorem bsS (z : List UInt8) : buildSliceV cx 74 1 [(0, .str z)] = some (.sl .full [.str z]) := by rfl
theorem cv8 (H : List (Nat × Ob)) (n : Int) : convV cx H 22 5 (.int .u64 n) = some (.int .u8 (IntKind.u8.wrap n)) := by simp only [convV, tyE]
theorem u8of (z : Int) (h0 : 0 ≤ z) (h1 : z < 256) : V.int .u8 z = .int .u8 (UInt8.ofNat z.toNat).toNat := by
  rw [ofNat_toNat' (by omega)]; congr 1; omega
theorem appB {a : List UInt8} {z : Int} {tip : Tip} {H : List (Nat × Ob)} {n k : Nat} (h0 : 0 ≤ z) (h1 : z < 256) (h2 : a.length ≤ 1000000) :
    appendV cx ⟨accH k a H, n⟩ 104 (accB k a) (.sl tip [.int .u8 z]) = some (accB n (a ++ [UInt8.ofNat z.toNat]), ⟨accH n (a ++ [UInt8.ofNat z.toNat]) H, n + 1⟩) := by
  have hz : zeroOk cx 5 1 = true := by decide +kernel
  have hb : byOf cx 5 = 1 := by decide +kernel
  have e1 : accB n (a ++ [UInt8.ofNat z.toNat]) = .sl (.own n) (ofBytes a ++ [.int .u8 z]) := by
    unfold accB; rw [if_neg (by simp), ← ofBytes_append]
    rw [u8of z h0 h1]; rfl
  have e2 : accH n (a ++ [UInt8.ofNat z.toNat]) H = (n, .tip 1) :: H := by unfold accH; rw [if_neg (by simp)]
  rw [e1, e2]
  cases a with
  | nil =>
    simp only [accB_nil, accH_nil, appendV, tyE, addedV, szE, ncE, List.isEmpty_cons, Bool.false_eq_true, if_false, hz, hb]
    rfl
  | cons c a =>
    have e3 : accB k (c :: a) = .sl (.own k) (ofBytes (c :: a)) := rfl
    have e4 : accH k (c :: a) H = (k, .tip 1) :: H := rfl
    have hc : 0 < 1 ∧ True ∧ True ∧ ((ofBytes (c :: a)).length + 1) * 1 ≤ 2 ^ 47 ∧ (ofBytes (c :: a)).length + 1 ≤ 2 ^ 47 := by
      rw [ofBytes_length]
      simp only [List.length_cons] at h2
      refine ⟨by omega, trivial, trivial, ?_, ?_⟩ <;> simp <;> omega
    rw [e3, e4]
    simp only [appendV, tyE, addedV, szE, ncE, List.isEmpty_cons, Bool.false_eq_true, if_false, hz, hb, beq_self_eq_true, if_true, List.length_singleton]
    rw [if_pos hc]
    simp only [hgE, beq_self_eq_true, if_true, hdel]
    rfl
theorem appS {a : List (List UInt8)} {z : List UInt8} {tip : Tip} {H : List (Nat × Ob)} {n k : Nat} (h2 : a.length ≤ 1000000) :
    appendV cx ⟨accH k a H, n⟩ 74 (accS k a) (.sl tip [.str z]) = some (accS n (a ++ [z]), ⟨accH n (a ++ [z]) H, n + 1⟩) := by
  have hz : zeroOk cx 9 1 = true := by decide +kernel
  have hb : byOf cx 9 = 16 := by decide +kernel
  have e1 : accS n (a ++ [z]) = .sl (.own n) (a.map .str ++ [.str z]) := by
    unfold accS; rw [if_neg (by simp), List.map_append]; rfl
  have e2 : accH n (a ++ [z]) H = (n, .tip 1) :: H := by unfold accH; rw [if_neg (by simp)]
  rw [e1, e2]
  cases a with
  | nil =>
    simp only [accS_nil, accH_nil, appendV, tyE, addedV, szE, ncE, List.isEmpty_cons, Bool.false_eq_true, if_false, hz, hb]
    rfl
  | cons c a =>
    have e3 : accS k (c :: a) = .sl (.own k) ((c :: a).map .str) := rfl
    have e4 : accH k (c :: a) H = (k, .tip 1) :: H := rfl
    have hc : 0 < 1 ∧ szOk 1 ((c :: a).map V.str) = true ∧ True ∧ (((c :: a).map V.str).length + 1) * 16 ≤ 2 ^ 47 ∧ ((c :: a).map V.str).length + 1 ≤ 2 ^ 47 := by
      rw [List.length_map]
      simp only [List.length_cons] at h2
      refine ⟨by omega, rfl, trivial, ?_, ?_⟩ <;> simp <;> omega
    rw [e3, e4]
    simp only [appendV, tyE, addedV, szE, ncE, List.isEmpty_cons, Bool.false_eq_true, if_false, hz, hb, beq_self_eq_true, if_true, List.length_singleton]
    rw [if_pos hc]
    simp only [hgE, beq_self_eq_true, if_true, hdel]
    rfl
theorem fdiv2 (x : Int) (n : Nat) : Int.fdiv x (2 ^ n) = x / 2 ^ n := Int.fdiv_eq_ediv_of_nonneg _ (Int.le_of_lt (Int.pow_pos (by omega)))
theorem joinA {k : Nat} {l : List (List UInt8)} {sep : List UInt8} {st : St} (h1 : (Lib.join l sep).length ≤ 1048576) (h2 : l.length ≤ 1048576) : FnS cx 37 [accS k l, .str sep] st (.str (Lib.join l sep)) st := by
  cases l with
  | nil => exact joinX (tip := .full) (l := []) h1 h2
  | cons x l => exact joinX h1 h2

set_option maxHeartbeats 4000000 in
theorem putF (H : List (Nat × Ob)) (n : Nat) (hH : hdrop n H = H) (x : Int) (hx : 0 ≤ x) (m : Nat) (hm1 : 1 ≤ m) (hm : m ≤ 8) :
    FnS cx 148 [.sl .full [], .int .u64 x, .int .i64 m] ⟨H, n⟩ (.sl (.own (n + m - 1)) (ofBytes (bytesL x m))) ⟨(n + m - 1, .tip 1) :: H, n + m⟩ := by
  refine goS Tryz.func148 rfl rfl rfl rfl ?_
  intro t ht
  have a0 : tget t 0 = .sl .full [] := ht 0 _ rfl
  have a1 : tget t 1 = .int .u64 x := ht 1 _ rfl
  have a2 : tget t 2 = .int .i64 m := ht 2 _ rfl
  clear ht
  have ex := And.intro @a0 (And.intro @a1 @a2)
  repeat' (first
   | (with_reducible refine isO ?_); first | refine mvA (h := ?_) | refine asA (h := ?_) | refine quA (h := ?_) | refine waA (h := ?_)
   | (with_reducible refine isC ?_); first | refine ctA (h := ?_) | refine cfA (h := ?_) | refine cdA (h1 := fun _ => ?_) (h0 := fun _ => ?_) | refine cbA (h1 := fun _ => ?_) (h0 := fun _ => ?_)
   | with_reducible first | refine Ev.seq ?_ | refine Ev.ops ?_ | refine NxE ?_ | refine BxN ?_ | refine BxX ?_ | refine NxX ?_ | refine NxR ?_ | refine BxR ?_ | refine Ev.block ?_ | refine Ev.skip ?_ | refine Ev.exit ?_ | refine Ev.ret ?_ | refine EvOps.nil ?_ | refine EvPlan.nil ?_
   | (with_reducible refine BxO ?_ ?_; · decide)
   )
  refine loopT (fun r t st => r ≤ m ∧ tget t 0 = accB (n + (m - r) - 1) (upTo x m (m - r)) ∧ tget t 1 = .int .u64 x ∧ tget t 7 = .int .i64 ((r : Int) - 1) ∧ st = ⟨accH (n + (m - r) - 1) (upTo x m (m - r)) H, n + (m - r)⟩) (n := m) ?_ ?_
  · refine ⟨Nat.le_refl _, ?_, ?_, ?_, ?_⟩
    · simp only [↓evP, ↓tgP, ↓reduceIte, Nat.reduceEqDiff, reduceCtorEq, List.map_cons, List.map_nil, List.nil_append, List.append_nil, List.toList_toArray, a0]; simp [upTo, accB_nil]
    · simp only [↓evP, ↓tgP, ↓reduceIte, Nat.reduceEqDiff, reduceCtorEq, List.map_cons, List.map_nil, List.nil_append, List.append_nil, List.toList_toArray, a1]
    · simp only [↓evP, ↓tgP, ↓reduceIte, Nat.reduceEqDiff, reduceCtorEq, List.map_cons, List.map_nil, List.nil_append, List.append_nil, List.toList_toArray, a0]
    · simp [upTo, accH_nil]
  rintro r t st ⟨hr, c0, c1, c7, rfl⟩
  have hlen : (upTo x m (m - r)).length ≤ 1000000 := by simp [upTo, bytesL_length]; omega
  have ex := And.intro @c0 (And.intro @c1 (And.intro @c7 (And.intro @cv8 (And.intro @bs1 (And.intro @appB @fdiv2)))))
  repeat' (first
   | (with_reducible refine isO ?_); first | refine mvA (h := ?_) | refine asA (h := ?_) | refine quA (h := ?_) | refine waA (h := ?_)
   | (with_reducible refine isC ?_); first | refine ctA (h := ?_) | refine cfA (h := ?_) | refine cdA (h1 := fun _ => ?_) (h0 := fun _ => ?_) | refine cbA (h1 := fun _ => ?_) (h0 := fun _ => ?_)
   | with_reducible first | refine Ev.seq ?_ | refine Ev.ops ?_ | refine NxE ?_ | refine BxN ?_ | refine BxX ?_ | refine NxX ?_ | refine NxR ?_ | refine BxR ?_ | refine Ev.block ?_ | refine Ev.skip ?_ | refine Ev.exit ?_ | refine Ev.ret ?_ | refine EvOps.nil ?_ | refine EvPlan.nil ?_
   | (with_reducible refine BxO ?_ ?_; · decide)
   )
  · have e1 : (8 * ((r : Int) - 1)).toNat = 8 * (m - 1 - (m - r)) := by omega
    have e2 : upTo x m (m - (r - 1)) = upTo x m (m - r) ++ [byteAt x (m - 1 - (m - r))] := by
      rw [show m - (r - 1) = (m - r) + 1 by omega]; exact upTo_succ x (by omega)
    refine ⟨r - 1, by omega, rfl, by omega, ?_, ?_, ?_, ?_⟩
    · simp only [↓evP, ↓tgP, ↓reduceIte, Nat.reduceEqDiff, reduceCtorEq, List.map_cons, List.map_nil, List.nil_append, List.append_nil, List.toList_toArray, c0]
      rw [e1, e2, show n + (m - (r - 1)) - 1 = n + (m - r) by omega]; rfl
    · simp only [↓evP, ↓tgP, ↓reduceIte, Nat.reduceEqDiff, reduceCtorEq, List.map_cons, List.map_nil, List.nil_append, List.append_nil, List.toList_toArray, c1]
    · simp only [↓evP, ↓tgP, ↓reduceIte, Nat.reduceEqDiff, reduceCtorEq, List.map_cons, List.map_nil, List.nil_append, List.append_nil, List.toList_toArray, c7]
      congr 1; omega
    · rw [e1, e2, show n + (m - (r - 1)) - 1 = n + (m - r) by omega, show n + (m - r) + 1 = n + (m - (r - 1)) by omega]; rfl
  · obtain rfl : r = 0 := by omega
    have e : upTo x m (m - 0) = bytesL x m := by unfold upTo; rw [List.take_of_length_le (by rw [bytesL_length]; omega)]
    have h0 : bytesL x m ≠ [] := by intro h; have := bytesL_length x m; rw [h] at this; simp at this; omega
    have e2 : accB (n + (m - 0) - 1) (bytesL x m) = .sl (.own (n + m - 1)) (ofBytes (bytesL x m)) := by unfold accB; rw [if_neg h0]; rfl
    have e3 : accH (n + (m - 0) - 1) (bytesL x m) H = (n + m - 1, .tip 1) :: H := by unfold accH; rw [if_neg (by simpa using h0)]; rfl
    refine leafS (vs := [accB (n + (m - 0) - 1) (upTo x m (m - 0))]) (by simp (disch := (first | assumption | omega)) only [↓opE, ↓evP, stE, binE, ldE, ↓tgP, ↓reduceIte, clE, ncE, szE, hgE, intBin, shiftBin, strBin, unV, indexAddrV, indexV, lenV, partV, isAggT, sliceV, boundsV, bndV, asIntV, fieldAddrV, fieldV, putAt, nilCheckV, makeIfaceV, stripAgg, stripCell, decide_eq_true_eq, beqD, bneD, notD, beqS, if_true, if_false, ite_true, ite_false, Bool.true_eq_false, Bool.false_eq_true, Nat.reduceEqDiff, Nat.reduceBEq, Nat.reduceAdd, Nat.reduceSub, Nat.reduceMul, Nat.min_def, Nat.reducePow, Nat.reduceLeDiff, Nat.reduceLT, Int.reduceEq, Int.reduceNe, Int.reduceLT, Int.reduceLE, Int.reduceToNat, Int.reduceAdd, Int.reduceSub, Int.reduceMul, Int.reducePow, Int.reduceNeg, Option.map_some, Option.map_none, Option.bind_some, Option.getD_some, Option.getD_none, ofBytes_length, ofBytes_get, ofBytes_take, ofBytes_drop, Int.toNat_natCast, Int.natCast_nonneg, and_self, true_and, and_true, List.getElem?_cons_zero, List.getElem?_cons_succ, decide_true, decide_false, Bool.not_true, Bool.not_false, List.getElem_toArray, List.getElem?_toArray, List.getElem_cons_succ, List.getElem_cons_zero, List.toList_toArray, List.map_cons, List.map_nil, List.take_succ_cons, List.take_zero, List.drop_succ_cons, List.drop_zero, List.length_cons, List.length_nil, List.nil_append, List.cons_append, List.append_nil, Nat.le_refl, Nat.zero_add, Nat.mul_one, Nat.add_zero, Nat.zero_lt_one, List.length_singleton, IntKind.bits, reduceCtorEq, not_true_eq_false, not_false_eq_true, ne_eq, if_pos, if_neg, wI64, wI32, wU8, wU16, wU32, wU64, Int.emod_eq_of_lt, Int.fdiv_eq_ediv_of_nonneg, Int.tdiv_eq_ediv_of_nonneg, Int.tmod_eq_emod_of_nonneg, tyE, Tryz.underlying68, Tryz.underlying83, cvE, bdE, resultsV, show Tryz.f148.results.toList = [.tmp 6] from rfl]) ?_
    rw [e, e2, e3]
    simp only [leaveV, packV, show cx.grow 148 = true from rfl, show cx.keep 148 = false from rfl, show cx.frz 148 = false from rfl, if_false, if_true, Bool.false_eq_true, hgE, beq_self_eq_true, hdrop]
    rw [if_pos (by omega), if_pos (by omega), hH, Nat.sub_zero]
theorem put6 (x : Int) (hx : 0 ≤ x) : FnS cx 148 [.sl .full [], .int .u64 x, .int .i64 6] ⟨[], 0⟩ (.sl (.own 5) (ofBytes (bytesL x 6))) ⟨[(5, .tip 1)], 6⟩ := putF [] 0 rfl x hx 6 (by omega) (by omega)
theorem put4 (x : Int) (hx : 0 ≤ x) : FnS cx 148 [.sl .full [], .int .u64 x, .int .i64 4] ⟨[], 0⟩ (.sl (.own 3) (ofBytes (bytesL x 4))) ⟨[(3, .tip 1)], 4⟩ := putF [] 0 rfl x hx 4 (by omega) (by omega)

/-! Texts. -/
theorem hexAt : ∀ n : Fin 16, ([48, 49, 50, 51, 52, 53, 54, 55, 56, 57, 97, 98, 99, 100, 101, 102] : List UInt8)[n.val]? = some (hexD n.val) := by decide +kernel
theorem hexI {x : Int} (h0 : 0 ≤ x) (h1 : x < 16) : ([48, 49, 50, 51, 52, 53, 54, 55, 56, 57, 97, 98, 99, 100, 101, 102] : List UInt8)[x.toNat]? = some (hexD x.toNat) := hexAt ⟨x.toNat, by omega⟩
theorem hexN {n : Nat} (h1 : n < 16) : ([48, 49, 50, 51, 52, 53, 54, 55, 56, 57, 97, 98, 99, 100, 101, 102] : List UInt8)[n]? = some (hexD n) := hexAt ⟨n, h1⟩
theorem cv53 (H : List (Nat × Ob)) (n : Int) : convV cx H 5 3 (.int .u8 n) = some (.int .i64 (IntKind.i64.wrap n)) := by simp only [convV, tyE]
theorem joinLen {c : UInt8} {l : List (List UInt8)} (h : ∀ x ∈ l, x.length ≤ 21) (hl : l.length ≤ 6) : (Lib.join l [c]).length ≤ 1048576 := by
  have key : ∀ (l : List (List UInt8)), (∀ x ∈ l, x.length ≤ 21) → Lib.lens l ≤ 21 * l.length := by
    intro l
    induction l with
    | nil => intro _; exact Nat.le_refl _
    | cons x l ih =>
      intro h
      have h1 := h x (by simp)
      have h2 := ih fun y hy => h y (by simp [hy])
      unfold Lib.lens at h2 ⊢
      simp only [List.map_cons, List.sum_cons, List.length_cons]
      omega
  cases l with
  | nil => simp [Lib.join_nil]
  | cons x l =>
    rw [Lib.join_length]
    have := key _ h
    simp only [List.length_cons, List.length_nil] at *
    omega
theorem itoa_len {b : Nat} (h : b < 256) : (Lib.itoa (b : Int)).length ≤ 21 := by
  rw [itoa_nat]
  by_cases h1 : b < 10
  · rw [decD_small h1]; simp
  · rw [decD_big h1]
    by_cases h2 : b / 10 < 10
    · rw [decD_small h2]; simp
    · rw [decD_big h2, decD_small (by omega)]; simp
theorem and15 : ∀ b : Fin 256, ((BitVec.ofInt 8 (b.val : Int) &&& BitVec.ofInt 8 15).toNat : Int) = (b.val % 16 : Nat) := by decide +kernel
theorem andI (b : UInt8) : IntKind.u8.wrap ((BitVec.ofInt IntKind.u8.bits (b.toNat : Int) &&& BitVec.ofInt IntKind.u8.bits 15).toNat : Int) = (b.toNat % 16 : Nat) := by
  have h : ((BitVec.ofInt IntKind.u8.bits (b.toNat : Int) &&& BitVec.ofInt IntKind.u8.bits 15).toNat : Int) = (b.toNat % 16 : Nat) := and15 ⟨b.toNat, b.toNat_lt⟩
  rw [h, wU8]
  omega
theorem cvT (H : List (Nat × Ob)) (tip : Tip) (x y : UInt8) : convV cx H 104 9 (.sl tip [.int .u8 x.toNat, .int .u8 y.toNat]) = some (.str [x, y]) := by
  simp only [convV, tyE, isU8, toBytes, Option.map_some, if_true]
  simp
set_option maxHeartbeats 8000000 in
theorem macTextS (x : Nat) (hx : x < 18446744073709551616) (st : St) : FnS cx 96 [.int .u64 x] st (.str (macText x)) st := by
  refine goP Tryz.func96 rfl rfl rfl rfl ?_ ?_
  · rfl
  intro t ht
  have a0 : tget t 0 = .int .u64 x := ht 0 _ rfl
  clear ht
  have hL : (bytesL x 6).length = 6 := bytesL_length _ _
  have hw : (x : Int) % 18446744073709551616 = x := Int.emod_eq_of_lt (by omega) (by omega)
  have ex := And.intro @a0 (And.intro @hw @hL)
  repeat' (first
   | (with_reducible refine isO ?_); first | refine mvA (h := ?_) | refine asA (h := ?_) | refine quA (h := ?_) | refine caA (hc := put6 _ (by omega)) (h := ?_)
   | (with_reducible refine isP ?_); first | refine dqA (h := ?_) | refine dwA (i := 10) (l := []) (h := ?_) | refine dlA (i := 11) (l := []) (h := ?_)
   | (with_reducible refine isC ?_); first | refine ctA (h := ?_) | refine cfA (h := ?_) | refine cdA (h1 := fun _ => ?_) (h0 := fun _ => ?_) | refine cbA (h1 := fun _ => ?_) (h0 := fun _ => ?_)
   | (with_reducible refine isR ?_); first
     | refine Ev.drawn (by decide +kernel) (l := [0, 1, 2, 3, 4, 5, 6, 7, 8, 9, 10, 11]) (by decide +kernel) ?_
   | with_reducible first | refine Ev.seq ?_ | refine Ev.ops ?_ | refine NxE ?_ | refine BxN ?_ | refine BxX ?_ | refine NxX ?_ | refine NxR ?_ | refine BxR ?_ | refine Ev.block ?_ | refine Ev.skip ?_ | refine Ev.exit ?_ | refine Ev.ret ?_ | refine EvOps.nil ?_ | refine EvPlan.nil ?_
   | (with_reducible refine BxO ?_ ?_; · decide)
   )
  generalize hl : bytesL x 6 = l at *
  refine loopT (fun r t st => ∃ j kj, r = 6 - j ∧ j ≤ 6 ∧ 6 - 1 ≤ kj ∧ kj < 6 + j ∧ tget t 3 = accS kj ((l.take j).map (fun (b : UInt8) => [hexD (b.toNat / 16), hexD (b.toNat % 16)])) ∧ tget t 7 = .sl (.own 5) (ofBytes l) ∧ tget t 8 = .int .i64 6 ∧ tget t 9 = .int .i64 j ∧ st = ⟨accH kj ((l.take j).map (fun (b : UInt8) => [hexD (b.toNat / 16), hexD (b.toNat % 16)])) [(5, .tip 1)], 6 + j⟩) (n := 6) ?_ ?_
  · refine ⟨0, 5, rfl, by omega, by omega, by omega, ?_, ?_, ?_, ?_, ?_⟩
    · simp only [↓evP, ↓tgP, ↓reduceIte, Nat.reduceEqDiff, reduceCtorEq, List.map_cons, List.map_nil, List.nil_append, List.append_nil, List.toList_toArray, a0]; rfl
    · simp only [↓evP, ↓tgP, ↓reduceIte, Nat.reduceEqDiff, reduceCtorEq, List.map_cons, List.map_nil, List.nil_append, List.append_nil, List.toList_toArray, a0]
    · simp only [↓evP, ↓tgP, ↓reduceIte, Nat.reduceEqDiff, reduceCtorEq, List.map_cons, List.map_nil, List.nil_append, List.append_nil, List.toList_toArray, a0]; first | done | rfl
    · simp only [↓evP, ↓tgP, ↓reduceIte, Nat.reduceEqDiff, reduceCtorEq, List.map_cons, List.map_nil, List.nil_append, List.append_nil, List.toList_toArray, a0]; first | done | rfl
    · rfl
  rintro r t st ⟨j, kj, rfl, hj, hk1, hk2, c3, c7, c8, c9, rfl⟩
  have hlen : ((l.take j).map (fun (b : UInt8) => [hexD (b.toNat / 16), hexD (b.toNat % 16)])).length ≤ 1000000 := by simp; omega
  have hb : (l.getD j 0).toNat < 256 := (l.getD j 0).toNat_lt
  have ex := And.intro @c3 (And.intro @c7 (And.intro @c8 (And.intro @c9 (And.intro @strAt (And.intro @bs2 (And.intro @bsS (And.intro @appS (And.intro @cvT (And.intro @hexI @hexN)))))))))
  have exd := @andI
  repeat' (first
   | (with_reducible refine isO ?_); first | refine mvA (h := ?_) | refine asA (h := ?_) | refine quA (h := ?_) | refine caA (hc := joinA (joinLen (fun y hy => by obtain ⟨b, _, rfl⟩ := List.mem_map.1 hy; simp) (by simp; omega)) (by omega)) (h := ?_)
   | (with_reducible refine isP ?_); first | refine dqA (h := ?_) | refine dwA (i := 10) (l := []) (h := ?_) | refine dlA (i := 11) (l := []) (h := ?_)
   | (with_reducible refine isC ?_); first | refine ctA (h := ?_) | refine cfA (h := ?_) | refine cdA (h1 := fun _ => ?_) (h0 := fun _ => ?_) | refine cbA (h1 := fun _ => ?_) (h0 := fun _ => ?_)
   | (with_reducible refine isR ?_); first
     | refine Ev.drawn (by decide +kernel) (l := [0, 1, 2, 3, 4, 5, 6, 7, 8, 9, 10, 11]) (by decide +kernel) ?_
   | with_reducible first | refine Ev.seq ?_ | refine Ev.ops ?_ | refine NxE ?_ | refine BxN ?_ | refine BxX ?_ | refine NxX ?_ | refine NxR ?_ | refine BxR ?_ | refine Ev.block ?_ | refine Ev.skip ?_ | refine Ev.exit ?_ | refine Ev.ret ?_ | refine EvOps.nil ?_ | refine EvPlan.nil ?_
   | (with_reducible refine BxO ?_ ?_; · decide)
   )
  all_goals first
    | (refine ⟨6 - (j + 1), by omega, rfl, j + 1, 6 + j, rfl, by omega, by omega, by omega, ?_, ?_, ?_, ?_, ?_⟩
       · simp only [↓evP, ↓tgP, ↓reduceIte, Nat.reduceEqDiff, reduceCtorEq, List.map_cons, List.map_nil, List.nil_append, List.append_nil, List.toList_toArray, c3, c7, c8, c9]
         have e : l.take (j + 1) = l.take j ++ [l.getD j 0] := by rw [List.take_add_one, strAt (by omega)]; rfl
         rw [e, List.map_append]; first | rfl | simp
       · simp only [↓evP, ↓tgP, ↓reduceIte, Nat.reduceEqDiff, reduceCtorEq, List.map_cons, List.map_nil, List.nil_append, List.append_nil, List.toList_toArray, c3, c7, c8, c9]
       · simp only [↓evP, ↓tgP, ↓reduceIte, Nat.reduceEqDiff, reduceCtorEq, List.map_cons, List.map_nil, List.nil_append, List.append_nil, List.toList_toArray, c3, c7, c8, c9]
       · simp only [↓evP, ↓tgP, ↓reduceIte, Nat.reduceEqDiff, reduceCtorEq, List.map_cons, List.map_nil, List.nil_append, List.append_nil, List.toList_toArray, c3, c7, c8, c9]; first | rfl | (congr 1; omega)
       · have e : l.take (j + 1) = l.take j ++ [l.getD j 0] := by rw [List.take_add_one, strAt (by omega)]; rfl
         rw [e, List.map_append]; first | rfl | simp)
    | refine lfA (rl := [.tmp 2]) rfl (hv := by
      simp only [packV, strip, stripAgg, stripCell, List.map_cons, List.map_nil]
      (obtain rfl : j = 6 := by omega); (rw [List.take_of_length_le (by omega)]; unfold macText; rw [← bytesL_low x 6, hl, List.map_map]; rfl)) (hp := rfl)

set_option maxHeartbeats 8000000 in
theorem addrTextS (x : Nat) (hx : x < 4294967296) (st : St) : FnS cx 97 [.int .u32 x] st (.str (addrText x)) st := by
  refine goP Tryz.func97 rfl rfl rfl rfl ?_ ?_
  · rfl
  intro t ht
  have a0 : tget t 0 = .int .u32 x := ht 0 _ rfl
  clear ht
  have hL : (bytesL x 4).length = 4 := bytesL_length _ _
  have hw : (x : Int) % 18446744073709551616 = x := Int.emod_eq_of_lt (by omega) (by omega)
  have ex := And.intro @a0 (And.intro @hw @hL)
  repeat' (first
   | (with_reducible refine isO ?_); first | refine mvA (h := ?_) | refine asA (h := ?_) | refine quA (h := ?_) | refine waA (h := ?_) | refine caA (hc := put4 _ (by omega)) (h := ?_)
   | (with_reducible refine isC ?_); first | refine ctA (h := ?_) | refine cfA (h := ?_) | refine cdA (h1 := fun _ => ?_) (h0 := fun _ => ?_) | refine cbA (h1 := fun _ => ?_) (h0 := fun _ => ?_)
   | with_reducible first | refine Ev.seq ?_ | refine Ev.ops ?_ | refine NxE ?_ | refine BxN ?_ | refine BxX ?_ | refine NxX ?_ | refine NxR ?_ | refine BxR ?_ | refine Ev.block ?_ | refine Ev.skip ?_ | refine Ev.exit ?_ | refine Ev.ret ?_ | refine EvOps.nil ?_ | refine EvPlan.nil ?_
   | (with_reducible refine BxO ?_ ?_; · decide)
   )
  generalize hl : bytesL x 4 = l at *
  refine loopT (fun r t st => ∃ j kj, r = 4 - j ∧ j ≤ 4 ∧ 4 - 1 ≤ kj ∧ kj < 4 + j ∧ tget t 3 = accS kj ((l.take j).map (fun (b : UInt8) => Lib.itoa b.toNat)) ∧ tget t 8 = .sl (.own 3) (ofBytes l) ∧ tget t 9 = .int .i64 4 ∧ tget t 10 = .int .i64 j ∧ st = ⟨accH kj ((l.take j).map (fun (b : UInt8) => Lib.itoa b.toNat)) [(3, .tip 1)], 4 + j⟩) (n := 4) ?_ ?_
  · refine ⟨0, 3, rfl, by omega, by omega, by omega, ?_, ?_, ?_, ?_, ?_⟩
    · simp only [↓evP, ↓tgP, ↓reduceIte, Nat.reduceEqDiff, reduceCtorEq, List.map_cons, List.map_nil, List.nil_append, List.append_nil, List.toList_toArray, a0]; rfl
    · simp only [↓evP, ↓tgP, ↓reduceIte, Nat.reduceEqDiff, reduceCtorEq, List.map_cons, List.map_nil, List.nil_append, List.append_nil, List.toList_toArray, a0]
    · simp only [↓evP, ↓tgP, ↓reduceIte, Nat.reduceEqDiff, reduceCtorEq, List.map_cons, List.map_nil, List.nil_append, List.append_nil, List.toList_toArray, a0]; first | done | rfl
    · simp only [↓evP, ↓tgP, ↓reduceIte, Nat.reduceEqDiff, reduceCtorEq, List.map_cons, List.map_nil, List.nil_append, List.append_nil, List.toList_toArray, a0]; first | done | rfl
    · rfl
  rintro r t st ⟨j, kj, rfl, hj, hk1, hk2, c3, c7, c8, c9, rfl⟩
  have hlen : ((l.take j).map (fun (b : UInt8) => Lib.itoa b.toNat)).length ≤ 1000000 := by simp; omega
  have hb : (l.getD j 0).toNat < 256 := (l.getD j 0).toNat_lt
  have ex := And.intro @c3 (And.intro @c7 (And.intro @c8 (And.intro @c9 (And.intro @strAt (And.intro @bs1 (And.intro @bsS (And.intro @appS @cv53)))))))
  repeat' (first
   | (with_reducible refine isO ?_); first | refine mvA (h := ?_) | refine asA (h := ?_) | refine quA (h := ?_) | refine waA (h := ?_) | refine caA (hc := itoaX (by omega) (by omega)) (h := ?_) | refine caA (hc := joinA (joinLen (fun y hy => by obtain ⟨b, _, rfl⟩ := List.mem_map.1 hy; exact itoa_len b.toNat_lt) (by simp; omega)) (by omega)) (h := ?_)
   | (with_reducible refine isC ?_); first | refine ctA (h := ?_) | refine cfA (h := ?_) | refine cdA (h1 := fun _ => ?_) (h0 := fun _ => ?_) | refine cbA (h1 := fun _ => ?_) (h0 := fun _ => ?_)
   | with_reducible first | refine Ev.seq ?_ | refine Ev.ops ?_ | refine NxE ?_ | refine BxN ?_ | refine BxX ?_ | refine NxX ?_ | refine NxR ?_ | refine BxR ?_ | refine Ev.block ?_ | refine Ev.skip ?_ | refine Ev.exit ?_ | refine Ev.ret ?_ | refine EvOps.nil ?_ | refine EvPlan.nil ?_
   | (with_reducible refine BxO ?_ ?_; · decide)
   )
  all_goals first
    | (refine ⟨4 - (j + 1), by omega, rfl, j + 1, 4 + j, rfl, by omega, by omega, by omega, ?_, ?_, ?_, ?_, ?_⟩
       · simp only [↓evP, ↓tgP, ↓reduceIte, Nat.reduceEqDiff, reduceCtorEq, List.map_cons, List.map_nil, List.nil_append, List.append_nil, List.toList_toArray, c3, c7, c8, c9]
         have e : l.take (j + 1) = l.take j ++ [l.getD j 0] := by rw [List.take_add_one, strAt (by omega)]; rfl
         rw [e, List.map_append]; first | rfl | simp
       · simp only [↓evP, ↓tgP, ↓reduceIte, Nat.reduceEqDiff, reduceCtorEq, List.map_cons, List.map_nil, List.nil_append, List.append_nil, List.toList_toArray, c3, c7, c8, c9]
       · simp only [↓evP, ↓tgP, ↓reduceIte, Nat.reduceEqDiff, reduceCtorEq, List.map_cons, List.map_nil, List.nil_append, List.append_nil, List.toList_toArray, c3, c7, c8, c9]
       · simp only [↓evP, ↓tgP, ↓reduceIte, Nat.reduceEqDiff, reduceCtorEq, List.map_cons, List.map_nil, List.nil_append, List.append_nil, List.toList_toArray, c3, c7, c8, c9]; first | rfl | (congr 1; omega)
       · have e : l.take (j + 1) = l.take j ++ [l.getD j 0] := by rw [List.take_add_one, strAt (by omega)]; rfl
         rw [e, List.map_append]; first | rfl | simp)
    | refine lfA (rl := [.tmp 2]) rfl (hv := by
      simp only [packV, strip, stripAgg, stripCell, List.map_cons, List.map_nil]
      (obtain rfl : j = 4 := by omega); (rw [List.take_of_length_le (by omega)]; unfold addrText; rw [← bytesL_low x 4, hl, List.map_map]; rfl)) (hp := rfl)

end Go.Proofs.YtklcmgodhpediaaGreatDoor.L
