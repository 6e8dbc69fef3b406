/- The reader: spans, ends, tokens taken. -/
import Derived.Test.YtmdiieignlidhaaDoorLexV4
set_option linter.unusedSimpArgs false
set_option linter.unusedVariables false
set_option maxRecDepth 100000
namespace Go.Proofs.YtmdiieignlidhaaDoor
open Go Go.Vm Go.Proofs

theorem strAt {s : List UInt8} {i : Nat} (h : i < s.length) : s[i]? = some (s.getD i 0) := by
  rw [List.getElem?_eq_getElem h]; simp [h]

/-- How many bytes from a place on are of a kind. -/
def spanN (p : Int → Bool) (s : List UInt8) (i : Nat) : Nat := ((s.drop i).takeWhile fun b => p b.toNat).length

theorem spanN_end (p : Int → Bool) {s : List UInt8} {i : Nat} (h : s.length ≤ i) : spanN p s i = 0 := by
  unfold spanN; rw [List.drop_of_length_le h]; rfl
theorem spanN_step (p : Int → Bool) {s : List UInt8} {i : Nat} (h : i < s.length) : spanN p s i = if p (s.getD i 0).toNat then spanN p s (i + 1) + 1 else 0 := by
  unfold spanN
  have : s.drop i = s.getD i 0 :: s.drop (i + 1) := by rw [List.drop_eq_getElem_cons h]; simp [h]
  rw [this, List.takeWhile_cons]
  split <;> simp
theorem spanN_le (p : Int → Bool) (s : List UInt8) (i : Nat) : spanN p s i ≤ s.length - i := by
  unfold spanN
  have := (List.takeWhile_sublist (l := s.drop i) (p := fun b => p b.toNat)).length_le
  simpa using this

set_option maxHeartbeats 4000000 in
theorem spanS {k : Nat} {p : Int → Prop} [DecidablePred p] (hp : ∀ c st, FnS cx k [.int .u8 c] st (.bool (decide (p c))) st) (sx : List UInt8) (hs : sx.length ≤ 1000000) (at_ out : V) (H : List (Nat × Ob)) (n : Nat) (hg : hget H 0 = some (.cells [.str sx, at_, out])) (hH : hdrop n H = H) (i : Nat) (hi : i ≤ 1000000) :
    FnS cx 15 [.ptr 0 0, .int .i64 i, .func (.func k) [] []] ⟨H, n⟩ (.int .i64 (spanN (fun c => decide (p c)) sx i)) ⟨H, n⟩ := by
  refine goS Tryd.func15 rfl rfl rfl rfl ?_
  intro t ht
  have a0 : tget t 0 = .ptr 0 0 := ht 0 _ rfl
  have a1 : tget t 1 = .int .i64 i := ht 1 _ rfl
  have a2 : tget t 2 = .func (.func k) [] [] := ht 2 _ rfl
  clear ht
  have ex := And.intro @a0 (And.intro @a1 (And.intro @a2 @hg))
  repeat' (first
   | (with_reducible refine isO ?_); first
     | refine mvA (h := ?_)
     | refine asA (h := ?_)
     | refine quA (h := ?_)
   | (with_reducible refine isG ?_); first
     | refine stA (h := ?_)
     | refine srA (h := ?_)
     | refine swA (h := ?_)
     | refine s1A (h := ?_)
     | refine s0A (h := ?_)
     | refine sgA (h1 := fun _ => ?_) (h0 := fun _ => ?_)
     | refine sbA (h1 := fun _ => ?_) (h0 := fun _ => ?_)
   | (with_reducible refine isC ?_); first
     | refine ctA (h := ?_)
     | refine cfA (h := ?_)
     | refine cdA (h1 := fun _ => ?_) (h0 := fun _ => ?_)
     | refine cbA (h1 := fun _ => ?_) (h0 := fun _ => ?_)
   | with_reducible refine Ev.seq ?_
   | with_reducible refine Ev.ops ?_
   | with_reducible refine NxE ?_
   | with_reducible refine BxN ?_
   | with_reducible refine BxX ?_
   | with_reducible refine NxX ?_
   | with_reducible refine NxR ?_
   | with_reducible refine BxR ?_
   | with_reducible refine NxG ?_
   | with_reducible refine BxG ?_
   | with_reducible refine GxR ?_
   | with_reducible refine GxN ?_
   | with_reducible refine GxX ?_
   | with_reducible refine Ev.goto ?_
   | with_reducible refine Ev.block ?_
   | with_reducible refine Ev.skip ?_
   | with_reducible refine Ev.exit ?_
   | with_reducible refine Ev.ret ?_
   | with_reducible refine Ev.label ?_
   | with_reducible refine EvOps.nil ?_
   | with_reducible refine EvPlan.nil ?_
   | (with_reducible refine BxO ?_ ?_; · decide)
   )
  refine loopT (fun r t st => ∃ j : Nat, r = 1000001 - j ∧ i ≤ j ∧ j ≤ 1000000 ∧ spanN (fun c => decide (p c)) sx i = (j - i) + spanN (fun c => decide (p c)) sx j ∧ tget t 0 = .ptr 0 0 ∧ tget t 1 = .int .i64 i ∧ tget t 2 = .func (.func k) [] [] ∧ tget t 7 = .int .i64 j ∧ st = ⟨H, n⟩) (n := 1000001 - i) ?_ ?_
  · refine ⟨i, rfl, Nat.le_refl _, hi, by omega, ?_, ?_, ?_, ?_, rfl⟩
    · simp only [↓evP, ↓tgP, ↓reduceIte, Nat.reduceEqDiff, reduceCtorEq, List.map_cons, List.map_nil, List.nil_append, List.append_nil, List.toList_toArray, a0]
    · simp only [↓evP, ↓tgP, ↓reduceIte, Nat.reduceEqDiff, reduceCtorEq, List.map_cons, List.map_nil, List.nil_append, List.append_nil, List.toList_toArray, a1]
    · simp only [↓evP, ↓tgP, ↓reduceIte, Nat.reduceEqDiff, reduceCtorEq, List.map_cons, List.map_nil, List.nil_append, List.append_nil, List.toList_toArray, a2]
    · simp only [↓evP, ↓tgP, ↓reduceIte, Nat.reduceEqDiff, reduceCtorEq, List.map_cons, List.map_nil, List.nil_append, List.append_nil, List.toList_toArray, a0]
  rintro r t st ⟨j, rfl, hj, hj2, he, c0, c1, c2, c7, rfl⟩
  have ex := And.intro @c0 (And.intro @c1 (And.intro @c2 (And.intro @c7 (And.intro @hg @strAt))))
  repeat' (first
   | (with_reducible refine isO ?_); first
     | refine mvA (h := ?_)
     | refine asA (h := ?_)
     | refine quA (h := ?_)
     | refine caA (hc := hp _ _) (h := ?_)
   | (with_reducible refine isG ?_); first
     | refine stA (h := ?_)
     | refine srA (h := ?_)
     | refine swA (h := ?_)
     | refine s1A (h := ?_)
     | refine s0A (h := ?_)
     | refine sgA (h1 := fun _ => ?_) (h0 := fun _ => ?_)
     | refine sbA (h1 := fun _ => ?_) (h0 := fun _ => ?_)
   | (with_reducible refine isC ?_); first
     | refine ctA (h := ?_)
     | refine cfA (h := ?_)
     | refine cdA (h1 := fun _ => ?_) (h0 := fun _ => ?_)
     | refine cbA (h1 := fun _ => ?_) (h0 := fun _ => ?_)
   | with_reducible refine Ev.seq ?_
   | with_reducible refine Ev.ops ?_
   | with_reducible refine NxE ?_
   | with_reducible refine BxN ?_
   | with_reducible refine BxX ?_
   | with_reducible refine NxX ?_
   | with_reducible refine NxR ?_
   | with_reducible refine BxR ?_
   | with_reducible refine NxG ?_
   | with_reducible refine BxG ?_
   | with_reducible refine GxR ?_
   | with_reducible refine GxN ?_
   | with_reducible refine GxX ?_
   | with_reducible refine Ev.goto ?_
   | with_reducible refine Ev.block ?_
   | with_reducible refine Ev.skip ?_
   | with_reducible refine Ev.exit ?_
   | with_reducible refine Ev.ret ?_
   | with_reducible refine Ev.label ?_
   | with_reducible refine EvOps.nil ?_
   | with_reducible refine EvPlan.nil ?_
   | (with_reducible refine BxO ?_ ?_; · decide)
   )
  · rename_i h1 h2
    have h1' : j < sx.length := by omega
    have e2 : spanN (fun c => decide (p c)) sx j = spanN (fun c => decide (p c)) sx (j + 1) + 1 := by rw [spanN_step _ h1', if_pos (by simpa using h2)]
    refine ⟨1000001 - (j + 1), by omega, rfl, j + 1, rfl, by omega, by omega, by omega, ?_, ?_, ?_, ?_, rfl⟩
    · simp only [↓evP, ↓tgP, ↓reduceIte, Nat.reduceEqDiff, reduceCtorEq, List.map_cons, List.map_nil, List.nil_append, List.append_nil, List.toList_toArray, c0]
    · simp only [↓evP, ↓tgP, ↓reduceIte, Nat.reduceEqDiff, reduceCtorEq, List.map_cons, List.map_nil, List.nil_append, List.append_nil, List.toList_toArray, c1]
    · simp only [↓evP, ↓tgP, ↓reduceIte, Nat.reduceEqDiff, reduceCtorEq, List.map_cons, List.map_nil, List.nil_append, List.append_nil, List.toList_toArray, c2]
    · simp only [↓evP, ↓tgP, ↓reduceIte, Nat.reduceEqDiff, reduceCtorEq, List.map_cons, List.map_nil, List.nil_append, List.append_nil, List.toList_toArray, c7]; rfl
  · rename_i h1 h2
    have h1' : j < sx.length := by omega
    have e2 : spanN (fun c => decide (p c)) sx j = 0 := by rw [spanN_step _ h1', if_neg (by simpa using h2)]
    refine lsA (rl := [.tmp 6]) rfl (hv := by
      simp only [leaveV, packV, strip, stripAgg, stripCell, hdrop, Nat.reduceLeDiff, List.map_cons, List.map_nil, show cx.grow 15 = false from rfl, show cx.keep 15 = false from rfl, show cx.frz 15 = false from rfl, if_false, if_true, Bool.false_eq_true]
      rw [hH, show ((j : Int) - i) = ((spanN (fun c => decide (p c)) sx i : Nat) : Int) by omega])
  · have e2 : spanN (fun c => decide (p c)) sx j = 0 := spanN_end _ (by omega)
    refine lsA (rl := [.tmp 6]) rfl (hv := by
      simp only [leaveV, packV, strip, stripAgg, stripCell, hdrop, Nat.reduceLeDiff, List.map_cons, List.map_nil, show cx.grow 15 = false from rfl, show cx.keep 15 = false from rfl, show cx.frz 15 = false from rfl, if_false, if_true, Bool.false_eq_true]
      rw [hH, show ((j : Int) - i) = ((spanN (fun c => decide (p c)) sx i : Nat) : Int) by omega])

def letP (c : Int) : Prop := (97 ≤ c ∧ c ≤ 122) ∨ (65 ≤ c ∧ c ≤ 90) ∨ c = 95
def digP (c : Int) : Prop := 48 ≤ c ∧ c ≤ 57
instance (c : Int) : Decidable (letP c) := by unfold letP; infer_instance
instance (c : Int) : Decidable (digP c) := by unfold digP; infer_instance
/-- No letter and no digit stands at a place. -/
def endsB (s : List UInt8) (i : Nat) : Prop := s.length ≤ i ∨ ¬ (letP (s.getD i 0).toNat ∨ digP (s.getD i 0).toNat)
instance (s : List UInt8) (i : Nat) : Decidable (endsB s i) := by unfold endsB; infer_instance

set_option maxHeartbeats 4000000 in
theorem endsS (sx : List UInt8) (hs : sx.length ≤ 1000000) (at_ out : V) (H : List (Nat × Ob)) (n : Nat) (hg : hget H 0 = some (.cells [.str sx, at_, out])) (hH : hdrop n H = H) (i : Nat) (hi : i ≤ 1000000) :
    FnS cx 32 [.ptr 0 0, .int .i64 i] ⟨H, n⟩ (.bool (decide (endsB sx i))) ⟨H, n⟩ := by
  refine goS Tryd.func32 rfl rfl rfl rfl ?_
  intro t ht
  have a0 : tget t 0 = .ptr 0 0 := ht 0 _ rfl
  have a1 : tget t 1 = .int .i64 i := ht 1 _ rfl
  clear ht
  have ex := And.intro @a0 (And.intro @a1 (And.intro @hg @strAt))
  repeat' (first
   | (with_reducible refine isO ?_); first
     | refine mvA (h := ?_)
     | refine asA (h := ?_)
     | refine quA (h := ?_)
     | refine caA (hc := wordS _ _) (h := ?_)
   | (with_reducible refine isG ?_); first
     | refine stA (h := ?_)
     | refine srA (h := ?_)
     | refine swA (h := ?_)
     | refine s1A (h := ?_)
     | refine s0A (h := ?_)
     | refine sgA (h1 := fun _ => ?_) (h0 := fun _ => ?_)
     | refine sbA (h1 := fun _ => ?_) (h0 := fun _ => ?_)
   | (with_reducible refine isC ?_); first
     | refine ctA (h := ?_)
     | refine cfA (h := ?_)
     | refine cdA (h1 := fun _ => ?_) (h0 := fun _ => ?_)
     | refine cbA (h1 := fun _ => ?_) (h0 := fun _ => ?_)
   | with_reducible refine Ev.seq ?_
   | with_reducible refine Ev.ops ?_
   | with_reducible refine NxE ?_
   | with_reducible refine BxN ?_
   | with_reducible refine BxX ?_
   | with_reducible refine NxX ?_
   | with_reducible refine NxR ?_
   | with_reducible refine BxR ?_
   | with_reducible refine NxG ?_
   | with_reducible refine BxG ?_
   | with_reducible refine GxR ?_
   | with_reducible refine GxN ?_
   | with_reducible refine GxX ?_
   | with_reducible refine Ev.goto ?_
   | with_reducible refine Ev.block ?_
   | with_reducible refine Ev.skip ?_
   | with_reducible refine Ev.exit ?_
   | with_reducible refine Ev.ret ?_
   | with_reducible refine Ev.label ?_
   | with_reducible refine EvOps.nil ?_
   | with_reducible refine EvPlan.nil ?_
   | (with_reducible refine BxO ?_ ?_; · decide)
   )
  all_goals
    refine lsA (rl := [.tmp 4]) rfl (hv := by
      simp only [leaveV, packV, strip, stripAgg, stripCell, hdrop, Nat.reduceLeDiff, List.map_cons, List.map_nil, show cx.grow 32 = false from rfl, show cx.keep 32 = false from rfl, show cx.frz 32 = false from rfl, if_false, if_true, Bool.false_eq_true]
      rw [hH]; unfold endsB letP digP; congr 2; first | exact decide_eq_decide.2 (by omega) | exact (decide_eq_true (by omega)).symm | exact (decide_eq_false (by omega)).symm)
end Go.Proofs.YtmdiieignlidhaaDoor
