/- The tokens' text, and the law of joins, by the program. -/
import Derived.Test.YtmdiieignlidhaaDoorLexV180
set_option linter.unusedSimpArgs false
set_option linter.unusedVariables false
set_option linter.unusedSectionVars false
set_option maxRecDepth 100000
namespace Go.Proofs.YtmdiieignlidhaaDoor
open Go Go.Vm Go.Proofs


theorem lenApp2 (a b : List UInt8) : (a ++ b).length = a.length + b.length := List.length_append
def partsW (l : List Tok) : List (List UInt8) := (l.filter fun t => decide (t.kind ≠ 7)).map Tok.w
theorem partsW_step {l : List Tok} {j : Nat} (h : j < l.length) : partsW (l.take (j + 1)) = if (l.getD j (endTok 0)).kind = 7 then partsW (l.take j) else partsW (l.take j) ++ [(l.getD j (endTok 0)).w] := by
  have e : l.take (j + 1) = l.take j ++ [l.getD j (endTok 0)] := by rw [List.take_add_one, List.getElem?_eq_getElem h]; simp [h]
  unfold partsW
  rw [e, List.filter_append, List.map_append]
  by_cases h7 : (l.getD j (endTok 0)).kind = 7
  · rw [if_pos h7, List.filter_cons, if_neg (by simpa using h7)]; simp
  · rw [if_neg h7, List.filter_cons, if_pos (by simpa using h7)]; simp
theorem partsW_len (l : List Tok) : (partsW l).length ≤ l.length := by
  unfold partsW
  rw [List.length_map]
  exact List.length_filter_le _ _
theorem partsW_end {l : List Tok} (h : ∀ t ∈ l, t.kind ≠ 7) (b : Nat) : partsW (l ++ [endTok b]) = l.map Tok.w := by
  unfold partsW
  rw [List.filter_append, List.filter_eq_self.2 (by intro t ht; simpa using h t ht)]
  have : List.filter (fun t : Tok => decide (t.kind ≠ 7)) [endTok b] = [] := rfl
  rw [this, List.append_nil]
theorem appG {a : List (List UInt8)} {z : List UInt8} {tip : Tip} {H : List (Nat × Ob)} {n k : Nat} (h2 : a.length ≤ 1000000) (hk : a ≠ [] → hget H k = some (.tip 1)) :
    appendV cx ⟨H, n⟩ 45 (accS k a) (.sl tip [.str z]) = some (accS n (a ++ [z]), ⟨(n, .tip 1) :: (if a = [] then H else hdel H k), n + 1⟩) := by
  have hz : zeroOk cx 9 1 = true := by decide +kernel
  have hb : byOf cx 9 = 16 := by decide +kernel
  have e1 : accS n (a ++ [z]) = .sl (.own n) (a.map .str ++ [.str z]) := by
    unfold accS; rw [if_neg (by simp), List.map_append]; rfl
  rw [e1]
  cases a with
  | nil =>
    simp only [accS_nil, appendV, tyE, addedV, szE, ncE, List.isEmpty_cons, Bool.false_eq_true, if_false, hz, hb]
    rfl
  | cons c a =>
    have e3 : accS k (c :: a) = .sl (.own k) ((c :: a).map .str) := rfl
    have hk := hk (by simp)
    have hc : 0 < 1 ∧ szOk 1 ((c :: a).map V.str) = true ∧ True ∧ (((c :: a).map V.str).length + 1) * 16 ≤ 2 ^ 47 ∧ ((c :: a).map V.str).length + 1 ≤ 2 ^ 47 := by
      rw [List.length_map]
      simp only [List.length_cons] at h2
      refine ⟨by omega, rfl, trivial, ?_, ?_⟩ <;> simp <;> omega
    rw [e3, if_neg (by simp)]
    simp only [appendV, tyE, addedV, szE, ncE, List.isEmpty_cons, Bool.false_eq_true, if_false, hz, hb, beq_self_eq_true, if_true, List.length_singleton]
    rw [if_pos hc, hk]
    rfl
theorem join_snoc (P : List (List UInt8)) (w : List UInt8) : Lib.join (P ++ [w]) [32] = if P = [] then w else Lib.join P [32] ++ (32 :: w) := by
  cases P with
  | nil => rw [if_pos rfl, List.nil_append, Lib.join_one]
  | cons x P =>
    rw [if_neg (by simp), List.cons_append, Lib.join_cons, Lib.join_cons]
    simp [Lib.joinTail]

set_option maxHeartbeats 8000000 in
theorem joinS (l : List Tok) (hl : l.length ≤ 100000) (hT : ∀ i, (l.getD i (endTok 0)).text.length ≤ 100000) (hJ : (Lib.join (partsW l) [32]).length ≤ 1048576) (st : St) : FnS cx 12 [.sl .none (l.map Tok.v)] st (.str (Lib.join (partsW l) [32])) st := by
  refine goP Tryd.func12 rfl rfl rfl rfl ?_ ?_
  · exact (by show (pureVs (l.map Tok.v) && true) = true; rw [pure_toks]; rfl)
  intro t ht
  have a0 : tget t 0 = .sl .none (l.map Tok.v) := ht 0 _ rfl
  clear ht
  have ex := And.intro @a0 (And.intro @tok_refl (And.intro @castE (And.intro @lenTok (And.intro @szTok @zv30))))
  repeat' (first
   | (with_reducible refine isO ?_); first
     | refine mvA (h := ?_)
     | refine asA (h := ?_)
     | refine quA (h := ?_)
     | refine wnA (h := ?_)
     | refine waA (h := ?_)
   | (with_reducible refine isC ?_); first
     | refine ctA (h := ?_)
     | refine cfA (h := ?_)
     | refine cdA (h1 := fun _ => ?_) (h0 := fun _ => ?_)
     | refine cbA (h1 := fun _ => ?_) (h0 := fun _ => ?_)
   | with_reducible refine Ev.seq ?_
   | with_reducible refine Ev.ops ?_
   | with_reducible refine NxE ?_
   | with_reducible refine BxN ?_
   | with_reducible refine BxX ?_
   | with_reducible refine NxX ?_
   | with_reducible refine NxR ?_
   | with_reducible refine BxR ?_
   | with_reducible refine NxG ?_
   | with_reducible refine BxG ?_
   | with_reducible refine GxR ?_
   | with_reducible refine GxN ?_
   | with_reducible refine GxX ?_
   | with_reducible refine Ev.goto ?_
   | with_reducible refine Ev.block ?_
   | with_reducible refine Ev.skip ?_
   | with_reducible refine Ev.exit ?_
   | with_reducible refine Ev.ret ?_
   | with_reducible refine Ev.label ?_
   | with_reducible refine EvOps.nil ?_
   | with_reducible refine EvPlan.nil ?_
   | (with_reducible refine BxO ?_ ?_; · decide)
   )
  refine loopT (fun r t st => ∃ (j kj : Nat) (H : List (Nat × Ob)) (n : Nat), r = l.length - j ∧ j ≤ l.length ∧ (partsW (l.take j) ≠ [] → hget H kj = some (.tip 1) ∧ kj < n) ∧ tget t 3 = accS kj (partsW (l.take j)) ∧ tget t 6 = .sl .none (l.map Tok.v) ∧ tget t 7 = .int .i64 l.length ∧ tget t 8 = .int .i64 j ∧ st = ⟨H, n⟩) (n := l.length) ?_ ?_
  · refine ⟨0, 0, [], 0, by omega, by omega, fun h => absurd rfl h, ?_, ?_, ?_, ?_, rfl⟩
    all_goals (simp only [↓evP, ↓tgP, ↓reduceIte, Nat.reduceEqDiff, reduceCtorEq, List.map_cons, List.map_nil, List.nil_append, List.append_nil, List.toList_toArray, a0]; try first | rfl | (simp only [lenTok]; done) | (rw [lenTok]; done))
  rintro r t st ⟨j, kj, H, n, rfl, hj, hk, c3, c6, c7, c8, rfl⟩
  have hPl := partsW_len (l.take j)
  rw [List.length_take] at hPl
  by_cases hjl : j < l.length
  · have t1 := tokAt hjl
    have hstep := partsW_step hjl
    have hw := hT j
    have hbq := And.intro (beq_self_eq_true n) (beq_self_eq_true (n + 1))
    have hap : ∀ cs z tip, appendV cx ⟨(n, .cells cs) :: H, n + 1⟩ 45 (accS kj (partsW (l.take j))) (.sl tip [.str z]) = some (accS (n + 1) (partsW (l.take j) ++ [z]), ⟨(n + 1, .tip 1) :: (if partsW (l.take j) = [] then (n, .cells cs) :: H else hdel ((n, .cells cs) :: H) kj), n + 1 + 1⟩) := fun cs z tip =>
      appG (by omega) (fun h => by
        have := hk h
        simp only [hget]
        rw [if_neg (by simp; omega)]
        exact this.1)
    by_cases h7 : (l.getD j (endTok 0)).kind = 7
    · rw [if_pos h7] at hstep
      rw [h7] at t1
      have ex := And.intro @c3 (And.intro @c6 (And.intro @c7 (And.intro @c8 (And.intro @t1 (And.intro @hbq (And.intro @bsS (And.intro @hap (And.intro @tok_refl (And.intro @castE (And.intro @lenTok (And.intro @szTok @zv30)))))))))))
      repeat' (first
       | (with_reducible refine isO ?_); first
         | refine mvA (h := ?_)
         | refine asA (h := ?_)
         | refine quA (h := ?_)
         | refine wnA (h := ?_)
         | refine waA (h := ?_)
       | (with_reducible refine isC ?_); first
         | refine ctA (h := ?_)
         | refine cfA (h := ?_)
         | refine cdA (h1 := fun _ => ?_) (h0 := fun _ => ?_)
         | refine cbA (h1 := fun _ => ?_) (h0 := fun _ => ?_)
       | with_reducible refine Ev.seq ?_
       | with_reducible refine Ev.ops ?_
       | with_reducible refine NxE ?_
       | with_reducible refine BxN ?_
       | with_reducible refine BxX ?_
       | with_reducible refine NxX ?_
       | with_reducible refine NxR ?_
       | with_reducible refine BxR ?_
       | with_reducible refine NxG ?_
       | with_reducible refine BxG ?_
       | with_reducible refine GxR ?_
       | with_reducible refine GxN ?_
       | with_reducible refine GxX ?_
       | with_reducible refine Ev.goto ?_
       | with_reducible refine Ev.block ?_
       | with_reducible refine Ev.skip ?_
       | with_reducible refine Ev.exit ?_
       | with_reducible refine Ev.ret ?_
       | with_reducible refine Ev.label ?_
       | with_reducible refine EvOps.nil ?_
       | with_reducible refine EvPlan.nil ?_
       | (with_reducible refine BxO ?_ ?_; · decide)
       )
      all_goals first
        | (exfalso; omega)
        | (refine ⟨l.length - (j + 1), by omega, rfl, j + 1, kj, _, _, rfl, by omega, fun h => ?_, ?_, ?_, ?_, ?_, rfl⟩
           · rw [hstep] at h
             have := hk h
             refine ⟨?_, by omega⟩
             simp only [hget]
             rw [if_neg (by simp; omega)]
             exact this.1
           · simp only [↓evP, ↓tgP, ↓reduceIte, Nat.reduceEqDiff, reduceCtorEq, List.map_cons, List.map_nil, List.nil_append, List.append_nil, List.toList_toArray, c3, c6, c7, c8]
             rw [hstep]
           all_goals simp only [↓evP, ↓tgP, ↓reduceIte, Nat.reduceEqDiff, reduceCtorEq, List.map_cons, List.map_nil, List.nil_append, List.append_nil, List.toList_toArray, c3, c6, c7, c8]
           all_goals first | done | rfl)
    · rw [if_neg h7] at hstep
      by_cases h6 : (l.getD j (endTok 0)).kind = 6
      · have hww : (l.getD j (endTok 0)).w = 34 :: ((l.getD j (endTok 0)).text ++ [34]) := by unfold Tok.w; rw [if_pos h6]
        rw [hww] at hstep
        rw [h6] at t1
        have ex := And.intro @c3 (And.intro @c6 (And.intro @c7 (And.intro @c8 (And.intro @t1 (And.intro @hbq (And.intro @bsS (And.intro @hap (And.intro @tok_refl (And.intro @castE (And.intro @lenTok (And.intro @szTok @zv30)))))))))))
        repeat' (first
         | (with_reducible refine isO ?_); first
           | refine mvA (h := ?_)
           | refine asA (h := ?_)
           | refine quA (h := ?_)
           | refine wnA (h := ?_)
           | refine waA (h := ?_)
         | (with_reducible refine isC ?_); first
           | refine ctA (h := ?_)
           | refine cfA (h := ?_)
           | refine cdA (h1 := fun _ => ?_) (h0 := fun _ => ?_)
           | refine cbA (h1 := fun _ => ?_) (h0 := fun _ => ?_)
         | with_reducible refine Ev.seq ?_
         | with_reducible refine Ev.ops ?_
         | with_reducible refine NxE ?_
         | with_reducible refine BxN ?_
         | with_reducible refine BxX ?_
         | with_reducible refine NxX ?_
         | with_reducible refine NxR ?_
         | with_reducible refine BxR ?_
         | with_reducible refine NxG ?_
         | with_reducible refine BxG ?_
         | with_reducible refine GxR ?_
         | with_reducible refine GxN ?_
         | with_reducible refine GxX ?_
         | with_reducible refine Ev.goto ?_
         | with_reducible refine Ev.block ?_
         | with_reducible refine Ev.skip ?_
         | with_reducible refine Ev.exit ?_
         | with_reducible refine Ev.ret ?_
         | with_reducible refine Ev.label ?_
         | with_reducible refine EvOps.nil ?_
         | with_reducible refine EvPlan.nil ?_
         | (with_reducible refine BxO ?_ ?_; · decide)
         )
        all_goals first
          | (exfalso; omega)
          | (refine ⟨l.length - (j + 1), by omega, rfl, j + 1, n + 1, _, _, rfl, by omega, fun h => ⟨by simp only [hget, beq_self_eq_true, if_true], by omega⟩, ?_, ?_, ?_, ?_, rfl⟩
             · simp only [↓evP, ↓tgP, ↓reduceIte, Nat.reduceEqDiff, reduceCtorEq, List.map_cons, List.map_nil, List.nil_append, List.append_nil, List.toList_toArray, c3, c6, c7, c8]
               rw [hstep]
             all_goals simp only [↓evP, ↓tgP, ↓reduceIte, Nat.reduceEqDiff, reduceCtorEq, List.map_cons, List.map_nil, List.nil_append, List.append_nil, List.toList_toArray, c3, c6, c7, c8]
             all_goals first | done | rfl)
      · have hww : (l.getD j (endTok 0)).w = (l.getD j (endTok 0)).text := by unfold Tok.w; rw [if_neg h6]
        rw [hww] at hstep
        have ex := And.intro @c3 (And.intro @c6 (And.intro @c7 (And.intro @c8 (And.intro @t1 (And.intro @hbq (And.intro @bsS (And.intro @hap (And.intro @h6 (And.intro @h7 (And.intro @tok_refl (And.intro @castE (And.intro @lenTok (And.intro @szTok @zv30)))))))))))))
        repeat' (first
         | (with_reducible refine isO ?_); first
           | refine mvA (h := ?_)
           | refine asA (h := ?_)
           | refine quA (h := ?_)
           | refine wnA (h := ?_)
           | refine waA (h := ?_)
         | (with_reducible refine isC ?_); first
           | refine ctA (h := ?_)
           | refine cfA (h := ?_)
           | refine cdA (h1 := fun _ => ?_) (h0 := fun _ => ?_)
           | refine cbA (h1 := fun _ => ?_) (h0 := fun _ => ?_)
         | with_reducible refine Ev.seq ?_
         | with_reducible refine Ev.ops ?_
         | with_reducible refine NxE ?_
         | with_reducible refine BxN ?_
         | with_reducible refine BxX ?_
         | with_reducible refine NxX ?_
         | with_reducible refine NxR ?_
         | with_reducible refine BxR ?_
         | with_reducible refine NxG ?_
         | with_reducible refine BxG ?_
         | with_reducible refine GxR ?_
         | with_reducible refine GxN ?_
         | with_reducible refine GxX ?_
         | with_reducible refine Ev.goto ?_
         | with_reducible refine Ev.block ?_
         | with_reducible refine Ev.skip ?_
         | with_reducible refine Ev.exit ?_
         | with_reducible refine Ev.ret ?_
         | with_reducible refine Ev.label ?_
         | with_reducible refine EvOps.nil ?_
         | with_reducible refine EvPlan.nil ?_
         | (with_reducible refine BxO ?_ ?_; · decide)
         )
        all_goals first
          | (exfalso; omega)
          | (refine ⟨l.length - (j + 1), by omega, rfl, j + 1, n + 1, _, _, rfl, by omega, fun h => ⟨by simp only [hget, beq_self_eq_true, if_true], by omega⟩, ?_, ?_, ?_, ?_, rfl⟩
             · simp only [↓evP, ↓tgP, ↓reduceIte, Nat.reduceEqDiff, reduceCtorEq, List.map_cons, List.map_nil, List.nil_append, List.append_nil, List.toList_toArray, c3, c6, c7, c8]
               rw [hstep]
             all_goals simp only [↓evP, ↓tgP, ↓reduceIte, Nat.reduceEqDiff, reduceCtorEq, List.map_cons, List.map_nil, List.nil_append, List.append_nil, List.toList_toArray, c3, c6, c7, c8]
             all_goals first | done | rfl)
  have hall : l.take j = l := List.take_of_length_le (by omega)
  rw [hall] at c3
  have hPl2 := partsW_len l
  have ex := And.intro @c3 (And.intro @c6 (And.intro @c7 (And.intro @c8 (And.intro @tok_refl (And.intro @castE (And.intro @lenTok (And.intro @szTok @zv30)))))))
  repeat' (first
   | (with_reducible refine isO ?_); first
     | refine mvA (h := ?_)
     | refine asA (h := ?_)
     | refine quA (h := ?_)
     | refine wnA (h := ?_)
     | refine waA (h := ?_)
     | refine caA (hc := joinA hJ (by omega)) (h := ?_)
   | (with_reducible refine isC ?_); first
     | refine ctA (h := ?_)
     | refine cfA (h := ?_)
     | refine cdA (h1 := fun _ => ?_) (h0 := fun _ => ?_)
     | refine cbA (h1 := fun _ => ?_) (h0 := fun _ => ?_)
   | with_reducible refine Ev.seq ?_
   | with_reducible refine Ev.ops ?_
   | with_reducible refine NxE ?_
   | with_reducible refine BxN ?_
   | with_reducible refine BxX ?_
   | with_reducible refine NxX ?_
   | with_reducible refine NxR ?_
   | with_reducible refine BxR ?_
   | with_reducible refine NxG ?_
   | with_reducible refine BxG ?_
   | with_reducible refine GxR ?_
   | with_reducible refine GxN ?_
   | with_reducible refine GxX ?_
   | with_reducible refine Ev.goto ?_
   | with_reducible refine Ev.block ?_
   | with_reducible refine Ev.skip ?_
   | with_reducible refine Ev.exit ?_
   | with_reducible refine Ev.ret ?_
   | with_reducible refine Ev.label ?_
   | with_reducible refine EvOps.nil ?_
   | with_reducible refine EvPlan.nil ?_
   | (with_reducible refine BxO ?_ ?_; · decide)
   )
  all_goals first
    | (exfalso; omega)
    | refine lfA (rl := [.tmp 2]) rfl (hv := by
      simp only [packV, strip, stripAgg, stripCell, List.map_cons, List.map_nil]
      (first | done | rfl)) (hp := rfl)

set_option maxHeartbeats 8000000 in
theorem refJoinS (l : List Tok) (hl : l.length ≤ 100000) (hT : ∀ i, (l.getD i (endTok 0)).text.length ≤ 100000) (hJ : ∀ j, (Lib.join (partsW (l.take j)) [32]).length ≤ 1048576) (st : St) : FnS cx 13 [.sl .none (l.map Tok.v)] st (.str (Lib.join (partsW l) [32])) st := by
  refine goP Tryd.func13 rfl rfl rfl rfl ?_ ?_
  · exact (by show (pureVs (l.map Tok.v) && true) = true; rw [pure_toks]; rfl)
  intro t ht
  have a0 : tget t 0 = .sl .none (l.map Tok.v) := ht 0 _ rfl
  clear ht
  have ex := And.intro @a0 (And.intro @tok_refl (And.intro @castE (And.intro @lenTok (And.intro @szTok @zv30))))
  repeat' (first
   | (with_reducible refine isO ?_); first
     | refine mvA (h := ?_)
     | refine asA (h := ?_)
     | refine quA (h := ?_)
   | (with_reducible refine isC ?_); first
     | refine ctA (h := ?_)
     | refine cfA (h := ?_)
     | refine cdA (h1 := fun _ => ?_) (h0 := fun _ => ?_)
     | refine cbA (h1 := fun _ => ?_) (h0 := fun _ => ?_)
   | with_reducible refine Ev.seq ?_
   | with_reducible refine Ev.ops ?_
   | with_reducible refine NxE ?_
   | with_reducible refine BxN ?_
   | with_reducible refine BxX ?_
   | with_reducible refine NxX ?_
   | with_reducible refine NxR ?_
   | with_reducible refine BxR ?_
   | with_reducible refine NxG ?_
   | with_reducible refine BxG ?_
   | with_reducible refine GxR ?_
   | with_reducible refine GxN ?_
   | with_reducible refine GxX ?_
   | with_reducible refine Ev.goto ?_
   | with_reducible refine Ev.block ?_
   | with_reducible refine Ev.skip ?_
   | with_reducible refine Ev.exit ?_
   | with_reducible refine Ev.ret ?_
   | with_reducible refine Ev.label ?_
   | with_reducible refine EvOps.nil ?_
   | with_reducible refine EvPlan.nil ?_
   | (with_reducible refine BxO ?_ ?_; · decide)
   )
  refine loopT (fun r t st => ∃ (j : Nat) (b : Bool), r = l.length - j ∧ j ≤ l.length ∧ (b = true ↔ partsW (l.take j) = []) ∧ tget t 0 = .sl .none (l.map Tok.v) ∧ tget t 3 = .str (Lib.join (partsW (l.take j)) [32]) ∧ tget t 4 = .bool b ∧ tget t 5 = .int .i64 j) (n := l.length) ?_ ?_
  · refine ⟨0, true, by omega, by omega, by simp [partsW], ?_, ?_, ?_, ?_⟩
    all_goals (simp only [↓evP, ↓tgP, ↓reduceIte, Nat.reduceEqDiff, reduceCtorEq, List.map_cons, List.map_nil, List.nil_append, List.append_nil, List.toList_toArray, a0]; try rfl)
  rintro r t st ⟨j, b, rfl, hj, hb, c0, c3, c4, c5⟩
  by_cases hjl : j < l.length
  · have t1 := tokAt hjl
    have hstep := partsW_step hjl
    have hw := hT j
    have hjj := hJ j
    have hsn := join_snoc (partsW (l.take j)) (l.getD j (endTok 0)).w
    by_cases h7 : (l.getD j (endTok 0)).kind = 7
    · rw [if_pos h7] at hstep
      rw [h7] at t1
      have ex := And.intro @c0 (And.intro @c3 (And.intro @c4 (And.intro @c5 (And.intro @t1 (And.intro @tok_refl (And.intro @castE (And.intro @lenTok (And.intro @szTok @zv30))))))))
      repeat' (first
       | (with_reducible refine isO ?_); first
         | refine mvA (h := ?_)
         | refine asA (h := ?_)
         | refine quA (h := ?_)
       | (with_reducible refine isC ?_); first
         | refine ctA (h := ?_)
         | refine cfA (h := ?_)
         | refine cdA (h1 := fun _ => ?_) (h0 := fun _ => ?_)
         | refine cbA (h1 := fun _ => ?_) (h0 := fun _ => ?_)
       | with_reducible refine Ev.seq ?_
       | with_reducible refine Ev.ops ?_
       | with_reducible refine NxE ?_
       | with_reducible refine BxN ?_
       | with_reducible refine BxX ?_
       | with_reducible refine NxX ?_
       | with_reducible refine NxR ?_
       | with_reducible refine BxR ?_
       | with_reducible refine NxG ?_
       | with_reducible refine BxG ?_
       | with_reducible refine GxR ?_
       | with_reducible refine GxN ?_
       | with_reducible refine GxX ?_
       | with_reducible refine Ev.goto ?_
       | with_reducible refine Ev.block ?_
       | with_reducible refine Ev.skip ?_
       | with_reducible refine Ev.exit ?_
       | with_reducible refine Ev.ret ?_
       | with_reducible refine Ev.label ?_
       | with_reducible refine EvOps.nil ?_
       | with_reducible refine EvPlan.nil ?_
       | (with_reducible refine BxO ?_ ?_; · decide)
       )
      all_goals first
        | (exfalso; omega)
        | (refine ⟨l.length - (j + 1), by omega, rfl, j + 1, b, rfl, by omega, by rw [hstep]; exact hb, ?_, ?_, ?_, ?_⟩
           all_goals simp only [↓evP, ↓tgP, ↓reduceIte, Nat.reduceEqDiff, reduceCtorEq, List.map_cons, List.map_nil, List.nil_append, List.append_nil, List.toList_toArray, c0, c3, c4, c5]
           all_goals first | done | rfl | rw [hstep])
    · rw [if_neg h7] at hstep
      have hf : (false = true ↔ partsW (l.take (j + 1)) = []) := by rw [hstep]; simp
      have h0 : b = true → partsW (l.take j) = [] := hb.1
      have h1 : b = false → partsW (l.take j) ≠ [] := fun h x => by have := hb.2 x; rw [h] at this; cases this
      by_cases h6 : (l.getD j (endTok 0)).kind = 6
      · have hww : (l.getD j (endTok 0)).w = 34 :: ((l.getD j (endTok 0)).text ++ [34]) := by unfold Tok.w; rw [if_pos h6]
        rw [hww] at hstep hsn
        rw [h6] at t1
        cases b
        · rw [if_neg (h1 rfl)] at hsn
          have ex := And.intro @c0 (And.intro @c3 (And.intro @c4 (And.intro @c5 (And.intro @t1 (And.intro @lenApp2 (And.intro @tok_refl (And.intro @castE (And.intro @lenTok (And.intro @szTok @zv30)))))))))
          repeat' (first
           | (with_reducible refine isO ?_); first
             | refine mvA (h := ?_)
             | refine asA (h := ?_)
             | refine quA (h := ?_)
           | (with_reducible refine isC ?_); first
             | refine ctA (h := ?_)
             | refine cfA (h := ?_)
             | refine cdA (h1 := fun _ => ?_) (h0 := fun _ => ?_)
             | refine cbA (h1 := fun _ => ?_) (h0 := fun _ => ?_)
           | with_reducible refine Ev.seq ?_
           | with_reducible refine Ev.ops ?_
           | with_reducible refine NxE ?_
           | with_reducible refine BxN ?_
           | with_reducible refine BxX ?_
           | with_reducible refine NxX ?_
           | with_reducible refine NxR ?_
           | with_reducible refine BxR ?_
           | with_reducible refine NxG ?_
           | with_reducible refine BxG ?_
           | with_reducible refine GxR ?_
           | with_reducible refine GxN ?_
           | with_reducible refine GxX ?_
           | with_reducible refine Ev.goto ?_
           | with_reducible refine Ev.block ?_
           | with_reducible refine Ev.skip ?_
           | with_reducible refine Ev.exit ?_
           | with_reducible refine Ev.ret ?_
           | with_reducible refine Ev.label ?_
           | with_reducible refine EvOps.nil ?_
           | with_reducible refine EvPlan.nil ?_
           | (with_reducible refine BxO ?_ ?_; · decide)
           )
          all_goals first
            | (exfalso; omega)
            | (refine ⟨l.length - (j + 1), by omega, rfl, j + 1, false, rfl, by omega, hf, ?_, ?_, ?_, ?_⟩
               all_goals simp only [↓evP, ↓tgP, ↓reduceIte, Nat.reduceEqDiff, reduceCtorEq, List.map_cons, List.map_nil, List.nil_append, List.append_nil, List.toList_toArray, c0, c3, c4, c5]
               all_goals first | done | rfl | (rw [hstep, hsn]; done) | (rw [hstep, hsn]; simp))
        · rw [if_pos (h0 rfl)] at hsn
          rw [h0 rfl] at c3
          rw [h0 rfl, List.nil_append] at hstep
          rw [h0 rfl, List.nil_append] at hsn
          have ex := And.intro @c0 (And.intro @c3 (And.intro @c4 (And.intro @c5 (And.intro @t1 (And.intro @Lib.join_nil (And.intro @tok_refl (And.intro @castE (And.intro @lenTok (And.intro @szTok @zv30)))))))))
          repeat' (first
           | (with_reducible refine isO ?_); first
             | refine mvA (h := ?_)
             | refine asA (h := ?_)
             | refine quA (h := ?_)
           | (with_reducible refine isC ?_); first
             | refine ctA (h := ?_)
             | refine cfA (h := ?_)
             | refine cdA (h1 := fun _ => ?_) (h0 := fun _ => ?_)
             | refine cbA (h1 := fun _ => ?_) (h0 := fun _ => ?_)
           | with_reducible refine Ev.seq ?_
           | with_reducible refine Ev.ops ?_
           | with_reducible refine NxE ?_
           | with_reducible refine BxN ?_
           | with_reducible refine BxX ?_
           | with_reducible refine NxX ?_
           | with_reducible refine NxR ?_
           | with_reducible refine BxR ?_
           | with_reducible refine NxG ?_
           | with_reducible refine BxG ?_
           | with_reducible refine GxR ?_
           | with_reducible refine GxN ?_
           | with_reducible refine GxX ?_
           | with_reducible refine Ev.goto ?_
           | with_reducible refine Ev.block ?_
           | with_reducible refine Ev.skip ?_
           | with_reducible refine Ev.exit ?_
           | with_reducible refine Ev.ret ?_
           | with_reducible refine Ev.label ?_
           | with_reducible refine EvOps.nil ?_
           | with_reducible refine EvPlan.nil ?_
           | (with_reducible refine BxO ?_ ?_; · decide)
           )
          all_goals first
            | (exfalso; omega)
            | (refine ⟨l.length - (j + 1), by omega, rfl, j + 1, false, rfl, by omega, hf, ?_, ?_, ?_, ?_⟩
               all_goals simp only [↓evP, ↓tgP, ↓reduceIte, Nat.reduceEqDiff, reduceCtorEq, List.map_cons, List.map_nil, List.nil_append, List.append_nil, List.toList_toArray, c0, c3, c4, c5]
               all_goals first | done | rfl | (rw [hstep, hsn]; done) | (rw [hstep, hsn]; simp))
      · have hww : (l.getD j (endTok 0)).w = (l.getD j (endTok 0)).text := by unfold Tok.w; rw [if_neg h6]
        rw [hww] at hstep hsn
        cases b
        · rw [if_neg (h1 rfl)] at hsn
          have ex := And.intro @c0 (And.intro @c3 (And.intro @c4 (And.intro @c5 (And.intro @t1 (And.intro @lenApp2 (And.intro @h6 (And.intro @h7 (And.intro @tok_refl (And.intro @castE (And.intro @lenTok (And.intro @szTok @zv30)))))))))))
          repeat' (first
           | (with_reducible refine isO ?_); first
             | refine mvA (h := ?_)
             | refine asA (h := ?_)
             | refine quA (h := ?_)
           | (with_reducible refine isC ?_); first
             | refine ctA (h := ?_)
             | refine cfA (h := ?_)
             | refine cdA (h1 := fun _ => ?_) (h0 := fun _ => ?_)
             | refine cbA (h1 := fun _ => ?_) (h0 := fun _ => ?_)
           | with_reducible refine Ev.seq ?_
           | with_reducible refine Ev.ops ?_
           | with_reducible refine NxE ?_
           | with_reducible refine BxN ?_
           | with_reducible refine BxX ?_
           | with_reducible refine NxX ?_
           | with_reducible refine NxR ?_
           | with_reducible refine BxR ?_
           | with_reducible refine NxG ?_
           | with_reducible refine BxG ?_
           | with_reducible refine GxR ?_
           | with_reducible refine GxN ?_
           | with_reducible refine GxX ?_
           | with_reducible refine Ev.goto ?_
           | with_reducible refine Ev.block ?_
           | with_reducible refine Ev.skip ?_
           | with_reducible refine Ev.exit ?_
           | with_reducible refine Ev.ret ?_
           | with_reducible refine Ev.label ?_
           | with_reducible refine EvOps.nil ?_
           | with_reducible refine EvPlan.nil ?_
           | (with_reducible refine BxO ?_ ?_; · decide)
           )
          all_goals first
            | (exfalso; omega)
            | (refine ⟨l.length - (j + 1), by omega, rfl, j + 1, false, rfl, by omega, hf, ?_, ?_, ?_, ?_⟩
               all_goals simp only [↓evP, ↓tgP, ↓reduceIte, Nat.reduceEqDiff, reduceCtorEq, List.map_cons, List.map_nil, List.nil_append, List.append_nil, List.toList_toArray, c0, c3, c4, c5]
               all_goals first | done | rfl | (rw [hstep, hsn]; done) | (rw [hstep, hsn]; simp))
        · rw [if_pos (h0 rfl)] at hsn
          rw [h0 rfl] at c3
          rw [h0 rfl, List.nil_append] at hstep
          rw [h0 rfl, List.nil_append] at hsn
          have ex := And.intro @c0 (And.intro @c3 (And.intro @c4 (And.intro @c5 (And.intro @t1 (And.intro @Lib.join_nil (And.intro @h6 (And.intro @h7 (And.intro @tok_refl (And.intro @castE (And.intro @lenTok (And.intro @szTok @zv30)))))))))))
          repeat' (first
           | (with_reducible refine isO ?_); first
             | refine mvA (h := ?_)
             | refine asA (h := ?_)
             | refine quA (h := ?_)
           | (with_reducible refine isC ?_); first
             | refine ctA (h := ?_)
             | refine cfA (h := ?_)
             | refine cdA (h1 := fun _ => ?_) (h0 := fun _ => ?_)
             | refine cbA (h1 := fun _ => ?_) (h0 := fun _ => ?_)
           | with_reducible refine Ev.seq ?_
           | with_reducible refine Ev.ops ?_
           | with_reducible refine NxE ?_
           | with_reducible refine BxN ?_
           | with_reducible refine BxX ?_
           | with_reducible refine NxX ?_
           | with_reducible refine NxR ?_
           | with_reducible refine BxR ?_
           | with_reducible refine NxG ?_
           | with_reducible refine BxG ?_
           | with_reducible refine GxR ?_
           | with_reducible refine GxN ?_
           | with_reducible refine GxX ?_
           | with_reducible refine Ev.goto ?_
           | with_reducible refine Ev.block ?_
           | with_reducible refine Ev.skip ?_
           | with_reducible refine Ev.exit ?_
           | with_reducible refine Ev.ret ?_
           | with_reducible refine Ev.label ?_
           | with_reducible refine EvOps.nil ?_
           | with_reducible refine EvPlan.nil ?_
           | (with_reducible refine BxO ?_ ?_; · decide)
           )
          all_goals first
            | (exfalso; omega)
            | (refine ⟨l.length - (j + 1), by omega, rfl, j + 1, false, rfl, by omega, hf, ?_, ?_, ?_, ?_⟩
               all_goals simp only [↓evP, ↓tgP, ↓reduceIte, Nat.reduceEqDiff, reduceCtorEq, List.map_cons, List.map_nil, List.nil_append, List.append_nil, List.toList_toArray, c0, c3, c4, c5]
               all_goals first | done | rfl | (rw [hstep, hsn]; done) | (rw [hstep, hsn]; simp))
  have hall : l.take j = l := List.take_of_length_le (by omega)
  rw [hall] at c3
  have ex := And.intro @c0 (And.intro @c3 (And.intro @c4 (And.intro @c5 (And.intro @tok_refl (And.intro @castE (And.intro @lenTok (And.intro @szTok @zv30)))))))
  repeat' (first
   | (with_reducible refine isO ?_); first
     | refine mvA (h := ?_)
     | refine asA (h := ?_)
     | refine quA (h := ?_)
   | (with_reducible refine isC ?_); first
     | refine ctA (h := ?_)
     | refine cfA (h := ?_)
     | refine cdA (h1 := fun _ => ?_) (h0 := fun _ => ?_)
     | refine cbA (h1 := fun _ => ?_) (h0 := fun _ => ?_)
   | with_reducible refine Ev.seq ?_
   | with_reducible refine Ev.ops ?_
   | with_reducible refine NxE ?_
   | with_reducible refine BxN ?_
   | with_reducible refine BxX ?_
   | with_reducible refine NxX ?_
   | with_reducible refine NxR ?_
   | with_reducible refine BxR ?_
   | with_reducible refine NxG ?_
   | with_reducible refine BxG ?_
   | with_reducible refine GxR ?_
   | with_reducible refine GxN ?_
   | with_reducible refine GxX ?_
   | with_reducible refine Ev.goto ?_
   | with_reducible refine Ev.block ?_
   | with_reducible refine Ev.skip ?_
   | with_reducible refine Ev.exit ?_
   | with_reducible refine Ev.ret ?_
   | with_reducible refine Ev.label ?_
   | with_reducible refine EvOps.nil ?_
   | with_reducible refine EvPlan.nil ?_
   | (with_reducible refine BxO ?_ ?_; · decide)
   )
  all_goals first
    | (exfalso; omega)
    | refine lfA (rl := [.tmp 2]) rfl (hv := by
      simp only [packV, strip, stripAgg, stripCell, List.map_cons, List.map_nil]
      (first | done | rfl)) (hp := rfl)

theorem noEnd {l : List Tok} (h : Goods l) : ∀ t ∈ l, t.kind ≠ 7 := by
  induction h with
  | nil => intro t ht; cases ht
  | cons hg _ ih =>
    intro t ht
    rcases List.mem_cons.1 ht with rfl | ht
    · have h1 := hg.kind
      have h2 := hg.k6
      omega
    · exact ih t ht
theorem same_noEnd {l m : List Tok} (h : Same l m) (hl : ∀ t ∈ l, t.kind ≠ 7) : ∀ t ∈ m, t.kind ≠ 7 := by
  induction h with
  | nil => intro t ht; cases ht
  | cons hx _ ih =>
    intro t ht
    rcases List.mem_cons.1 ht with rfl | ht
    · rw [← hx.1]; exact hl _ (by simp)
    · exact ih (fun t ht => hl t (by simp [ht])) t ht
theorem same_end {l m : List Tok} (h : Same l m) (a b : Nat) : Same (l ++ [endTok a]) (m ++ [endTok b]) := by
  induction h with
  | nil => exact .cons ⟨rfl, rfl, rfl⟩ .nil
  | cons hx _ ih => exact .cons hx ih
theorem lens_take (l : List Tok) (j : Nat) : lensT (l.take j) ≤ lensT l := by
  unfold lensT
  induction l generalizing j with
  | nil => simp
  | cons t l ih =>
    cases j with
    | zero => simp
    | succ j =>
      simp only [List.take_succ_cons, List.map_cons, List.sum_cons]
      have := ih j
      omega
theorem goods_take {l : List Tok} (h : Goods l) : ∀ j, Goods (l.take j) := by
  induction h with
  | nil => intro j; simp; exact .nil
  | cons hg _ ih =>
    intro j
    cases j with
    | zero => exact .nil
    | succ j => exact .cons hg (ih j)
theorem text_le {l : List Tok} : ∀ i, (l.getD i (endTok 0)).text.length ≤ lensT l := by
  induction l with
  | nil => intro i; simp [endTok]
  | cons t l ih =>
    intro i
    have hw : t.text.length ≤ t.w.length := by unfold Tok.w; split <;> simp; omega
    have e : lensT (t :: l) = t.w.length + lensT l := by unfold lensT; rw [List.map_cons, List.sum_cons]
    cases i with
    | zero => show t.text.length ≤ _; omega
    | succ i =>
      have := ih i
      show (l.getD i (endTok 0)).text.length ≤ _
      omega
/-- What the law asks of the tokens of a text. -/
theorem join_facts {T : List Tok} (hG : Goods T) (hl : lensT T ≤ 5000) (b : Nat) : (T ++ [endTok b]).length ≤ 100000 ∧ (∀ i, ((T ++ [endTok b]).getD i (endTok 0)).text.length ≤ 100000) ∧ (∀ j, (Lib.join (partsW ((T ++ [endTok b]).take j)) [32]).length ≤ 1048576) ∧ partsW (T ++ [endTok b]) = T.map Tok.w := by
  have h1 := goods_length hG
  refine ⟨by simp; omega, fun i => ?_, fun j => ?_, partsW_end (noEnd hG) b⟩
  · have := text_le (l := T ++ [endTok b]) i
    have e : lensT (T ++ [endTok b]) = lensT T := by unfold lensT; rw [List.map_append, List.sum_append]; rfl
    omega
  · by_cases hj : j ≤ T.length
    · rw [List.take_append_of_le_length hj]
      have hp : partsW (T.take j) = (T.take j).map Tok.w := by
        unfold partsW
        rw [List.filter_eq_self.2]
        intro t ht
        have := noEnd hG t (List.mem_of_mem_take ht)
        simpa using this
      rw [hp]
      have := (joinW_length (goods_take hG j)).2
      have h3 := lens_take T j
      unfold joinW at this
      omega
    · rw [List.take_of_length_le (by simp; omega), partsW_end (noEnd hG) b]
      have := (joinW_length hG).2
      unfold joinW at this
      omega
/-- The tokens of the joined text. -/
theorem joined_lex {T : List Tok} (hG : Goods T) (hl : (joinW T).length ≤ 4096) : ∃ m b, lexA (joinW T) = (m ++ [endTok b], 0, 0) ∧ Same T m := by
  obtain ⟨m, b, h, hs⟩ := lexR_join hG ((joinW T).length + 2 * T.length + 2) 0 (by omega)
  refine ⟨m, b, lexA_ok _ (by omega) ?_, hs⟩
  show lexR ((joinW T).length + 1) ((joinW T).drop 0) 0 = _
  rw [List.drop_zero, lexR_fuel _ ((joinW T).length + 2 * T.length + 2) _ _ (by omega) (by omega), h]

set_option maxHeartbeats 8000000 in
theorem joinsS (sx : List UInt8) (hmax : sx.length ≤ 4611686018427387904) (st : St) : FnS cx 6 [.str sx] st (.bool true) st := by
  rcases lexA_cases sx with ⟨⟨e, p⟩, hA, he, he2⟩ | ⟨hs, l, hL, hA⟩
  · have he : (e : Int) ≠ 0 := by simp only at he; omega
    refine goP Tryd.func6 rfl rfl rfl rfl ?_ ?_
    · rfl
    intro t ht
    have a0 : tget t 0 = .str sx := ht 0 _ rfl
    clear ht
    have ex := And.intro @a0 (And.intro @he (And.intro @tok_refl (And.intro @castE (And.intro @lenTok (And.intro @szTok @zv30)))))
    repeat' (first
     | (with_reducible refine isO ?_); first
       | refine mvA (h := ?_)
       | refine asA (h := ?_)
       | refine quA (h := ?_)
       | refine caA (hc := toksX hA hmax _) (h := ?_)
       | refine caA (hc := livesS _) (h := ?_)
     | (with_reducible refine isG ?_); first
       | refine stA (h := ?_)
       | refine srA (h := ?_)
       | refine swA (h := ?_)
       | refine s1A (h := ?_)
       | refine s0A (h := ?_)
       | refine sgA (h1 := fun _ => ?_) (h0 := fun _ => ?_)
       | refine sbA (h1 := fun _ => ?_) (h0 := fun _ => ?_)
     | (with_reducible refine isC ?_); first
       | refine ctA (h := ?_)
       | refine cfA (h := ?_)
       | refine cdA (h1 := fun _ => ?_) (h0 := fun _ => ?_)
       | refine cbA (h1 := fun _ => ?_) (h0 := fun _ => ?_)
     | with_reducible refine Ev.seq ?_
     | with_reducible refine Ev.ops ?_
     | with_reducible refine NxE ?_
     | with_reducible refine BxN ?_
     | with_reducible refine BxX ?_
     | with_reducible refine NxX ?_
     | with_reducible refine NxR ?_
     | with_reducible refine BxR ?_
     | with_reducible refine NxG ?_
     | with_reducible refine BxG ?_
     | with_reducible refine GxR ?_
     | with_reducible refine GxN ?_
     | with_reducible refine GxX ?_
     | with_reducible refine Ev.goto ?_
     | with_reducible refine Ev.block ?_
     | with_reducible refine Ev.skip ?_
     | with_reducible refine Ev.exit ?_
     | with_reducible refine Ev.ret ?_
     | with_reducible refine Ev.label ?_
     | with_reducible refine EvOps.nil ?_
     | with_reducible refine EvPlan.nil ?_
     | (with_reducible refine BxO ?_ ?_; · decide)
     )
    all_goals first
      | (exfalso; omega)
      | refine lfA (rl := [.tmp 2]) rfl (hv := by
      simp only [packV, strip, stripAgg, stripCell, List.map_cons, List.map_nil]
      (first | done | rfl)) (hp := rfl)
  obtain ⟨T, b, rfl, hG, hlen⟩ := lexR_good (sx.length + 1) (sx.drop 0) 0 l hL
  rw [List.drop_zero] at hlen
  obtain ⟨f1, f2, f3, f4⟩ := join_facts hG (by omega) b
  have fJ := f3 (T ++ [endTok b]).length
  rw [List.take_length] at fJ
  have hj := fun st => joinS _ f1 f2 fJ st
  have hrj := fun st => refJoinS _ f1 f2 f3 st
  rw [f4] at hj hrj
  have hbnd : (Lib.join (T.map Tok.w) [32]).length ≤ 1048576 := by rw [← f4]; exact fJ
  have ht := fun st => toksX hA hmax st
  by_cases hbig : 4096 < (Lib.join (T.map Tok.w) [32]).length
  · generalize Lib.join (T.map Tok.w) [32] = J at *
    refine goP Tryd.func6 rfl rfl rfl rfl ?_ ?_
    · rfl
    intro t ht
    have a0 : tget t 0 = .str sx := ht 0 _ rfl
    clear ht
    have ex := And.intro @a0 (And.intro @tok_refl (And.intro @castE (And.intro @lenTok (And.intro @szTok @zv30))))
    repeat' (first
     | (with_reducible refine isO ?_); first
       | refine mvA (h := ?_)
       | refine asA (h := ?_)
       | refine quA (h := ?_)
       | refine caA (hc := ht _) (h := ?_)
       | refine caA (hc := livesS _) (h := ?_)
       | refine caA (hc := hj _) (h := ?_)
       | refine caA (hc := hrj _) (h := ?_)
     | (with_reducible refine isG ?_); first
       | refine stA (h := ?_)
       | refine srA (h := ?_)
       | refine swA (h := ?_)
       | refine s1A (h := ?_)
       | refine s0A (h := ?_)
       | refine sgA (h1 := fun _ => ?_) (h0 := fun _ => ?_)
       | refine sbA (h1 := fun _ => ?_) (h0 := fun _ => ?_)
     | (with_reducible refine isC ?_); first
       | refine ctA (h := ?_)
       | refine cfA (h := ?_)
       | refine cdA (h1 := fun _ => ?_) (h0 := fun _ => ?_)
       | refine cbA (h1 := fun _ => ?_) (h0 := fun _ => ?_)
     | with_reducible refine Ev.seq ?_
     | with_reducible refine Ev.ops ?_
     | with_reducible refine NxE ?_
     | with_reducible refine BxN ?_
     | with_reducible refine BxX ?_
     | with_reducible refine NxX ?_
     | with_reducible refine NxR ?_
     | with_reducible refine BxR ?_
     | with_reducible refine NxG ?_
     | with_reducible refine BxG ?_
     | with_reducible refine GxR ?_
     | with_reducible refine GxN ?_
     | with_reducible refine GxX ?_
     | with_reducible refine Ev.goto ?_
     | with_reducible refine Ev.block ?_
     | with_reducible refine Ev.skip ?_
     | with_reducible refine Ev.exit ?_
     | with_reducible refine Ev.ret ?_
     | with_reducible refine Ev.label ?_
     | with_reducible refine EvOps.nil ?_
     | with_reducible refine EvPlan.nil ?_
     | (with_reducible refine BxO ?_ ?_; · decide)
     )
    all_goals first
      | (exfalso; omega)
      | refine lfA (rl := [.tmp 2]) rfl (hv := by
      simp only [packV, strip, stripAgg, stripCell, List.map_cons, List.map_nil]
      (first | done | rfl)) (hp := rfl)
  obtain ⟨m, b2, hA2, hS⟩ := joined_lex hG (by unfold joinW; omega)
  have hm := same_noEnd hS (noEnd hG)
  have hmw := same_w hS
  have hml := hS.length
  have hGl := goods_length hG
  have g4 := partsW_end hm b2
  have gT : ∀ i, ((m ++ [endTok b2]).getD i (endTok 0)).text.length ≤ 100000 := fun i => by
    have h1 := text_le (l := m ++ [endTok b2]) i
    have e1 : lensT (m ++ [endTok b2]) = lensT T := by unfold lensT; rw [List.map_append, List.sum_append]; have := congrArg (fun x => (x.map List.length).sum) hmw; simp only [List.map_map] at this; have e2 : (List.map (fun t => t.w.length) [endTok b2]).sum = 0 := rfl; rw [e2, Nat.add_zero]; exact this.symm
    omega
  have hj2 := fun st => joinS (m ++ [endTok b2]) (by simp; omega) gT (by rw [g4, ← hmw]; exact hbnd) st
  rw [g4, ← hmw] at hj2
  have hsame := fun st => sameS _ _ (same_end hS b b2) (by simp; omega) st
  have ht2 := fun st => toksX hA2 (by unfold joinW; omega) st
  unfold joinW at ht2
  generalize Lib.join (T.map Tok.w) [32] = J at *
  refine goP Tryd.func6 rfl rfl rfl rfl ?_ ?_
  · rfl
  intro t ht
  have a0 : tget t 0 = .str sx := ht 0 _ rfl
  clear ht
  have ex := And.intro @a0 (And.intro @tok_refl (And.intro @castE (And.intro @lenTok (And.intro @szTok @zv30))))
  repeat' (first
   | (with_reducible refine isO ?_); first
     | refine mvA (h := ?_)
     | refine asA (h := ?_)
     | refine quA (h := ?_)
     | refine caA (hc := ht _) (h := ?_)
     | refine caA (hc := ht2 _) (h := ?_)
     | refine caA (hc := livesS _) (h := ?_)
     | refine caA (hc := hj _) (h := ?_)
     | refine caA (hc := hj2 _) (h := ?_)
     | refine caA (hc := hrj _) (h := ?_)
     | refine caA (hc := hsame _) (h := ?_)
   | (with_reducible refine isG ?_); first
     | refine stA (h := ?_)
     | refine srA (h := ?_)
     | refine swA (h := ?_)
     | refine s1A (h := ?_)
     | refine s0A (h := ?_)
     | refine sgA (h1 := fun _ => ?_) (h0 := fun _ => ?_)
     | refine sbA (h1 := fun _ => ?_) (h0 := fun _ => ?_)
   | (with_reducible refine isC ?_); first
     | refine ctA (h := ?_)
     | refine cfA (h := ?_)
     | refine cdA (h1 := fun _ => ?_) (h0 := fun _ => ?_)
     | refine cbA (h1 := fun _ => ?_) (h0 := fun _ => ?_)
   | with_reducible refine Ev.seq ?_
   | with_reducible refine Ev.ops ?_
   | with_reducible refine NxE ?_
   | with_reducible refine BxN ?_
   | with_reducible refine BxX ?_
   | with_reducible refine NxX ?_
   | with_reducible refine NxR ?_
   | with_reducible refine BxR ?_
   | with_reducible refine NxG ?_
   | with_reducible refine BxG ?_
   | with_reducible refine GxR ?_
   | with_reducible refine GxN ?_
   | with_reducible refine GxX ?_
   | with_reducible refine Ev.goto ?_
   | with_reducible refine Ev.block ?_
   | with_reducible refine Ev.skip ?_
   | with_reducible refine Ev.exit ?_
   | with_reducible refine Ev.ret ?_
   | with_reducible refine Ev.label ?_
   | with_reducible refine EvOps.nil ?_
   | with_reducible refine EvPlan.nil ?_
   | (with_reducible refine BxO ?_ ?_; · decide)
   )
  all_goals first
    | (exfalso; omega)
    | refine lfA (rl := [.tmp 2]) rfl (hv := by
      simp only [packV, strip, stripAgg, stripCell, List.map_cons, List.map_nil]
      (first | done | rfl)) (hp := rfl)
end Go.Proofs.YtmdiieignlidhaaDoor
