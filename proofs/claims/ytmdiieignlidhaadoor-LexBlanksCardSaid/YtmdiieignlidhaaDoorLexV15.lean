/- The law of places, by the program. -/
import Derived.Test.YtmdiieignlidhaaDoorLexV14
set_option linter.unusedSimpArgs false
set_option linter.unusedVariables false
set_option linter.unusedSectionVars false
set_option maxRecDepth 100000
namespace Go.Proofs.YtmdiieignlidhaaDoor
open Go Go.Vm Go.Proofs

theorem lenTok (l : List Tok) : (l.map Tok.v).length = l.length := List.length_map _
theorem szTok (l : List Tok) : szOk 4 (l.map Tok.v) = true := by cases l <;> rfl
theorem zv30 : zeroV cx 30 = some (.agg [.int .i64 0, .str [], .int .u64 0, .int .i64 0]) := by rfl
theorem tokAt {l : List Tok} {i : Nat} (h : i < l.length) : (l.map Tok.v)[i]? = some (.agg [.int .i64 (l.getD i (endTok 0)).kind, .str (l.getD i (endTok 0)).text, .int .u64 (l.getD i (endTok 0)).num, .int .i64 (l.getD i (endTok 0)).place]) := by
  rw [List.getElem?_map, List.getElem?_eq_getElem h]
  simp [h, Tok.v]
/-- What the tokens of any text are. -/
theorem lexA_cases (sx : List UInt8) : (∃ a : Nat × Nat, lexA sx = ([], a.1, a.2) ∧ a.1 ≠ 0 ∧ (a.1 = 3 ∨ a.1 = 140)) ∨ (sx.length ≤ 4096 ∧ ∃ l, lexL sx 0 = .inl l ∧ lexA sx = (l, 0, 0)) := by
  unfold lexA
  split
  · exact .inl ⟨(3, 0), rfl, Nat.succ_ne_zero _, .inl rfl⟩
  · rename_i h
    cases hl : lexR (sx.length + 1) sx 0 with
    | inl l => exact .inr ⟨by omega, l, hl, rfl⟩
    | inr a => exact .inl ⟨(140, a), rfl, Nat.succ_ne_zero _, .inr rfl⟩
theorem okPl_drop {s : List UInt8} : ∀ {l : List Tok} {e : Int} {j : Nat}, j < l.length → okPl s e (l.drop j) → e ≤ (l.getD j (endTok 0)).place ∧ 0 ≤ (l.getD j (endTok 0)).place ∧ (l.getD j (endTok 0)).place ≤ s.length ∧ atOf (l.getD j (endTok 0)) + (l.getD j (endTok 0)).text.length ≤ s.length ∧
    (s.drop (atOf (l.getD j (endTok 0))).toNat).take (l.getD j (endTok 0)).text.length = (l.getD j (endTok 0)).text ∧ okPl s (atOf (l.getD j (endTok 0)) + (l.getD j (endTok 0)).text.length) (l.drop (j + 1)) := by
  intro l e j hj h
  have hc : l.drop j = l.getD j (endTok 0) :: l.drop (j + 1) := by rw [List.drop_eq_getElem_cons hj]; simp [hj]
  rw [hc] at h
  exact h

set_option maxHeartbeats 16000000 in
theorem placesS (sx : List UInt8) (hmax : sx.length ≤ 4611686018427387904) (st : St) : FnS cx 4 [.str sx] st (.bool true) st := by
  rcases lexA_cases sx with ⟨⟨e, p⟩, hA, he, he2⟩ | ⟨hs, l, hL, hA⟩
  · have he : (e : Int) ≠ 0 := by simp only at he; omega
    refine goP Tryd.func4 rfl rfl rfl rfl ?_ ?_
    · rfl
    intro t ht
    have a0 : tget t 0 = .str sx := ht 0 _ rfl
    clear ht
    have ex := And.intro @a0 (And.intro @he (And.intro @tok_refl (And.intro @castE (And.intro @lenTok (And.intro @szTok @zv30)))))
    repeat' (first
     | (with_reducible refine isO ?_); first
       | refine mvA (h := ?_)
       | refine asA (h := ?_)
       | refine quA (h := ?_)
       | refine wnA (h := ?_)
       | refine caA (hc := toksX hA hmax _) (h := ?_)
       | refine caA (hc := livesS _) (h := ?_)
     | (with_reducible refine isG ?_); first
       | refine stA (h := ?_)
       | refine srA (h := ?_)
       | refine swA (h := ?_)
       | refine s1A (h := ?_)
       | refine s0A (h := ?_)
       | refine sgA (h1 := fun _ => ?_) (h0 := fun _ => ?_)
       | refine sbA (h1 := fun _ => ?_) (h0 := fun _ => ?_)
     | (with_reducible refine isP ?_); first
       | refine dqA (h := ?_)
       | refine dqAG (h := ?_)
       | refine dsA (h := ?_)
       | refine dtA (h := ?_)
       | refine dgA (h1 := fun _ => ?_) (h0 := fun _ => ?_)
     | (with_reducible refine isC ?_); first
       | refine ctA (h := ?_)
       | refine cfA (h := ?_)
       | refine cdA (h1 := fun _ => ?_) (h0 := fun _ => ?_)
       | refine cbA (h1 := fun _ => ?_) (h0 := fun _ => ?_)
     | (with_reducible refine isR ?_); first
       | refine Ev.drawn (by decide +kernel) (l := [0, 1, 2, 3, 4, 5, 6, 7, 8, 9, 10, 11, 12, 13, 14, 15, 16, 17, 18, 19, 20]) (by decide +kernel) ?_
     | with_reducible refine Ev.seq ?_
     | with_reducible refine Ev.ops ?_
     | with_reducible refine NxE ?_
     | with_reducible refine BxN ?_
     | with_reducible refine BxX ?_
     | with_reducible refine NxX ?_
     | with_reducible refine NxR ?_
     | with_reducible refine BxR ?_
     | with_reducible refine NxG ?_
     | with_reducible refine BxG ?_
     | with_reducible refine GxR ?_
     | with_reducible refine GxN ?_
     | with_reducible refine GxX ?_
     | with_reducible refine Ev.goto ?_
     | with_reducible refine Ev.block ?_
     | with_reducible refine Ev.skip ?_
     | with_reducible refine Ev.exit ?_
     | with_reducible refine Ev.ret ?_
     | with_reducible refine Ev.label ?_
     | with_reducible refine EvOps.nil ?_
     | with_reducible refine EvPlan.nil ?_
     | (with_reducible refine BxO ?_ ?_; · decide)
     )
    all_goals first
      | (exfalso; omega)
      | refine lfA (rl := [.tmp 2]) rfl (hv := by
      simp only [packV, strip, stripAgg, stripCell, List.map_cons, List.map_nil]
      (first | done | rfl)) (hp := rfl)
  obtain ⟨hP, m, hm, hml⟩ := lexR_places sx (sx.length + 1) 0 l (by omega) hL
  have hlen : l.length = m.length + 1 := by rw [hm]; simp
  refine goP Tryd.func4 rfl rfl rfl rfl ?_ ?_
  · rfl
  intro t ht
  have a0 : tget t 0 = .str sx := ht 0 _ rfl
  clear ht
  have ex := And.intro @a0 (And.intro @tok_refl (And.intro @castE (And.intro @lenTok (And.intro @szTok @zv30))))
  repeat' (first
   | (with_reducible refine isO ?_); first
     | refine mvA (h := ?_)
     | refine asA (h := ?_)
     | refine quA (h := ?_)
     | refine wnA (h := ?_)
     | refine caA (hc := toksX hA hmax _) (h := ?_)
     | refine caA (hc := livesS _) (h := ?_)
   | (with_reducible refine isG ?_); first
     | refine stA (h := ?_)
     | refine srA (h := ?_)
     | refine swA (h := ?_)
     | refine s1A (h := ?_)
     | refine s0A (h := ?_)
     | refine sgA (h1 := fun _ => ?_) (h0 := fun _ => ?_)
     | refine sbA (h1 := fun _ => ?_) (h0 := fun _ => ?_)
   | (with_reducible refine isP ?_); first
     | refine dqA (h := ?_)
     | refine dqAG (h := ?_)
     | refine dsA (h := ?_)
     | refine dtA (h := ?_)
     | refine dgA (h1 := fun _ => ?_) (h0 := fun _ => ?_)
   | (with_reducible refine isC ?_); first
     | refine ctA (h := ?_)
     | refine cfA (h := ?_)
     | refine cdA (h1 := fun _ => ?_) (h0 := fun _ => ?_)
     | refine cbA (h1 := fun _ => ?_) (h0 := fun _ => ?_)
   | (with_reducible refine isR ?_); first
     | refine Ev.drawn (by decide +kernel) (l := [0, 1, 2, 3, 4, 5, 6, 7, 8, 9, 10, 11, 12, 13, 14, 15, 16, 17, 18, 19, 20]) (by decide +kernel) ?_
   | with_reducible refine Ev.seq ?_
   | with_reducible refine Ev.ops ?_
   | with_reducible refine NxE ?_
   | with_reducible refine BxN ?_
   | with_reducible refine BxX ?_
   | with_reducible refine NxX ?_
   | with_reducible refine NxR ?_
   | with_reducible refine BxR ?_
   | with_reducible refine NxG ?_
   | with_reducible refine BxG ?_
   | with_reducible refine GxR ?_
   | with_reducible refine GxN ?_
   | with_reducible refine GxX ?_
   | with_reducible refine Ev.goto ?_
   | with_reducible refine Ev.block ?_
   | with_reducible refine Ev.skip ?_
   | with_reducible refine Ev.exit ?_
   | with_reducible refine Ev.ret ?_
   | with_reducible refine Ev.label ?_
   | with_reducible refine EvOps.nil ?_
   | with_reducible refine EvPlan.nil ?_
   | (with_reducible refine BxO ?_ ?_; · decide)
   )
  refine loopT (fun r t st => ∃ (j : Nat) (e : Int), r = l.length - j ∧ j ≤ l.length ∧ okPl sx e (l.drop j) ∧ tget t 0 = .str sx ∧ tget t 3 = .sl .none (l.map Tok.v) ∧ tget t 6 = .int .i64 e ∧ tget t 7 = .int .i64 j) (n := l.length) ?_ ?_
  · refine ⟨0, 0, by omega, by omega, hP, ?_, ?_, ?_, ?_⟩
    all_goals (simp only [↓evP, ↓tgP, ↓reduceIte, Nat.reduceEqDiff, reduceCtorEq, List.map_cons, List.map_nil, List.nil_append, List.append_nil, List.toList_toArray, a0]; try rfl)
  rintro r t ⟨H, n⟩ ⟨j, e, rfl, hj, hpl, c0, c3, c6, c7⟩
  by_cases hjl : j < l.length
  · obtain ⟨p1, p2, p3, p4, p5, hnext⟩ := okPl_drop hjl hpl
    obtain ⟨p, hp⟩ : ∃ p : Nat, (l.getD j (endTok 0)).place = p := ⟨(l.getD j (endTok 0)).place.toNat, by omega⟩
    by_cases hk : (l.getD j (endTok 0)).kind = 6
    · have ha : atOf (l.getD j (endTok 0)) = (p : Int) + 1 := by unfold atOf; rw [if_pos hk, hp]
      rw [ha] at p4 p5 hnext
      have tp : ((p : Int) + 1).toNat = p + 1 := by omega
      have tq : ((p : Int) + 1 + ((l.getD j (endTok 0)).text.length : Int)).toNat = p + 1 + (l.getD j (endTok 0)).text.length := by omega
      have hsl : (sx.take (p + 1 + (l.getD j (endTok 0)).text.length)).drop (p + 1) = (l.getD j (endTok 0)).text := by rw [List.drop_take, Nat.add_sub_cancel_left]; rw [tp] at p5; exact p5
      rw [hp] at p1 p2 p3
      have bqq := beq_self_eq_true n
      have ex := And.intro @c0 (And.intro @c3 (And.intro @c6 (And.intro @c7 (And.intro @tokAt (And.intro @hp (And.intro @hk (And.intro @hsl (And.intro @tp (And.intro @tq (And.intro @bqq (And.intro @tok_refl (And.intro @castE (And.intro @lenTok (And.intro @szTok @zv30))))))))))))))
      repeat' (first
       | (with_reducible refine isO ?_); first
         | refine mvA (h := ?_)
         | refine asA (h := ?_)
         | refine quA (h := ?_)
         | refine wnA (h := ?_)
       | (with_reducible refine isG ?_); first
         | refine stA (h := ?_)
         | refine srA (h := ?_)
         | refine swA (h := ?_)
         | refine s1A (h := ?_)
         | refine s0A (h := ?_)
         | refine sgA (h1 := fun _ => ?_) (h0 := fun _ => ?_)
         | refine sbA (h1 := fun _ => ?_) (h0 := fun _ => ?_)
       | (with_reducible refine isP ?_); first
         | refine dqA (h := ?_)
         | refine dqAG (h := ?_)
         | refine dsA (h := ?_)
         | refine dtA (h := ?_)
         | refine dgA (h1 := fun _ => ?_) (h0 := fun _ => ?_)
       | (with_reducible refine isC ?_); first
         | refine ctA (h := ?_)
         | refine cfA (h := ?_)
         | refine cdA (h1 := fun _ => ?_) (h0 := fun _ => ?_)
         | refine cbA (h1 := fun _ => ?_) (h0 := fun _ => ?_)
       | (with_reducible refine isR ?_); first
         | refine Ev.drawn (by decide +kernel) (l := [0, 1, 2, 3, 4, 5, 6, 7, 8, 9, 10, 11, 12, 13, 14, 15, 16, 17, 18, 19, 20]) (by decide +kernel) ?_
       | with_reducible refine Ev.seq ?_
       | with_reducible refine Ev.ops ?_
       | with_reducible refine NxE ?_
       | with_reducible refine BxN ?_
       | with_reducible refine BxX ?_
       | with_reducible refine NxX ?_
       | with_reducible refine NxR ?_
       | with_reducible refine BxR ?_
       | with_reducible refine NxG ?_
       | with_reducible refine BxG ?_
       | with_reducible refine GxR ?_
       | with_reducible refine GxN ?_
       | with_reducible refine GxX ?_
       | with_reducible refine Ev.goto ?_
       | with_reducible refine Ev.block ?_
       | with_reducible refine Ev.skip ?_
       | with_reducible refine Ev.exit ?_
       | with_reducible refine Ev.ret ?_
       | with_reducible refine Ev.label ?_
       | with_reducible refine EvOps.nil ?_
       | with_reducible refine EvPlan.nil ?_
       | (with_reducible refine BxO ?_ ?_; · decide)
       )
      all_goals first
        | (exfalso; omega)
        | (refine ⟨l.length - (j + 1), by omega, rfl, j + 1, _, rfl, by omega, hnext, ?_, ?_, ?_, ?_⟩ <;> simp only [↓evP, ↓tgP, ↓reduceIte, Nat.reduceEqDiff, reduceCtorEq, List.map_cons, List.map_nil, List.nil_append, List.append_nil, List.toList_toArray, c0, c3, c6, c7] <;> first | done | rfl)
    · have ha : atOf (l.getD j (endTok 0)) = (p : Int) := by unfold atOf; rw [if_neg hk, hp]
      rw [ha] at p4 p5 hnext
      have tp : ((p : Int)).toNat = p := by omega
      have tq : ((p : Int) + ((l.getD j (endTok 0)).text.length : Int)).toNat = p + (l.getD j (endTok 0)).text.length := by omega
      have hsl : (sx.take (p + (l.getD j (endTok 0)).text.length)).drop p = (l.getD j (endTok 0)).text := by rw [List.drop_take, Nat.add_sub_cancel_left]; rw [tp] at p5; exact p5
      rw [hp] at p1 p2 p3
      have bqq := beq_self_eq_true n
      have ex := And.intro @c0 (And.intro @c3 (And.intro @c6 (And.intro @c7 (And.intro @tokAt (And.intro @hp (And.intro @hk (And.intro @hsl (And.intro @tp (And.intro @tq (And.intro @bqq (And.intro @tok_refl (And.intro @castE (And.intro @lenTok (And.intro @szTok @zv30))))))))))))))
      repeat' (first
       | (with_reducible refine isO ?_); first
         | refine mvA (h := ?_)
         | refine asA (h := ?_)
         | refine quA (h := ?_)
         | refine wnA (h := ?_)
       | (with_reducible refine isG ?_); first
         | refine stA (h := ?_)
         | refine srA (h := ?_)
         | refine swA (h := ?_)
         | refine s1A (h := ?_)
         | refine s0A (h := ?_)
         | refine sgA (h1 := fun _ => ?_) (h0 := fun _ => ?_)
         | refine sbA (h1 := fun _ => ?_) (h0 := fun _ => ?_)
       | (with_reducible refine isP ?_); first
         | refine dqA (h := ?_)
         | refine dqAG (h := ?_)
         | refine dsA (h := ?_)
         | refine dtA (h := ?_)
         | refine dgA (h1 := fun _ => ?_) (h0 := fun _ => ?_)
       | (with_reducible refine isC ?_); first
         | refine ctA (h := ?_)
         | refine cfA (h := ?_)
         | refine cdA (h1 := fun _ => ?_) (h0 := fun _ => ?_)
         | refine cbA (h1 := fun _ => ?_) (h0 := fun _ => ?_)
       | (with_reducible refine isR ?_); first
         | refine Ev.drawn (by decide +kernel) (l := [0, 1, 2, 3, 4, 5, 6, 7, 8, 9, 10, 11, 12, 13, 14, 15, 16, 17, 18, 19, 20]) (by decide +kernel) ?_
       | with_reducible refine Ev.seq ?_
       | with_reducible refine Ev.ops ?_
       | with_reducible refine NxE ?_
       | with_reducible refine BxN ?_
       | with_reducible refine BxX ?_
       | with_reducible refine NxX ?_
       | with_reducible refine NxR ?_
       | with_reducible refine BxR ?_
       | with_reducible refine NxG ?_
       | with_reducible refine BxG ?_
       | with_reducible refine GxR ?_
       | with_reducible refine GxN ?_
       | with_reducible refine GxX ?_
       | with_reducible refine Ev.goto ?_
       | with_reducible refine Ev.block ?_
       | with_reducible refine Ev.skip ?_
       | with_reducible refine Ev.exit ?_
       | with_reducible refine Ev.ret ?_
       | with_reducible refine Ev.label ?_
       | with_reducible refine EvOps.nil ?_
       | with_reducible refine EvPlan.nil ?_
       | (with_reducible refine BxO ?_ ?_; · decide)
       )
      all_goals first
        | (exfalso; omega)
        | (refine ⟨l.length - (j + 1), by omega, rfl, j + 1, _, rfl, by omega, hnext, ?_, ?_, ?_, ?_⟩ <;> simp only [↓evP, ↓tgP, ↓reduceIte, Nat.reduceEqDiff, reduceCtorEq, List.map_cons, List.map_nil, List.nil_append, List.append_nil, List.toList_toArray, c0, c3, c6, c7] <;> first | done | rfl)
  · have hlast : (l.map Tok.v)[((l.length : Int) - 1).toNat]? = some (.agg [.int .i64 7, .str [], .int .u64 0, .int .i64 sx.length]) := by
      rw [show ((l.length : Int) - 1).toNat = m.length by omega, hm, List.map_append, List.getElem?_append_right (by simp)]
      simp; rfl
    have hpos : (l.length : Int) > 0 := by omega
    clear hm
    have ex := And.intro @c0 (And.intro @c3 (And.intro @c6 (And.intro @c7 (And.intro @hlast (And.intro @tok_refl (And.intro @tok_refl (And.intro @castE (And.intro @lenTok (And.intro @szTok @zv30)))))))))
    repeat' (first
     | (with_reducible refine isO ?_); first
       | refine mvA (h := ?_)
       | refine asA (h := ?_)
       | refine quA (h := ?_)
       | refine wnA (h := ?_)
     | (with_reducible refine isG ?_); first
       | refine stA (h := ?_)
       | refine srA (h := ?_)
       | refine swA (h := ?_)
       | refine s1A (h := ?_)
       | refine s0A (h := ?_)
       | refine sgA (h1 := fun _ => ?_) (h0 := fun _ => ?_)
       | refine sbA (h1 := fun _ => ?_) (h0 := fun _ => ?_)
     | (with_reducible refine isP ?_); first
       | refine dqA (h := ?_)
       | refine dqAG (h := ?_)
       | refine dsA (h := ?_)
       | refine dtA (h := ?_)
       | refine dgA (h1 := fun _ => ?_) (h0 := fun _ => ?_)
     | (with_reducible refine isC ?_); first
       | refine ctA (h := ?_)
       | refine cfA (h := ?_)
       | refine cdA (h1 := fun _ => ?_) (h0 := fun _ => ?_)
       | refine cbA (h1 := fun _ => ?_) (h0 := fun _ => ?_)
     | (with_reducible refine isR ?_); first
       | refine Ev.drawn (by decide +kernel) (l := [0, 1, 2, 3, 4, 5, 6, 7, 8, 9, 10, 11, 12, 13, 14, 15, 16, 17, 18, 19, 20]) (by decide +kernel) ?_
     | with_reducible refine Ev.seq ?_
     | with_reducible refine Ev.ops ?_
     | with_reducible refine NxE ?_
     | with_reducible refine BxN ?_
     | with_reducible refine BxX ?_
     | with_reducible refine NxX ?_
     | with_reducible refine NxR ?_
     | with_reducible refine BxR ?_
     | with_reducible refine NxG ?_
     | with_reducible refine BxG ?_
     | with_reducible refine GxR ?_
     | with_reducible refine GxN ?_
     | with_reducible refine GxX ?_
     | with_reducible refine Ev.goto ?_
     | with_reducible refine Ev.block ?_
     | with_reducible refine Ev.skip ?_
     | with_reducible refine Ev.exit ?_
     | with_reducible refine Ev.ret ?_
     | with_reducible refine Ev.label ?_
     | with_reducible refine EvOps.nil ?_
     | with_reducible refine EvPlan.nil ?_
     | (with_reducible refine BxO ?_ ?_; · decide)
     )
    all_goals first
      | (exfalso; omega)
      | refine lfA (rl := [.tmp 2]) rfl (hv := by
      simp only [packV, strip, stripAgg, stripCell, List.map_cons, List.map_nil]
      (first | done | rfl)) (hp := rfl)
end Go.Proofs.YtmdiieignlidhaaDoor
