/- Two flows in their order. -/
import Derived.Test.YtbgalenfbmaceaaGreatDoorDeV8
set_option linter.unusedSimpArgs false
set_option linter.unusedVariables false
set_option maxRecDepth 1000000
namespace Go.Proofs.YtbgalenfbmaceaaGreatDoor.D
open Go Go.Vm Go.Proofs Go.Proofs.YtbgalenfbmaceaaGreatDoor

theorem hset2 {b : Nat} (x y : Ob) : ∀ H : List (Nat × Ob), hset (hset H b x) b y = hset H b y
  | [] => rfl
  | (i, o) :: r => by
    by_cases hi : i = b
    · subst hi
      simp only [hset, beq_self_eq_true, if_true]
    · have hib : (i == b) = false := by simpa using hi
      simp only [hset, hib, Bool.false_eq_true, if_false, hset2 x y r]

set_option maxHeartbeats 8000000 in
theorem sortKeep {H : List (Nat × Ob)} {n m cp : Nat} {x10 x11 x12 x13 x20 x21 x22 x23 : V} {k1 k2 : List UInt8} (hm : hget H m = some (.cells [x10, x11, x12, x13, .str k1, x20, x21, x22, x23, .str k2])) (hw : hdrop n (H) = H) (hc : ∀ st, FnS cw 18 [.agg [x20, x21, x22, x23, .str k2], .agg [x10, x11, x12, x13, .str k1]] st (.int .i64 (1)) st) :
    FnS cw 53 [.msl m 0 2 cp, .int .i64 0, .int .i64 2, .func (.func 18) [] []] ⟨H, n⟩ (.tup []) ⟨H, n⟩ := by
  have hss : ∀ x, hget (hset H m x) m = some x := fun x => by rw [hget_hset, if_pos rfl, hm]; rfl
  have hs2 : ∀ x y, hset (hset H m x) m y = hset H m y := fun x y => hset2 x y H
  refine goS Tryz.func53 rfl rfl rfl rfl ?_
  intro t ht
  have a0 : tget t 0 = .msl m 0 2 cp := ht 0 _ rfl
  have a1 : tget t 1 = .int .i64 0 := ht 1 _ rfl
  have a2 : tget t 2 = .int .i64 2 := ht 2 _ rfl
  have a3 : tget t 3 = .func (.func 18) [] [] := ht 3 _ rfl
  clear ht
  have ex := And.intro @a0 (And.intro @a1 (And.intro @a2 (And.intro @a3 (And.intro @hpB @zvE))))
  repeat' (first
   | (with_reducible refine isO ?_); first | refine mvA (h := ?_) | refine asA (h := ?_) | refine quA (h := ?_)
   | (with_reducible refine isP ?_); first | refine dqA (h := ?_) | refine dqAG (h := ?_) | refine dnA (i := 15) (l := []) (h := ?_) | refine dnA (i := 17) (l := []) (h := ?_) | refine dsA (h := ?_) | refine dtA (h := ?_) | refine dgA (h1 := fun _ => ?_) (h0 := fun _ => ?_)
   | (with_reducible refine isC ?_); first | refine ctA (h := ?_) | refine cfA (h := ?_) | refine cdA (h1 := fun _ => ?_) (h0 := fun _ => ?_) | refine cbA (h1 := fun _ => ?_) (h0 := fun _ => ?_)
   | (with_reducible refine isR ?_); first
     | refine Ev.drawn (by decide +kernel) (l := [0, 1, 2, 3, 4, 5, 6, 7, 8, 9, 10, 11, 12, 13, 14, 15, 16]) (by decide +kernel) ?_
     | refine Ev.drawn (by decide +kernel) (l := [0, 1, 2, 3, 4, 5, 6, 7, 8, 9, 10, 11, 12, 13, 14, 15, 16, 17]) (by decide +kernel) ?_
   | with_reducible first | refine Ev.seq ?_ | refine Ev.ops ?_ | refine NxE ?_ | refine BxN ?_ | refine BxX ?_ | refine NxX ?_ | refine NxR ?_ | refine BxR ?_ | refine Ev.block ?_ | refine Ev.skip ?_ | refine Ev.exit ?_ | refine Ev.ret ?_ | refine EvOps.nil ?_ | refine EvPlan.nil ?_
   | (with_reducible refine BxO ?_ ?_; · decide)
   )
  refine loopT (fun r t st => ((r = 1 ∧ tget t 8 = .int .i64 1 ∧ st = ⟨H, n⟩) ∨ (r = 0 ∧ tget t 8 = .int .i64 2 ∧ st = ⟨H, n⟩)) ∧ tget t 0 = .msl m 0 2 cp ∧ tget t 1 = .int .i64 0 ∧ tget t 2 = .int .i64 2 ∧ tget t 3 = .func (.func 18) [] []) (n := 1) ?_ ?_
  · refine ⟨.inl ⟨rfl, ?_, rfl⟩, ?_, ?_, ?_, ?_⟩
    · simp only [↓evP, ↓tgP, ↓reduceIte, Nat.reduceEqDiff, reduceCtorEq, List.map_cons, List.map_nil, List.nil_append, List.append_nil, List.toList_toArray, a1]
    · simp only [↓evP, ↓tgP, ↓reduceIte, Nat.reduceEqDiff, reduceCtorEq, List.map_cons, List.map_nil, List.nil_append, List.append_nil, List.toList_toArray, a0]
    · simp only [↓evP, ↓tgP, ↓reduceIte, Nat.reduceEqDiff, reduceCtorEq, List.map_cons, List.map_nil, List.nil_append, List.append_nil, List.toList_toArray, a1]
    · simp only [↓evP, ↓tgP, ↓reduceIte, Nat.reduceEqDiff, reduceCtorEq, List.map_cons, List.map_nil, List.nil_append, List.append_nil, List.toList_toArray, a2]
    · simp only [↓evP, ↓tgP, ↓reduceIte, Nat.reduceEqDiff, reduceCtorEq, List.map_cons, List.map_nil, List.nil_append, List.append_nil, List.toList_toArray, a3]
  clear a0 a1 a2 a3
  rintro r t st ⟨(⟨rfl, c8, rfl⟩ | ⟨rfl, c8, rfl⟩), c0, c1, c2, c3⟩
  · skip
    have ex := And.intro @c0 (And.intro @c1 (And.intro @c2 (And.intro @c3 (And.intro @c8 (And.intro @hpB @zvE)))))
    repeat' (first
     | (with_reducible refine isO ?_); first | refine mvA (h := ?_) | refine asA (h := ?_) | refine quA (h := ?_)
     | (with_reducible refine isP ?_); first | refine dqA (h := ?_) | refine dqAG (h := ?_) | refine dnA (i := 15) (l := []) (h := ?_) | refine dnA (i := 17) (l := []) (h := ?_) | refine dsA (h := ?_) | refine dtA (h := ?_) | refine dgA (h1 := fun _ => ?_) (h0 := fun _ => ?_)
     | (with_reducible refine isC ?_); first | refine ctA (h := ?_) | refine cfA (h := ?_) | refine cdA (h1 := fun _ => ?_) (h0 := fun _ => ?_) | refine cbA (h1 := fun _ => ?_) (h0 := fun _ => ?_)
     | (with_reducible refine isR ?_); first
       | refine Ev.drawn (by decide +kernel) (l := [0, 1, 2, 3, 4, 5, 6, 7, 8, 9, 10, 11, 12, 13, 14, 15, 16]) (by decide +kernel) ?_
       | refine Ev.drawn (by decide +kernel) (l := [0, 1, 2, 3, 4, 5, 6, 7, 8, 9, 10, 11, 12, 13, 14, 15, 16, 17]) (by decide +kernel) ?_
     | with_reducible first | refine Ev.seq ?_ | refine Ev.ops ?_ | refine NxE ?_ | refine BxN ?_ | refine BxX ?_ | refine NxX ?_ | refine NxR ?_ | refine BxR ?_ | refine Ev.block ?_ | refine Ev.skip ?_ | refine Ev.exit ?_ | refine Ev.ret ?_ | refine EvOps.nil ?_ | refine EvPlan.nil ?_
     | (with_reducible refine BxO ?_ ?_; · decide)
     )
    refine loopT (fun r t st => ((r = 1 ∧ tget t 9 = .int .i64 1 ∧ st = ⟨H, n⟩)) ∧ tget t 8 = .int .i64 1 ∧ tget t 0 = .msl m 0 2 cp ∧ tget t 1 = .int .i64 0 ∧ tget t 2 = .int .i64 2 ∧ tget t 3 = .func (.func 18) [] []) (n := 1) ?_ ?_
    · refine ⟨⟨rfl, ?_, rfl⟩, ?_, ?_, ?_, ?_, ?_⟩
      · simp only [↓evP, ↓tgP, ↓reduceIte, Nat.reduceEqDiff, reduceCtorEq, List.map_cons, List.map_nil, List.nil_append, List.append_nil, List.toList_toArray, c8]
      · simp only [↓evP, ↓tgP, ↓reduceIte, Nat.reduceEqDiff, reduceCtorEq, List.map_cons, List.map_nil, List.nil_append, List.append_nil, List.toList_toArray, c8]
      · simp only [↓evP, ↓tgP, ↓reduceIte, Nat.reduceEqDiff, reduceCtorEq, List.map_cons, List.map_nil, List.nil_append, List.append_nil, List.toList_toArray, c0]
      · simp only [↓evP, ↓tgP, ↓reduceIte, Nat.reduceEqDiff, reduceCtorEq, List.map_cons, List.map_nil, List.nil_append, List.append_nil, List.toList_toArray, c1]
      · simp only [↓evP, ↓tgP, ↓reduceIte, Nat.reduceEqDiff, reduceCtorEq, List.map_cons, List.map_nil, List.nil_append, List.append_nil, List.toList_toArray, c2]
      · simp only [↓evP, ↓tgP, ↓reduceIte, Nat.reduceEqDiff, reduceCtorEq, List.map_cons, List.map_nil, List.nil_append, List.append_nil, List.toList_toArray, c3]
    clear c0 c1 c2 c3 c8
    rintro r t st ⟨⟨rfl, c9, rfl⟩, c8, c0, c1, c2, c3⟩
    have ex := And.intro @c0 (And.intro @c1 (And.intro @c2 (And.intro @c3 (And.intro @c8 (And.intro @c9 (And.intro @hm (And.intro @hpB @zvE)))))))
    repeat' (first
     | (with_reducible refine isO ?_); first | refine mvA (h := ?_) | refine asA (h := ?_) | refine quA (h := ?_)
     | (with_reducible refine isP ?_); first | refine dqA (h := ?_) | refine dqAG (h := ?_) | refine dcAG (i := 14) (l := []) (hc := (hc _)) (h := ?_) | refine dnA (i := 15) (l := []) (h := ?_) | refine dnA (i := 17) (l := []) (h := ?_) | refine dsA (h := ?_) | refine dtA (h := ?_) | refine dgA (h1 := fun _ => ?_) (h0 := fun _ => ?_)
     | (with_reducible refine isC ?_); first | refine ctA (h := ?_) | refine cfA (h := ?_) | refine cdA (h1 := fun _ => ?_) (h0 := fun _ => ?_) | refine cbA (h1 := fun _ => ?_) (h0 := fun _ => ?_)
     | (with_reducible refine isR ?_); first
       | refine Ev.drawn (by decide +kernel) (l := [0, 1, 2, 3, 4, 5, 6, 7, 8, 9, 10, 11, 12, 13, 14, 15, 16]) (by decide +kernel) ?_
       | refine Ev.drawn (by decide +kernel) (l := [0, 1, 2, 3, 4, 5, 6, 7, 8, 9, 10, 11, 12, 13, 14, 15, 16, 17]) (by decide +kernel) ?_
     | with_reducible first | refine Ev.seq ?_ | refine Ev.ops ?_ | refine NxE ?_ | refine BxN ?_ | refine BxX ?_ | refine NxX ?_ | refine NxR ?_ | refine BxR ?_ | refine Ev.block ?_ | refine Ev.skip ?_ | refine Ev.exit ?_ | refine Ev.ret ?_ | refine EvOps.nil ?_ | refine EvPlan.nil ?_
     | (with_reducible refine BxO ?_ ?_; · decide)
     )
    refine ⟨0, by omega, rfl, .inr ⟨rfl, ?_, rfl⟩, ?_, ?_, ?_, ?_⟩
    · simp only [↓evP, ↓tgP, ↓reduceIte, Nat.reduceEqDiff, reduceCtorEq, List.map_cons, List.map_nil, List.nil_append, List.append_nil, List.toList_toArray, c8]
    · simp only [↓evP, ↓tgP, ↓reduceIte, Nat.reduceEqDiff, reduceCtorEq, List.map_cons, List.map_nil, List.nil_append, List.append_nil, List.toList_toArray, c0]
    · simp only [↓evP, ↓tgP, ↓reduceIte, Nat.reduceEqDiff, reduceCtorEq, List.map_cons, List.map_nil, List.nil_append, List.append_nil, List.toList_toArray, c1]
    · simp only [↓evP, ↓tgP, ↓reduceIte, Nat.reduceEqDiff, reduceCtorEq, List.map_cons, List.map_nil, List.nil_append, List.append_nil, List.toList_toArray, c2]
    · simp only [↓evP, ↓tgP, ↓reduceIte, Nat.reduceEqDiff, reduceCtorEq, List.map_cons, List.map_nil, List.nil_append, List.append_nil, List.toList_toArray, c3]
  · skip
    have ex := And.intro @c0 (And.intro @c1 (And.intro @c2 (And.intro @c3 (And.intro @c8 (And.intro @hpB @zvE)))))
    repeat' (first
     | (with_reducible refine isO ?_); first | refine mvA (h := ?_) | refine asA (h := ?_) | refine quA (h := ?_)
     | (with_reducible refine isP ?_); first | refine dqA (h := ?_) | refine dqAG (h := ?_) | refine dnA (i := 15) (l := []) (h := ?_) | refine dnA (i := 17) (l := []) (h := ?_) | refine dsA (h := ?_) | refine dtA (h := ?_) | refine dgA (h1 := fun _ => ?_) (h0 := fun _ => ?_)
     | (with_reducible refine isC ?_); first | refine ctA (h := ?_) | refine cfA (h := ?_) | refine cdA (h1 := fun _ => ?_) (h0 := fun _ => ?_) | refine cbA (h1 := fun _ => ?_) (h0 := fun _ => ?_)
     | (with_reducible refine isR ?_); first
       | refine Ev.drawn (by decide +kernel) (l := [0, 1, 2, 3, 4, 5, 6, 7, 8, 9, 10, 11, 12, 13, 14, 15, 16]) (by decide +kernel) ?_
       | refine Ev.drawn (by decide +kernel) (l := [0, 1, 2, 3, 4, 5, 6, 7, 8, 9, 10, 11, 12, 13, 14, 15, 16, 17]) (by decide +kernel) ?_
     | with_reducible first | refine Ev.seq ?_ | refine Ev.ops ?_ | refine NxE ?_ | refine BxN ?_ | refine BxX ?_ | refine NxX ?_ | refine NxR ?_ | refine BxR ?_ | refine Ev.block ?_ | refine Ev.skip ?_ | refine Ev.exit ?_ | refine Ev.ret ?_ | refine EvOps.nil ?_ | refine EvPlan.nil ?_
     | (with_reducible refine BxO ?_ ?_; · decide)
     )
    refine lsA (rl := []) rfl (hv := by
      simp only [leaveV, packV, strip, stripAgg, stripCell, List.map_cons, List.map_nil, show cw.grow 53 = false from rfl, show cw.keep 53 = false from rfl, show cw.frz 53 = false from rfl, if_false, if_true, Bool.false_eq_true]
      try simp only [hw]
      first | done | rfl)

set_option maxHeartbeats 8000000 in
theorem sortSwap {H : List (Nat × Ob)} {n m cp : Nat} {x10 x11 x12 x13 x20 x21 x22 x23 : V} {k1 k2 : List UInt8} (hm : hget H m = some (.cells [x10, x11, x12, x13, .str k1, x20, x21, x22, x23, .str k2])) (hw : hdrop n (hset H m (.cells [x20, x21, x22, x23, .str k2, x10, x11, x12, x13, .str k1])) = hset H m (.cells [x20, x21, x22, x23, .str k2, x10, x11, x12, x13, .str k1])) (hc : ∀ st, FnS cw 18 [.agg [x20, x21, x22, x23, .str k2], .agg [x10, x11, x12, x13, .str k1]] st (.int .i64 (-1)) st) :
    FnS cw 53 [.msl m 0 2 cp, .int .i64 0, .int .i64 2, .func (.func 18) [] []] ⟨H, n⟩ (.tup []) ⟨hset H m (.cells [x20, x21, x22, x23, .str k2, x10, x11, x12, x13, .str k1]), n⟩ := by
  have hss : ∀ x, hget (hset H m x) m = some x := fun x => by rw [hget_hset, if_pos rfl, hm]; rfl
  have hs2 : ∀ x y, hset (hset H m x) m y = hset H m y := fun x y => hset2 x y H
  refine goS Tryz.func53 rfl rfl rfl rfl ?_
  intro t ht
  have a0 : tget t 0 = .msl m 0 2 cp := ht 0 _ rfl
  have a1 : tget t 1 = .int .i64 0 := ht 1 _ rfl
  have a2 : tget t 2 = .int .i64 2 := ht 2 _ rfl
  have a3 : tget t 3 = .func (.func 18) [] [] := ht 3 _ rfl
  clear ht
  have ex := And.intro @a0 (And.intro @a1 (And.intro @a2 (And.intro @a3 (And.intro @hpB @zvE))))
  repeat' (first
   | (with_reducible refine isO ?_); first | refine mvA (h := ?_) | refine asA (h := ?_) | refine quA (h := ?_)
   | (with_reducible refine isP ?_); first | refine dqA (h := ?_) | refine dqAG (h := ?_) | refine dnA (i := 15) (l := []) (h := ?_) | refine dnA (i := 17) (l := []) (h := ?_) | refine dsA (h := ?_) | refine dtA (h := ?_) | refine dgA (h1 := fun _ => ?_) (h0 := fun _ => ?_)
   | (with_reducible refine isC ?_); first | refine ctA (h := ?_) | refine cfA (h := ?_) | refine cdA (h1 := fun _ => ?_) (h0 := fun _ => ?_) | refine cbA (h1 := fun _ => ?_) (h0 := fun _ => ?_)
   | (with_reducible refine isR ?_); first
     | refine Ev.drawn (by decide +kernel) (l := [0, 1, 2, 3, 4, 5, 6, 7, 8, 9, 10, 11, 12, 13, 14, 15, 16]) (by decide +kernel) ?_
     | refine Ev.drawn (by decide +kernel) (l := [0, 1, 2, 3, 4, 5, 6, 7, 8, 9, 10, 11, 12, 13, 14, 15, 16, 17]) (by decide +kernel) ?_
   | with_reducible first | refine Ev.seq ?_ | refine Ev.ops ?_ | refine NxE ?_ | refine BxN ?_ | refine BxX ?_ | refine NxX ?_ | refine NxR ?_ | refine BxR ?_ | refine Ev.block ?_ | refine Ev.skip ?_ | refine Ev.exit ?_ | refine Ev.ret ?_ | refine EvOps.nil ?_ | refine EvPlan.nil ?_
   | (with_reducible refine BxO ?_ ?_; · decide)
   )
  refine loopT (fun r t st => ((r = 1 ∧ tget t 8 = .int .i64 1 ∧ st = ⟨H, n⟩) ∨ (r = 0 ∧ tget t 8 = .int .i64 2 ∧ st = ⟨hset H m (.cells [x20, x21, x22, x23, .str k2, x10, x11, x12, x13, .str k1]), n⟩)) ∧ tget t 0 = .msl m 0 2 cp ∧ tget t 1 = .int .i64 0 ∧ tget t 2 = .int .i64 2 ∧ tget t 3 = .func (.func 18) [] []) (n := 1) ?_ ?_
  · refine ⟨.inl ⟨rfl, ?_, rfl⟩, ?_, ?_, ?_, ?_⟩
    · simp only [↓evP, ↓tgP, ↓reduceIte, Nat.reduceEqDiff, reduceCtorEq, List.map_cons, List.map_nil, List.nil_append, List.append_nil, List.toList_toArray, a1]
    · simp only [↓evP, ↓tgP, ↓reduceIte, Nat.reduceEqDiff, reduceCtorEq, List.map_cons, List.map_nil, List.nil_append, List.append_nil, List.toList_toArray, a0]
    · simp only [↓evP, ↓tgP, ↓reduceIte, Nat.reduceEqDiff, reduceCtorEq, List.map_cons, List.map_nil, List.nil_append, List.append_nil, List.toList_toArray, a1]
    · simp only [↓evP, ↓tgP, ↓reduceIte, Nat.reduceEqDiff, reduceCtorEq, List.map_cons, List.map_nil, List.nil_append, List.append_nil, List.toList_toArray, a2]
    · simp only [↓evP, ↓tgP, ↓reduceIte, Nat.reduceEqDiff, reduceCtorEq, List.map_cons, List.map_nil, List.nil_append, List.append_nil, List.toList_toArray, a3]
  clear a0 a1 a2 a3
  rintro r t st ⟨(⟨rfl, c8, rfl⟩ | ⟨rfl, c8, rfl⟩), c0, c1, c2, c3⟩
  · skip
    have ex := And.intro @c0 (And.intro @c1 (And.intro @c2 (And.intro @c3 (And.intro @c8 (And.intro @hpB @zvE)))))
    repeat' (first
     | (with_reducible refine isO ?_); first | refine mvA (h := ?_) | refine asA (h := ?_) | refine quA (h := ?_)
     | (with_reducible refine isP ?_); first | refine dqA (h := ?_) | refine dqAG (h := ?_) | refine dnA (i := 15) (l := []) (h := ?_) | refine dnA (i := 17) (l := []) (h := ?_) | refine dsA (h := ?_) | refine dtA (h := ?_) | refine dgA (h1 := fun _ => ?_) (h0 := fun _ => ?_)
     | (with_reducible refine isC ?_); first | refine ctA (h := ?_) | refine cfA (h := ?_) | refine cdA (h1 := fun _ => ?_) (h0 := fun _ => ?_) | refine cbA (h1 := fun _ => ?_) (h0 := fun _ => ?_)
     | (with_reducible refine isR ?_); first
       | refine Ev.drawn (by decide +kernel) (l := [0, 1, 2, 3, 4, 5, 6, 7, 8, 9, 10, 11, 12, 13, 14, 15, 16]) (by decide +kernel) ?_
       | refine Ev.drawn (by decide +kernel) (l := [0, 1, 2, 3, 4, 5, 6, 7, 8, 9, 10, 11, 12, 13, 14, 15, 16, 17]) (by decide +kernel) ?_
     | with_reducible first | refine Ev.seq ?_ | refine Ev.ops ?_ | refine NxE ?_ | refine BxN ?_ | refine BxX ?_ | refine NxX ?_ | refine NxR ?_ | refine BxR ?_ | refine Ev.block ?_ | refine Ev.skip ?_ | refine Ev.exit ?_ | refine Ev.ret ?_ | refine EvOps.nil ?_ | refine EvPlan.nil ?_
     | (with_reducible refine BxO ?_ ?_; · decide)
     )
    refine loopT (fun r t st => ((r = 1 ∧ tget t 9 = .int .i64 1 ∧ st = ⟨H, n⟩) ∨ (r = 0 ∧ tget t 9 = .int .i64 0 ∧ st = ⟨hset H m (.cells [x20, x21, x22, x23, .str k2, x10, x11, x12, x13, .str k1]), n⟩)) ∧ tget t 8 = .int .i64 1 ∧ tget t 0 = .msl m 0 2 cp ∧ tget t 1 = .int .i64 0 ∧ tget t 2 = .int .i64 2 ∧ tget t 3 = .func (.func 18) [] []) (n := 1) ?_ ?_
    · refine ⟨.inl ⟨rfl, ?_, rfl⟩, ?_, ?_, ?_, ?_, ?_⟩
      · simp only [↓evP, ↓tgP, ↓reduceIte, Nat.reduceEqDiff, reduceCtorEq, List.map_cons, List.map_nil, List.nil_append, List.append_nil, List.toList_toArray, c8]
      · simp only [↓evP, ↓tgP, ↓reduceIte, Nat.reduceEqDiff, reduceCtorEq, List.map_cons, List.map_nil, List.nil_append, List.append_nil, List.toList_toArray, c8]
      · simp only [↓evP, ↓tgP, ↓reduceIte, Nat.reduceEqDiff, reduceCtorEq, List.map_cons, List.map_nil, List.nil_append, List.append_nil, List.toList_toArray, c0]
      · simp only [↓evP, ↓tgP, ↓reduceIte, Nat.reduceEqDiff, reduceCtorEq, List.map_cons, List.map_nil, List.nil_append, List.append_nil, List.toList_toArray, c1]
      · simp only [↓evP, ↓tgP, ↓reduceIte, Nat.reduceEqDiff, reduceCtorEq, List.map_cons, List.map_nil, List.nil_append, List.append_nil, List.toList_toArray, c2]
      · simp only [↓evP, ↓tgP, ↓reduceIte, Nat.reduceEqDiff, reduceCtorEq, List.map_cons, List.map_nil, List.nil_append, List.append_nil, List.toList_toArray, c3]
    clear c0 c1 c2 c3 c8
    rintro r t st ⟨(⟨rfl, c9, rfl⟩ | ⟨rfl, c9, rfl⟩), c8, c0, c1, c2, c3⟩
    · skip
      have ex := And.intro @c0 (And.intro @c1 (And.intro @c2 (And.intro @c3 (And.intro @c8 (And.intro @c9 (And.intro @hm (And.intro @hss (And.intro @hs2 (And.intro @hpB @zvE)))))))))
      repeat' (first
       | (with_reducible refine isO ?_); first | refine mvA (h := ?_) | refine asA (h := ?_) | refine quA (h := ?_)
       | (with_reducible refine isP ?_); first | refine dqA (h := ?_) | refine dqAG (h := ?_) | refine dcAG (i := 14) (l := []) (hc := (hc _)) (h := ?_) | refine dnA (i := 15) (l := []) (h := ?_) | refine dnA (i := 17) (l := []) (h := ?_) | refine dsA (h := ?_) | refine dtA (h := ?_) | refine dgA (h1 := fun _ => ?_) (h0 := fun _ => ?_)
       | (with_reducible refine isC ?_); first | refine ctA (h := ?_) | refine cfA (h := ?_) | refine cdA (h1 := fun _ => ?_) (h0 := fun _ => ?_) | refine cbA (h1 := fun _ => ?_) (h0 := fun _ => ?_)
       | (with_reducible refine isR ?_); first
         | refine Ev.drawn (by decide +kernel) (l := [0, 1, 2, 3, 4, 5, 6, 7, 8, 9, 10, 11, 12, 13, 14, 15, 16]) (by decide +kernel) ?_
         | refine Ev.drawn (by decide +kernel) (l := [0, 1, 2, 3, 4, 5, 6, 7, 8, 9, 10, 11, 12, 13, 14, 15, 16, 17]) (by decide +kernel) ?_
       | with_reducible first | refine Ev.seq ?_ | refine Ev.ops ?_ | refine NxE ?_ | refine BxN ?_ | refine BxX ?_ | refine NxX ?_ | refine NxR ?_ | refine BxR ?_ | refine Ev.block ?_ | refine Ev.skip ?_ | refine Ev.exit ?_ | refine Ev.ret ?_ | refine EvOps.nil ?_ | refine EvPlan.nil ?_
       | (with_reducible refine BxO ?_ ?_; · decide)
       )
      refine ⟨0, by omega, rfl, .inr ⟨rfl, ?_, rfl⟩, ?_, ?_, ?_, ?_, ?_⟩
      · simp only [↓evP, ↓tgP, ↓reduceIte, Nat.reduceEqDiff, reduceCtorEq, List.map_cons, List.map_nil, List.nil_append, List.append_nil, List.toList_toArray, c9]
      · simp only [↓evP, ↓tgP, ↓reduceIte, Nat.reduceEqDiff, reduceCtorEq, List.map_cons, List.map_nil, List.nil_append, List.append_nil, List.toList_toArray, c8]
      · simp only [↓evP, ↓tgP, ↓reduceIte, Nat.reduceEqDiff, reduceCtorEq, List.map_cons, List.map_nil, List.nil_append, List.append_nil, List.toList_toArray, c0]
      · simp only [↓evP, ↓tgP, ↓reduceIte, Nat.reduceEqDiff, reduceCtorEq, List.map_cons, List.map_nil, List.nil_append, List.append_nil, List.toList_toArray, c1]
      · simp only [↓evP, ↓tgP, ↓reduceIte, Nat.reduceEqDiff, reduceCtorEq, List.map_cons, List.map_nil, List.nil_append, List.append_nil, List.toList_toArray, c2]
      · simp only [↓evP, ↓tgP, ↓reduceIte, Nat.reduceEqDiff, reduceCtorEq, List.map_cons, List.map_nil, List.nil_append, List.append_nil, List.toList_toArray, c3]
    · skip
      have ex := And.intro @c0 (And.intro @c1 (And.intro @c2 (And.intro @c3 (And.intro @c8 (And.intro @c9 (And.intro @hm (And.intro @hss (And.intro @hpB @zvE))))))))
      repeat' (first
       | (with_reducible refine isO ?_); first | refine mvA (h := ?_) | refine asA (h := ?_) | refine quA (h := ?_)
       | (with_reducible refine isP ?_); first | refine dqA (h := ?_) | refine dqAG (h := ?_) | refine dcAG (i := 14) (l := []) (hc := (hc _)) (h := ?_) | refine dnA (i := 15) (l := []) (h := ?_) | refine dnA (i := 17) (l := []) (h := ?_) | refine dsA (h := ?_) | refine dtA (h := ?_) | refine dgA (h1 := fun _ => ?_) (h0 := fun _ => ?_)
       | (with_reducible refine isC ?_); first | refine ctA (h := ?_) | refine cfA (h := ?_) | refine cdA (h1 := fun _ => ?_) (h0 := fun _ => ?_) | refine cbA (h1 := fun _ => ?_) (h0 := fun _ => ?_)
       | (with_reducible refine isR ?_); first
         | refine Ev.drawn (by decide +kernel) (l := [0, 1, 2, 3, 4, 5, 6, 7, 8, 9, 10, 11, 12, 13, 14, 15, 16]) (by decide +kernel) ?_
         | refine Ev.drawn (by decide +kernel) (l := [0, 1, 2, 3, 4, 5, 6, 7, 8, 9, 10, 11, 12, 13, 14, 15, 16, 17]) (by decide +kernel) ?_
       | with_reducible first | refine Ev.seq ?_ | refine Ev.ops ?_ | refine NxE ?_ | refine BxN ?_ | refine BxX ?_ | refine NxX ?_ | refine NxR ?_ | refine BxR ?_ | refine Ev.block ?_ | refine Ev.skip ?_ | refine Ev.exit ?_ | refine Ev.ret ?_ | refine EvOps.nil ?_ | refine EvPlan.nil ?_
       | (with_reducible refine BxO ?_ ?_; · decide)
       )
      refine ⟨0, by omega, rfl, .inr ⟨rfl, ?_, rfl⟩, ?_, ?_, ?_, ?_⟩
      · simp only [↓evP, ↓tgP, ↓reduceIte, Nat.reduceEqDiff, reduceCtorEq, List.map_cons, List.map_nil, List.nil_append, List.append_nil, List.toList_toArray, c8]
      · simp only [↓evP, ↓tgP, ↓reduceIte, Nat.reduceEqDiff, reduceCtorEq, List.map_cons, List.map_nil, List.nil_append, List.append_nil, List.toList_toArray, c0]
      · simp only [↓evP, ↓tgP, ↓reduceIte, Nat.reduceEqDiff, reduceCtorEq, List.map_cons, List.map_nil, List.nil_append, List.append_nil, List.toList_toArray, c1]
      · simp only [↓evP, ↓tgP, ↓reduceIte, Nat.reduceEqDiff, reduceCtorEq, List.map_cons, List.map_nil, List.nil_append, List.append_nil, List.toList_toArray, c2]
      · simp only [↓evP, ↓tgP, ↓reduceIte, Nat.reduceEqDiff, reduceCtorEq, List.map_cons, List.map_nil, List.nil_append, List.append_nil, List.toList_toArray, c3]
  · skip
    have ex := And.intro @c0 (And.intro @c1 (And.intro @c2 (And.intro @c3 (And.intro @c8 (And.intro @hpB @zvE)))))
    repeat' (first
     | (with_reducible refine isO ?_); first | refine mvA (h := ?_) | refine asA (h := ?_) | refine quA (h := ?_)
     | (with_reducible refine isP ?_); first | refine dqA (h := ?_) | refine dqAG (h := ?_) | refine dnA (i := 15) (l := []) (h := ?_) | refine dnA (i := 17) (l := []) (h := ?_) | refine dsA (h := ?_) | refine dtA (h := ?_) | refine dgA (h1 := fun _ => ?_) (h0 := fun _ => ?_)
     | (with_reducible refine isC ?_); first | refine ctA (h := ?_) | refine cfA (h := ?_) | refine cdA (h1 := fun _ => ?_) (h0 := fun _ => ?_) | refine cbA (h1 := fun _ => ?_) (h0 := fun _ => ?_)
     | (with_reducible refine isR ?_); first
       | refine Ev.drawn (by decide +kernel) (l := [0, 1, 2, 3, 4, 5, 6, 7, 8, 9, 10, 11, 12, 13, 14, 15, 16]) (by decide +kernel) ?_
       | refine Ev.drawn (by decide +kernel) (l := [0, 1, 2, 3, 4, 5, 6, 7, 8, 9, 10, 11, 12, 13, 14, 15, 16, 17]) (by decide +kernel) ?_
     | with_reducible first | refine Ev.seq ?_ | refine Ev.ops ?_ | refine NxE ?_ | refine BxN ?_ | refine BxX ?_ | refine NxX ?_ | refine NxR ?_ | refine BxR ?_ | refine Ev.block ?_ | refine Ev.skip ?_ | refine Ev.exit ?_ | refine Ev.ret ?_ | refine EvOps.nil ?_ | refine EvPlan.nil ?_
     | (with_reducible refine BxO ?_ ?_; · decide)
     )
    refine lsA (rl := []) rfl (hv := by
      simp only [leaveV, packV, strip, stripAgg, stripCell, List.map_cons, List.map_nil, show cw.grow 53 = false from rfl, show cw.keep 53 = false from rfl, show cw.frz 53 = false from rfl, if_false, if_true, Bool.false_eq_true]
      try simp only [hw]
      first | done | rfl)
end Go.Proofs.YtbgalenfbmaceaaGreatDoor.D
