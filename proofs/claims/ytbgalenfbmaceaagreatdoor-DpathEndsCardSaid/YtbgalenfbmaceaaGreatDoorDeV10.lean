/- Two flows in their order, by slices.SortFunc. -/
import Derived.Test.YtbgalenfbmaceaaGreatDoorDeV9
set_option linter.unusedSimpArgs false
set_option linter.unusedVariables false
set_option maxRecDepth 1000000
namespace Go.Proofs.YtbgalenfbmaceaaGreatDoor.D
open Go Go.Vm Go.Proofs Go.Proofs.YtbgalenfbmaceaaGreatDoor

theorem lenS (st : St) : FnS cw 34 [.int .u64 2] st (.int .i64 2) st := ⟨Vm.Fn.ofG (n := 100) (by kernel_rfl) ⟨rfl, rfl⟩⟩
theorem cv116 : ∀ H, convV cw H 3 116 (.int .i64 2) = some (.int .u64 2) := fun _ => rfl
theorem two2 : ((2 : Nat) : Int) = 2 := rfl

theorem pdqS {H H' : List (Nat × Ob)} {n m cp : Nat} (hw : hdrop n H' = H') (h : FnS cw 53 [.msl m 0 2 cp, .int .i64 0, .int .i64 2, .func (.func 18) [] []] ⟨H, n⟩ (.tup []) ⟨H', n⟩) : FnS cw 33 [.msl m 0 2 cp, .int .i64 0, .int .i64 2, .int .i64 2, .func (.func 18) [] []] ⟨H, n⟩ (.tup []) ⟨H', n⟩ := by
  refine goS Tryz.func33 rfl rfl rfl rfl ?_
  intro t ht
  have a0 : tget t 0 = .msl m 0 2 cp := ht 0 _ rfl
  have a1 : tget t 1 = .int .i64 0 := ht 1 _ rfl
  have a2 : tget t 2 = .int .i64 2 := ht 2 _ rfl
  have a3 : tget t 3 = .int .i64 2 := ht 3 _ rfl
  have a4 : tget t 4 = .func (.func 18) [] [] := ht 4 _ rfl
  clear ht
  have ex := And.intro @a0 (And.intro @a1 (And.intro @a2 (And.intro @a3 (And.intro @a4 @hpB))))
  repeat' (first
   | (with_reducible refine isO ?_); first | refine mvA (h := ?_) | refine asA (h := ?_) | refine quA (h := ?_)
   | (with_reducible refine isG ?_); first | refine stA (h := ?_) | refine srA (h := ?_) | refine swA (h := ?_) | refine s1A (h := ?_) | refine s0A (h := ?_) | refine sgA (h1 := fun _ => ?_) (h0 := fun _ => ?_) | refine sbA (h1 := fun _ => ?_) (h0 := fun _ => ?_)
   | (with_reducible refine isP ?_); first | refine dqA (h := ?_) | refine dqAG (h := ?_) | refine dsA (h := ?_) | refine dtA (h := ?_) | refine dgA (h1 := fun _ => ?_) (h0 := fun _ => ?_)
   | (with_reducible refine isC ?_); first | refine ctA (h := ?_) | refine cfA (h := ?_) | refine cdA (h1 := fun _ => ?_) (h0 := fun _ => ?_) | refine cbA (h1 := fun _ => ?_) (h0 := fun _ => ?_)
   | (with_reducible refine isR ?_); first
     | refine Ev.drawn (by decide +kernel) (l := [0, 1, 2, 3, 4, 5, 6, 7, 8, 9, 10, 11, 12, 13, 14, 15, 16]) (by decide +kernel) ?_
   | with_reducible first | refine Ev.seq ?_ | refine Ev.ops ?_ | refine NxE ?_ | refine BxN ?_ | refine BxX ?_ | refine NxX ?_ | refine NxR ?_ | refine BxR ?_ | refine Ev.block ?_ | refine Ev.skip ?_ | refine Ev.exit ?_ | refine Ev.ret ?_ | refine EvOps.nil ?_ | refine EvPlan.nil ?_
   | (with_reducible refine BxO ?_ ?_; · decide)
   )
  refine loopT (fun r t st => tget t 0 = .msl m 0 2 cp ∧ tget t 1 = .int .i64 0 ∧ tget t 2 = .int .i64 2 ∧ tget t 4 = .func (.func 18) [] [] ∧ st = ⟨H, n⟩) (n := 0) ?_ ?_
  · refine ⟨?_, ?_, ?_, ?_, rfl⟩
    · simp only [↓evP, ↓tgP, ↓reduceIte, Nat.reduceEqDiff, reduceCtorEq, List.map_cons, List.map_nil, List.nil_append, List.append_nil, List.toList_toArray, a0]
    · simp only [↓evP, ↓tgP, ↓reduceIte, Nat.reduceEqDiff, reduceCtorEq, List.map_cons, List.map_nil, List.nil_append, List.append_nil, List.toList_toArray, a1]
    · simp only [↓evP, ↓tgP, ↓reduceIte, Nat.reduceEqDiff, reduceCtorEq, List.map_cons, List.map_nil, List.nil_append, List.append_nil, List.toList_toArray, a2]
    · simp only [↓evP, ↓tgP, ↓reduceIte, Nat.reduceEqDiff, reduceCtorEq, List.map_cons, List.map_nil, List.nil_append, List.append_nil, List.toList_toArray, a4]
  clear a0 a1 a2 a3 a4
  rintro r t st ⟨a0, a1, a2, a4, rfl⟩
  have ex := And.intro @a0 (And.intro @a1 (And.intro @a2 (And.intro @a4 @hpB)))
  repeat' (first
   | (with_reducible refine isO ?_); first | refine mvA (h := ?_) | refine asA (h := ?_) | refine quA (h := ?_) | refine caA (hc := h) (h := ?_)
   | (with_reducible refine isG ?_); first | refine stA (h := ?_) | refine srA (h := ?_) | refine swA (h := ?_) | refine s1A (h := ?_) | refine s0A (h := ?_) | refine sgA (h1 := fun _ => ?_) (h0 := fun _ => ?_) | refine sbA (h1 := fun _ => ?_) (h0 := fun _ => ?_)
   | (with_reducible refine isP ?_); first | refine dqA (h := ?_) | refine dqAG (h := ?_) | refine dsA (h := ?_) | refine dtA (h := ?_) | refine dgA (h1 := fun _ => ?_) (h0 := fun _ => ?_)
   | (with_reducible refine isC ?_); first | refine ctA (h := ?_) | refine cfA (h := ?_) | refine cdA (h1 := fun _ => ?_) (h0 := fun _ => ?_) | refine cbA (h1 := fun _ => ?_) (h0 := fun _ => ?_)
   | (with_reducible refine isR ?_); first
     | refine Ev.drawn (by decide +kernel) (l := [0, 1, 2, 3, 4, 5, 6, 7, 8, 9, 10, 11, 12, 13, 14, 15, 16]) (by decide +kernel) ?_
   | with_reducible first | refine Ev.seq ?_ | refine Ev.ops ?_ | refine NxE ?_ | refine BxN ?_ | refine BxX ?_ | refine NxX ?_ | refine NxR ?_ | refine BxR ?_ | refine Ev.block ?_ | refine Ev.skip ?_ | refine Ev.exit ?_ | refine Ev.ret ?_ | refine EvOps.nil ?_ | refine EvPlan.nil ?_
   | (with_reducible refine BxO ?_ ?_; · decide)
   )
  refine lsA (rl := []) rfl (hv := by
      simp only [leaveV, packV, strip, stripAgg, stripCell, List.map_cons, List.map_nil, show cw.grow 33 = false from rfl, show cw.keep 33 = false from rfl, show cw.frz 33 = false from rfl, if_false, if_true, Bool.false_eq_true]
      try simp only [hw]
      first | done | rfl)
theorem sortS {H H' : List (Nat × Ob)} {n m cp : Nat} (hw : hdrop n H' = H') (h : FnS cw 53 [.msl m 0 2 cp, .int .i64 0, .int .i64 2, .func (.func 18) [] []] ⟨H, n⟩ (.tup []) ⟨H', n⟩) : FnS cw 17 [.msl m 0 2 cp, .func (.func 18) [] []] ⟨H, n⟩ (.tup []) ⟨H', n⟩ := by
  have hp := pdqS hw h
  refine goS Tryz.func17 rfl rfl rfl rfl ?_
  intro t ht
  have a0 : tget t 0 = .msl m 0 2 cp := ht 0 _ rfl
  have a1 : tget t 1 = .func (.func 18) [] [] := ht 1 _ rfl
  clear ht
  have ex := And.intro @a0 (And.intro @a1 (And.intro @hpB (And.intro @cv116 @two2)))
  repeat' (first
   | (with_reducible refine isO ?_); first | refine mvA (h := ?_) | refine asA (h := ?_) | refine quA (h := ?_) | refine caA (hc := (lenS _)) (h := ?_) | refine caA (hc := hp) (h := ?_)
   | (with_reducible refine isC ?_); first | refine ctA (h := ?_) | refine cfA (h := ?_) | refine cdA (h1 := fun _ => ?_) (h0 := fun _ => ?_) | refine cbA (h1 := fun _ => ?_) (h0 := fun _ => ?_)
   | with_reducible first | refine Ev.seq ?_ | refine Ev.ops ?_ | refine NxE ?_ | refine BxN ?_ | refine BxX ?_ | refine NxX ?_ | refine NxR ?_ | refine BxR ?_ | refine Ev.block ?_ | refine Ev.skip ?_ | refine Ev.exit ?_ | refine Ev.ret ?_ | refine EvOps.nil ?_ | refine EvPlan.nil ?_
   | (with_reducible refine BxO ?_ ?_; · decide)
   )
  refine lsA (rl := []) rfl (hv := by
      simp only [leaveV, packV, strip, stripAgg, stripCell, List.map_cons, List.map_nil, show cw.grow 17 = false from rfl, show cw.keep 17 = false from rfl, show cw.frz 17 = false from rfl, if_false, if_true, Bool.false_eq_true]
      try simp only [hw]
      first | done | rfl)
end Go.Proofs.YtbgalenfbmaceaaGreatDoor.D
