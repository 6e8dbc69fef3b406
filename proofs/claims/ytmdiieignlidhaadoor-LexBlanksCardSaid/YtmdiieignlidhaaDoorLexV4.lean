/- Kinds of bytes. -/
import Derived.Test.YtmdiieignlidhaaDoorLexV3
set_option linter.unusedSimpArgs false
set_option linter.unusedVariables false
set_option maxRecDepth 100000
namespace Go.Proofs.YtmdiieignlidhaaDoor
open Go Go.Vm Go.Proofs

theorem digitS (c : Int) (st : St) : FnS cx 19 [.int .u8 c] st (.bool (decide ((48 ≤ c ∧ c ≤ 57)))) st := by
  refine goP Tryd.func19 rfl rfl rfl rfl ?_ ?_
  · rfl
  intro t ht
  have a0 : tget t 0 = .int .u8 c := ht 0 _ rfl
  clear ht
  have ex := @a0
  repeat' (first
   | (with_reducible refine isO ?_); first
     | refine mvA (h := ?_)
     | refine asA (h := ?_)
     | refine quA (h := ?_)
   | (with_reducible refine isG ?_); first
     | refine stA (h := ?_)
     | refine srA (h := ?_)
     | refine swA (h := ?_)
     | refine s1A (h := ?_)
     | refine s0A (h := ?_)
     | refine sgA (h1 := fun _ => ?_) (h0 := fun _ => ?_)
     | refine sbA (h1 := fun _ => ?_) (h0 := fun _ => ?_)
   | (with_reducible refine isC ?_); first
     | refine ctA (h := ?_)
     | refine cfA (h := ?_)
     | refine cdA (h1 := fun _ => ?_) (h0 := fun _ => ?_)
     | refine cbA (h1 := fun _ => ?_) (h0 := fun _ => ?_)
   | with_reducible refine Ev.seq ?_
   | with_reducible refine Ev.ops ?_
   | with_reducible refine NxE ?_
   | with_reducible refine BxN ?_
   | with_reducible refine BxX ?_
   | with_reducible refine NxX ?_
   | with_reducible refine NxR ?_
   | with_reducible refine BxR ?_
   | with_reducible refine NxG ?_
   | with_reducible refine BxG ?_
   | with_reducible refine GxR ?_
   | with_reducible refine GxN ?_
   | with_reducible refine GxX ?_
   | with_reducible refine Ev.goto ?_
   | with_reducible refine Ev.block ?_
   | with_reducible refine Ev.skip ?_
   | with_reducible refine Ev.exit ?_
   | with_reducible refine Ev.ret ?_
   | with_reducible refine Ev.label ?_
   | with_reducible refine EvOps.nil ?_
   | with_reducible refine EvPlan.nil ?_
   | (with_reducible refine BxO ?_ ?_; · decide)
   )
  repeat' refine lfA (rl := [.tmp 2]) rfl (hv := by
      simp only [packV, strip, stripAgg, stripCell, List.map_cons, List.map_nil]
      first | done | rfl | exact congrArg V.bool (decide_eq_decide.2 (by omega)) | exact congrArg V.bool (decide_eq_false (by omega)).symm | exact congrArg V.bool (decide_eq_true (by omega)).symm) (hp := rfl)
theorem letterS (c : Int) (st : St) : FnS cx 21 [.int .u8 c] st (.bool (decide (((97 ≤ c ∧ c ≤ 122) ∨ (65 ≤ c ∧ c ≤ 90) ∨ c = 95)))) st := by
  refine goP Tryd.func21 rfl rfl rfl rfl ?_ ?_
  · rfl
  intro t ht
  have a0 : tget t 0 = .int .u8 c := ht 0 _ rfl
  clear ht
  have ex := @a0
  repeat' (first
   | (with_reducible refine isO ?_); first
     | refine mvA (h := ?_)
     | refine asA (h := ?_)
     | refine quA (h := ?_)
   | (with_reducible refine isG ?_); first
     | refine stA (h := ?_)
     | refine srA (h := ?_)
     | refine swA (h := ?_)
     | refine s1A (h := ?_)
     | refine s0A (h := ?_)
     | refine sgA (h1 := fun _ => ?_) (h0 := fun _ => ?_)
     | refine sbA (h1 := fun _ => ?_) (h0 := fun _ => ?_)
   | (with_reducible refine isC ?_); first
     | refine ctA (h := ?_)
     | refine cfA (h := ?_)
     | refine cdA (h1 := fun _ => ?_) (h0 := fun _ => ?_)
     | refine cbA (h1 := fun _ => ?_) (h0 := fun _ => ?_)
   | with_reducible refine Ev.seq ?_
   | with_reducible refine Ev.ops ?_
   | with_reducible refine NxE ?_
   | with_reducible refine BxN ?_
   | with_reducible refine BxX ?_
   | with_reducible refine NxX ?_
   | with_reducible refine NxR ?_
   | with_reducible refine BxR ?_
   | with_reducible refine NxG ?_
   | with_reducible refine BxG ?_
   | with_reducible refine GxR ?_
   | with_reducible refine GxN ?_
   | with_reducible refine GxX ?_
   | with_reducible refine Ev.goto ?_
   | with_reducible refine Ev.block ?_
   | with_reducible refine Ev.skip ?_
   | with_reducible refine Ev.exit ?_
   | with_reducible refine Ev.ret ?_
   | with_reducible refine Ev.label ?_
   | with_reducible refine EvOps.nil ?_
   | with_reducible refine EvPlan.nil ?_
   | (with_reducible refine BxO ?_ ?_; · decide)
   )
  repeat' refine lfA (rl := [.tmp 2]) rfl (hv := by
      simp only [packV, strip, stripAgg, stripCell, List.map_cons, List.map_nil]
      first | done | rfl | exact congrArg V.bool (decide_eq_decide.2 (by omega)) | exact congrArg V.bool (decide_eq_false (by omega)).symm | exact congrArg V.bool (decide_eq_true (by omega)).symm) (hp := rfl)
theorem wordS (c : Int) (st : St) : FnS cx 23 [.int .u8 c] st (.bool (decide (((97 ≤ c ∧ c ≤ 122) ∨ (65 ≤ c ∧ c ≤ 90) ∨ c = 95) ∨ (48 ≤ c ∧ c ≤ 57)))) st := by
  refine goP Tryd.func23 rfl rfl rfl rfl ?_ ?_
  · rfl
  intro t ht
  have a0 : tget t 0 = .int .u8 c := ht 0 _ rfl
  clear ht
  have ex := @a0
  repeat' (first
   | (with_reducible refine isO ?_); first
     | refine mvA (h := ?_)
     | refine asA (h := ?_)
     | refine quA (h := ?_)
     | refine caA (hc := letterS _ _) (h := ?_)
     | refine caA (hc := digitS _ _) (h := ?_)
   | (with_reducible refine isG ?_); first
     | refine stA (h := ?_)
     | refine srA (h := ?_)
     | refine swA (h := ?_)
     | refine s1A (h := ?_)
     | refine s0A (h := ?_)
     | refine sgA (h1 := fun _ => ?_) (h0 := fun _ => ?_)
     | refine sbA (h1 := fun _ => ?_) (h0 := fun _ => ?_)
   | (with_reducible refine isC ?_); first
     | refine ctA (h := ?_)
     | refine cfA (h := ?_)
     | refine cdA (h1 := fun _ => ?_) (h0 := fun _ => ?_)
     | refine cbA (h1 := fun _ => ?_) (h0 := fun _ => ?_)
   | with_reducible refine Ev.seq ?_
   | with_reducible refine Ev.ops ?_
   | with_reducible refine NxE ?_
   | with_reducible refine BxN ?_
   | with_reducible refine BxX ?_
   | with_reducible refine NxX ?_
   | with_reducible refine NxR ?_
   | with_reducible refine BxR ?_
   | with_reducible refine NxG ?_
   | with_reducible refine BxG ?_
   | with_reducible refine GxR ?_
   | with_reducible refine GxN ?_
   | with_reducible refine GxX ?_
   | with_reducible refine Ev.goto ?_
   | with_reducible refine Ev.block ?_
   | with_reducible refine Ev.skip ?_
   | with_reducible refine Ev.exit ?_
   | with_reducible refine Ev.ret ?_
   | with_reducible refine Ev.label ?_
   | with_reducible refine EvOps.nil ?_
   | with_reducible refine EvPlan.nil ?_
   | (with_reducible refine BxO ?_ ?_; · decide)
   )
  repeat' refine lfA (rl := [.tmp 2]) rfl (hv := by
      simp only [packV, strip, stripAgg, stripCell, List.map_cons, List.map_nil]
      first | done | rfl | exact congrArg V.bool (decide_eq_decide.2 (by omega)) | exact congrArg V.bool (decide_eq_false (by omega)).symm | exact congrArg V.bool (decide_eq_true (by omega)).symm) (hp := rfl)
theorem lineS (c : Int) (st : St) : FnS cx 16 [.int .u8 c] st (.bool (decide (c ≠ 10))) st := by
  refine goP Tryd.func16 rfl rfl rfl rfl ?_ ?_
  · rfl
  intro t ht
  have a0 : tget t 0 = .int .u8 c := ht 0 _ rfl
  clear ht
  have ex := @a0
  repeat' (first
   | (with_reducible refine isO ?_); first
     | refine mvA (h := ?_)
     | refine asA (h := ?_)
     | refine quA (h := ?_)
   | (with_reducible refine isC ?_); first
     | refine ctA (h := ?_)
     | refine cfA (h := ?_)
     | refine cdA (h1 := fun _ => ?_) (h0 := fun _ => ?_)
     | refine cbA (h1 := fun _ => ?_) (h0 := fun _ => ?_)
   | with_reducible refine Ev.seq ?_
   | with_reducible refine Ev.ops ?_
   | with_reducible refine NxE ?_
   | with_reducible refine BxN ?_
   | with_reducible refine BxX ?_
   | with_reducible refine NxX ?_
   | with_reducible refine NxR ?_
   | with_reducible refine BxR ?_
   | with_reducible refine NxG ?_
   | with_reducible refine BxG ?_
   | with_reducible refine GxR ?_
   | with_reducible refine GxN ?_
   | with_reducible refine GxX ?_
   | with_reducible refine Ev.goto ?_
   | with_reducible refine Ev.block ?_
   | with_reducible refine Ev.skip ?_
   | with_reducible refine Ev.exit ?_
   | with_reducible refine Ev.ret ?_
   | with_reducible refine Ev.label ?_
   | with_reducible refine EvOps.nil ?_
   | with_reducible refine EvPlan.nil ?_
   | (with_reducible refine BxO ?_ ?_; · decide)
   )
  repeat' refine lfA (rl := [.tmp 2]) rfl (hv := by
      simp only [packV, strip, stripAgg, stripCell, List.map_cons, List.map_nil]
      first | done | rfl | exact congrArg V.bool (decide_eq_decide.2 (by omega)) | exact congrArg V.bool (decide_eq_false (by omega)).symm | exact congrArg V.bool (decide_eq_true (by omega)).symm) (hp := rfl)
theorem nameS (c : Int) (st : St) : FnS cx 22 [.int .u8 c] st (.bool (decide ((((97 ≤ c ∧ c ≤ 122) ∨ (65 ≤ c ∧ c ≤ 90) ∨ c = 95) ∨ (48 ≤ c ∧ c ≤ 57)) ∨ c = 46))) st := by
  refine goP Tryd.func22 rfl rfl rfl rfl ?_ ?_
  · rfl
  intro t ht
  have a0 : tget t 0 = .int .u8 c := ht 0 _ rfl
  clear ht
  have ex := @a0
  repeat' (first
   | (with_reducible refine isO ?_); first
     | refine mvA (h := ?_)
     | refine asA (h := ?_)
     | refine quA (h := ?_)
     | refine caA (hc := wordS _ _) (h := ?_)
   | (with_reducible refine isG ?_); first
     | refine stA (h := ?_)
     | refine srA (h := ?_)
     | refine swA (h := ?_)
     | refine s1A (h := ?_)
     | refine s0A (h := ?_)
     | refine sgA (h1 := fun _ => ?_) (h0 := fun _ => ?_)
     | refine sbA (h1 := fun _ => ?_) (h0 := fun _ => ?_)
   | (with_reducible refine isC ?_); first
     | refine ctA (h := ?_)
     | refine cfA (h := ?_)
     | refine cdA (h1 := fun _ => ?_) (h0 := fun _ => ?_)
     | refine cbA (h1 := fun _ => ?_) (h0 := fun _ => ?_)
   | with_reducible refine Ev.seq ?_
   | with_reducible refine Ev.ops ?_
   | with_reducible refine NxE ?_
   | with_reducible refine BxN ?_
   | with_reducible refine BxX ?_
   | with_reducible refine NxX ?_
   | with_reducible refine NxR ?_
   | with_reducible refine BxR ?_
   | with_reducible refine NxG ?_
   | with_reducible refine BxG ?_
   | with_reducible refine GxR ?_
   | with_reducible refine GxN ?_
   | with_reducible refine GxX ?_
   | with_reducible refine Ev.goto ?_
   | with_reducible refine Ev.block ?_
   | with_reducible refine Ev.skip ?_
   | with_reducible refine Ev.exit ?_
   | with_reducible refine Ev.ret ?_
   | with_reducible refine Ev.label ?_
   | with_reducible refine EvOps.nil ?_
   | with_reducible refine EvPlan.nil ?_
   | (with_reducible refine BxO ?_ ?_; · decide)
   )
  repeat' refine lfA (rl := [.tmp 2]) rfl (hv := by
      simp only [packV, strip, stripAgg, stripCell, List.map_cons, List.map_nil]
      first | done | rfl | exact congrArg V.bool (decide_eq_decide.2 (by omega)) | exact congrArg V.bool (decide_eq_false (by omega)).symm | exact congrArg V.bool (decide_eq_true (by omega)).symm) (hp := rfl)
theorem dotsS (c : Int) (st : St) : FnS cx 33 [.int .u8 c] st (.bool (decide ((48 ≤ c ∧ c ≤ 57) ∨ c = 46))) st := by
  refine goP Tryd.func33 rfl rfl rfl rfl ?_ ?_
  · rfl
  intro t ht
  have a0 : tget t 0 = .int .u8 c := ht 0 _ rfl
  clear ht
  have ex := @a0
  repeat' (first
   | (with_reducible refine isO ?_); first
     | refine mvA (h := ?_)
     | refine asA (h := ?_)
     | refine quA (h := ?_)
     | refine caA (hc := digitS _ _) (h := ?_)
   | (with_reducible refine isG ?_); first
     | refine stA (h := ?_)
     | refine srA (h := ?_)
     | refine swA (h := ?_)
     | refine s1A (h := ?_)
     | refine s0A (h := ?_)
     | refine sgA (h1 := fun _ => ?_) (h0 := fun _ => ?_)
     | refine sbA (h1 := fun _ => ?_) (h0 := fun _ => ?_)
   | (with_reducible refine isC ?_); first
     | refine ctA (h := ?_)
     | refine cfA (h := ?_)
     | refine cdA (h1 := fun _ => ?_) (h0 := fun _ => ?_)
     | refine cbA (h1 := fun _ => ?_) (h0 := fun _ => ?_)
   | with_reducible refine Ev.seq ?_
   | with_reducible refine Ev.ops ?_
   | with_reducible refine NxE ?_
   | with_reducible refine BxN ?_
   | with_reducible refine BxX ?_
   | with_reducible refine NxX ?_
   | with_reducible refine NxR ?_
   | with_reducible refine BxR ?_
   | with_reducible refine NxG ?_
   | with_reducible refine BxG ?_
   | with_reducible refine GxR ?_
   | with_reducible refine GxN ?_
   | with_reducible refine GxX ?_
   | with_reducible refine Ev.goto ?_
   | with_reducible refine Ev.block ?_
   | with_reducible refine Ev.skip ?_
   | with_reducible refine Ev.exit ?_
   | with_reducible refine Ev.ret ?_
   | with_reducible refine Ev.label ?_
   | with_reducible refine EvOps.nil ?_
   | with_reducible refine EvPlan.nil ?_
   | (with_reducible refine BxO ?_ ?_; · decide)
   )
  repeat' refine lfA (rl := [.tmp 2]) rfl (hv := by
      simp only [packV, strip, stripAgg, stripCell, List.map_cons, List.map_nil]
      first | done | rfl | exact congrArg V.bool (decide_eq_decide.2 (by omega)) | exact congrArg V.bool (decide_eq_false (by omega)).symm | exact congrArg V.bool (decide_eq_true (by omega)).symm) (hp := rfl)
theorem hexS (c : Int) (st : St) : FnS cx 36 [.int .u8 c] st (.bool (decide ((48 ≤ c ∧ c ≤ 57) ∨ (97 ≤ c ∧ c ≤ 102)))) st := by
  refine goP Tryd.func36 rfl rfl rfl rfl ?_ ?_
  · rfl
  intro t ht
  have a0 : tget t 0 = .int .u8 c := ht 0 _ rfl
  clear ht
  have ex := @a0
  repeat' (first
   | (with_reducible refine isO ?_); first
     | refine mvA (h := ?_)
     | refine asA (h := ?_)
     | refine quA (h := ?_)
     | refine caA (hc := digitS _ _) (h := ?_)
   | (with_reducible refine isG ?_); first
     | refine stA (h := ?_)
     | refine srA (h := ?_)
     | refine swA (h := ?_)
     | refine s1A (h := ?_)
     | refine s0A (h := ?_)
     | refine sgA (h1 := fun _ => ?_) (h0 := fun _ => ?_)
     | refine sbA (h1 := fun _ => ?_) (h0 := fun _ => ?_)
   | (with_reducible refine isC ?_); first
     | refine ctA (h := ?_)
     | refine cfA (h := ?_)
     | refine cdA (h1 := fun _ => ?_) (h0 := fun _ => ?_)
     | refine cbA (h1 := fun _ => ?_) (h0 := fun _ => ?_)
   | with_reducible refine Ev.seq ?_
   | with_reducible refine Ev.ops ?_
   | with_reducible refine NxE ?_
   | with_reducible refine BxN ?_
   | with_reducible refine BxX ?_
   | with_reducible refine NxX ?_
   | with_reducible refine NxR ?_
   | with_reducible refine BxR ?_
   | with_reducible refine NxG ?_
   | with_reducible refine BxG ?_
   | with_reducible refine GxR ?_
   | with_reducible refine GxN ?_
   | with_reducible refine GxX ?_
   | with_reducible refine Ev.goto ?_
   | with_reducible refine Ev.block ?_
   | with_reducible refine Ev.skip ?_
   | with_reducible refine Ev.exit ?_
   | with_reducible refine Ev.ret ?_
   | with_reducible refine Ev.label ?_
   | with_reducible refine EvOps.nil ?_
   | with_reducible refine EvPlan.nil ?_
   | (with_reducible refine BxO ?_ ?_; · decide)
   )
  repeat' refine lfA (rl := [.tmp 2]) rfl (hv := by
      simp only [packV, strip, stripAgg, stripCell, List.map_cons, List.map_nil]
      first | done | rfl | exact congrArg V.bool (decide_eq_decide.2 (by omega)) | exact congrArg V.bool (decide_eq_false (by omega)).symm | exact congrArg V.bool (decide_eq_true (by omega)).symm) (hp := rfl)
theorem textS (c : Int) (st : St) : FnS cx 38 [.int .u8 c] st (.bool (decide (32 ≤ c ∧ c ≤ 126 ∧ c ≠ 34 ∧ c ≠ 92))) st := by
  refine goP Tryd.func38 rfl rfl rfl rfl ?_ ?_
  · rfl
  intro t ht
  have a0 : tget t 0 = .int .u8 c := ht 0 _ rfl
  clear ht
  have ex := @a0
  repeat' (first
   | (with_reducible refine isO ?_); first
     | refine mvA (h := ?_)
     | refine asA (h := ?_)
     | refine quA (h := ?_)
   | (with_reducible refine isG ?_); first
     | refine stA (h := ?_)
     | refine srA (h := ?_)
     | refine swA (h := ?_)
     | refine s1A (h := ?_)
     | refine s0A (h := ?_)
     | refine sgA (h1 := fun _ => ?_) (h0 := fun _ => ?_)
     | refine sbA (h1 := fun _ => ?_) (h0 := fun _ => ?_)
   | (with_reducible refine isC ?_); first
     | refine ctA (h := ?_)
     | refine cfA (h := ?_)
     | refine cdA (h1 := fun _ => ?_) (h0 := fun _ => ?_)
     | refine cbA (h1 := fun _ => ?_) (h0 := fun _ => ?_)
   | with_reducible refine Ev.seq ?_
   | with_reducible refine Ev.ops ?_
   | with_reducible refine NxE ?_
   | with_reducible refine BxN ?_
   | with_reducible refine BxX ?_
   | with_reducible refine NxX ?_
   | with_reducible refine NxR ?_
   | with_reducible refine BxR ?_
   | with_reducible refine NxG ?_
   | with_reducible refine BxG ?_
   | with_reducible refine GxR ?_
   | with_reducible refine GxN ?_
   | with_reducible refine GxX ?_
   | with_reducible refine Ev.goto ?_
   | with_reducible refine Ev.block ?_
   | with_reducible refine Ev.skip ?_
   | with_reducible refine Ev.exit ?_
   | with_reducible refine Ev.ret ?_
   | with_reducible refine Ev.label ?_
   | with_reducible refine EvOps.nil ?_
   | with_reducible refine EvPlan.nil ?_
   | (with_reducible refine BxO ?_ ?_; · decide)
   )
  repeat' refine lfA (rl := [.tmp 2]) rfl (hv := by
      simp only [packV, strip, stripAgg, stripCell, List.map_cons, List.map_nil]
      first | done | rfl | exact congrArg V.bool (decide_eq_decide.2 (by omega)) | exact congrArg V.bool (decide_eq_false (by omega)).symm | exact congrArg V.bool (decide_eq_true (by omega)).symm) (hp := rfl)
end Go.Proofs.YtmdiieignlidhaaDoor
