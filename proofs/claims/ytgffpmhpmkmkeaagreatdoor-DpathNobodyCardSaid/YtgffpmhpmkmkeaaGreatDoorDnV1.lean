/- The seat's program, for the evaluator; slices.Clone of what is empty. -/
import Derived.Test.YtgffpmhpmkmkeaaGreatDoorN28
import Derived.Test.YtgffpmhpmkmkeaaGreatDoorProg
set_option linter.unusedSimpArgs false
set_option linter.unusedVariables false
set_option maxRecDepth 100000
namespace Go.Proofs.YtgffpmhpmkmkeaaGreatDoor
open Go Go.Vm Go.Proofs

/-- No function is known. -/
noncomputable def cx : Cfg := { P := Tryz.prog, glob := fun _ => .any, X := fun _ _ _ => none, keep := fun _ => true, frz := fun _ => false, grow := fun _ => true, pure := fun _ => false, eqs := [] }
theorem cx_ok : COk cx := ⟨fun t ht => (by cases ht), by decide +kernel, by decide +kernel, fun _ _ _ _ => trivial⟩
theorem glob_pure : GlobPure cx := fun _ => rfl
theorem x_none : XOk cx := XOk.none fun _ _ _ => rfl

theorem tyE : cx.P = Tryz.prog ∧ (Tryz.prog.underlying 74 = some (.slice 109) ∧ Tryz.prog.underlying 62 = some (.slice 89) ∧ Tryz.prog.underlying 85 = some (.slice 142)) := ⟨rfl, Tryz.underlying74, Tryz.underlying62, Tryz.underlying85⟩
theorem cvE : (0 : Nat) = 0 := rfl
theorem bdE : (0 : Nat) = 0 := rfl
theorem tyX : (0 : Nat) = 0 := rfl
theorem bs74 : buildSliceV cx 74 0 [] = some (.sl .full []) := by rfl
theorem ap74 (tip : Tip) (st : St) : appendV cx st 74 (.sl .full []) (.sl tip []) = some (.sl .full [], st) := by
  obtain ⟨H, n⟩ := st
  rfl
theorem un74 : ∃ e, cx.P.underlying 74 = some (.slice e) := ⟨_, by rfl⟩
theorem bs62 : buildSliceV cx 62 0 [] = some (.sl .full []) := by rfl
theorem ap62 (tip : Tip) (st : St) : appendV cx st 62 (.sl .full []) (.sl tip []) = some (.sl .full [], st) := by
  obtain ⟨H, n⟩ := st
  rfl
theorem un62 : ∃ e, cx.P.underlying 62 = some (.slice e) := ⟨_, by rfl⟩
theorem bs85 : buildSliceV cx 85 0 [] = some (.sl .full []) := by rfl
theorem ap85 (tip : Tip) (st : St) : appendV cx st 85 (.sl .full []) (.sl tip []) = some (.sl .full [], st) := by
  obtain ⟨H, n⟩ := st
  rfl
theorem un85 : ∃ e, cx.P.underlying 85 = some (.slice e) := ⟨_, by rfl⟩
theorem clone28 (tip : Tip) (st : St) : FnS cx 28 [.sl tip []] st (.sl .full []) st := by
  obtain ⟨e, hu⟩ := un74
  refine goS Tryz.func28 rfl rfl rfl rfl ?_
  intro t ht
  have a0 : tget t 0 = .sl tip [] := ht 0 _ rfl
  clear ht
  have ex := And.intro @a0 (And.intro @bs74 @ap74)
  repeat' (first
   | (with_reducible refine isO ?_); first
     | refine mvA (h := ?_)
     | refine asA (h := ?_)
     | refine sNil hu (by simp only [↓evP, ↓tgP, ↓reduceIte, Nat.reduceEqDiff, reduceCtorEq, List.map_cons, List.map_nil, List.nil_append, List.append_nil, List.toList_toArray, a0]; with_reducible rfl) rfl (.inl rfl) (fun b => ?_)
     | refine quA (h := ?_)
     | refine waA (h := ?_)
   | (with_reducible refine isC ?_); first
     | refine ctA (h := ?_)
     | refine cfA (h := ?_)
     | refine cdA (h1 := fun _ => ?_) (h0 := fun _ => ?_)
     | refine cbA (h1 := fun _ => ?_) (h0 := fun _ => ?_)
   | with_reducible refine Ev.seq ?_
   | with_reducible refine Ev.ops ?_
   | with_reducible refine NxE ?_
   | with_reducible refine BxN ?_
   | with_reducible refine BxX ?_
   | with_reducible refine NxX ?_
   | with_reducible refine NxR ?_
   | with_reducible refine BxR ?_
   | with_reducible refine NxG ?_
   | with_reducible refine BxG ?_
   | with_reducible refine GxR ?_
   | with_reducible refine GxN ?_
   | with_reducible refine GxX ?_
   | with_reducible refine Ev.goto ?_
   | with_reducible refine Ev.block ?_
   | with_reducible refine Ev.skip ?_
   | with_reducible refine Ev.exit ?_
   | with_reducible refine Ev.ret ?_
   | with_reducible refine Ev.label ?_
   | with_reducible refine EvOps.nil ?_
   | with_reducible refine EvPlan.nil ?_
   | (with_reducible refine BxO ?_ ?_; · decide)
   )
  all_goals refine lsA (rl := [.tmp 2]) rfl (hv := by rfl)
theorem clone50 (tip : Tip) (st : St) : FnS cx 50 [.sl tip []] st (.sl .full []) st := by
  obtain ⟨e, hu⟩ := un62
  refine goS Tryz.func50 rfl rfl rfl rfl ?_
  intro t ht
  have a0 : tget t 0 = .sl tip [] := ht 0 _ rfl
  clear ht
  have ex := And.intro @a0 (And.intro @bs62 @ap62)
  repeat' (first
   | (with_reducible refine isO ?_); first
     | refine mvA (h := ?_)
     | refine asA (h := ?_)
     | refine sNil hu (by simp only [↓evP, ↓tgP, ↓reduceIte, Nat.reduceEqDiff, reduceCtorEq, List.map_cons, List.map_nil, List.nil_append, List.append_nil, List.toList_toArray, a0]; with_reducible rfl) rfl (.inl rfl) (fun b => ?_)
     | refine quA (h := ?_)
     | refine waA (h := ?_)
   | (with_reducible refine isC ?_); first
     | refine ctA (h := ?_)
     | refine cfA (h := ?_)
     | refine cdA (h1 := fun _ => ?_) (h0 := fun _ => ?_)
     | refine cbA (h1 := fun _ => ?_) (h0 := fun _ => ?_)
   | with_reducible refine Ev.seq ?_
   | with_reducible refine Ev.ops ?_
   | with_reducible refine NxE ?_
   | with_reducible refine BxN ?_
   | with_reducible refine BxX ?_
   | with_reducible refine NxX ?_
   | with_reducible refine NxR ?_
   | with_reducible refine BxR ?_
   | with_reducible refine NxG ?_
   | with_reducible refine BxG ?_
   | with_reducible refine GxR ?_
   | with_reducible refine GxN ?_
   | with_reducible refine GxX ?_
   | with_reducible refine Ev.goto ?_
   | with_reducible refine Ev.block ?_
   | with_reducible refine Ev.skip ?_
   | with_reducible refine Ev.exit ?_
   | with_reducible refine Ev.ret ?_
   | with_reducible refine Ev.label ?_
   | with_reducible refine EvOps.nil ?_
   | with_reducible refine EvPlan.nil ?_
   | (with_reducible refine BxO ?_ ?_; · decide)
   )
  all_goals refine lsA (rl := [.tmp 2]) rfl (hv := by rfl)
theorem clone51 (tip : Tip) (st : St) : FnS cx 51 [.sl tip []] st (.sl .full []) st := by
  obtain ⟨e, hu⟩ := un85
  refine goS Tryz.func51 rfl rfl rfl rfl ?_
  intro t ht
  have a0 : tget t 0 = .sl tip [] := ht 0 _ rfl
  clear ht
  have ex := And.intro @a0 (And.intro @bs85 @ap85)
  repeat' (first
   | (with_reducible refine isO ?_); first
     | refine mvA (h := ?_)
     | refine asA (h := ?_)
     | refine sNil hu (by simp only [↓evP, ↓tgP, ↓reduceIte, Nat.reduceEqDiff, reduceCtorEq, List.map_cons, List.map_nil, List.nil_append, List.append_nil, List.toList_toArray, a0]; with_reducible rfl) rfl (.inl rfl) (fun b => ?_)
     | refine quA (h := ?_)
     | refine waA (h := ?_)
   | (with_reducible refine isC ?_); first
     | refine ctA (h := ?_)
     | refine cfA (h := ?_)
     | refine cdA (h1 := fun _ => ?_) (h0 := fun _ => ?_)
     | refine cbA (h1 := fun _ => ?_) (h0 := fun _ => ?_)
   | with_reducible refine Ev.seq ?_
   | with_reducible refine Ev.ops ?_
   | with_reducible refine NxE ?_
   | with_reducible refine BxN ?_
   | with_reducible refine BxX ?_
   | with_reducible refine NxX ?_
   | with_reducible refine NxR ?_
   | with_reducible refine BxR ?_
   | with_reducible refine NxG ?_
   | with_reducible refine BxG ?_
   | with_reducible refine GxR ?_
   | with_reducible refine GxN ?_
   | with_reducible refine GxX ?_
   | with_reducible refine Ev.goto ?_
   | with_reducible refine Ev.block ?_
   | with_reducible refine Ev.skip ?_
   | with_reducible refine Ev.exit ?_
   | with_reducible refine Ev.ret ?_
   | with_reducible refine Ev.label ?_
   | with_reducible refine EvOps.nil ?_
   | with_reducible refine EvPlan.nil ?_
   | (with_reducible refine BxO ?_ ?_; · decide)
   )
  all_goals refine lsA (rl := [.tmp 2]) rfl (hv := by rfl)

/-- slices.Clone of what is empty is known. -/
def cloneX (k : FuncId) (args : List V) (st : St) : Option (V × St) :=
  if k == 28 || k == 50 || k == 51 then
    match args with
    | [.sl _ []] => some (.sl .full [], st)
    | _ => none
  else none
noncomputable def cy : Cfg := { cx with X := cloneX, eqs := [87], mutT := fun t => t == 71 || t == 62 }
theorem cy_ok : COk cy := by
  refine ⟨fun t ht => ?_, by decide +kernel, by decide +kernel, fun _ _ _ _ => trivial⟩
  obtain rfl : t = 87 := by
    have h : t ∈ [87] := ht
    simpa using h
  exact ⟨by decide +kernel, by decide +kernel⟩
theorem cy_glob : GlobPure cy := fun _ => rfl
theorem cy_x : XOk cy := by
  intro k args st v st' h
  have h : cloneX k args st = some (v, st') := h
  unfold cloneX at h
  split at h
  · rename_i hk
    split at h
    · rename_i tip _
      cases h
      have main : ∀ k, FnS cx k [.sl tip []] st (.sl .full []) st → AC cy k [.sl tip []] st (.sl .full []) st := fun k h => AC.ofFn (C := cx) (C' := cy) rfl rfl rfl rfl cx_ok glob_pure x_none h.ex
      simp only [Bool.or_eq_true, beq_iff_eq] at hk
      rcases hk with (rfl | rfl) | rfl
      · exact main _ (clone28 tip st)
      · exact main _ (clone50 tip st)
      · exact main _ (clone51 tip st)
    · cases h
  · cases h
end Go.Proofs.YtgffpmhpmkmkeaaGreatDoor
