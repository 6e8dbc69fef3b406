/- The seat's program, for the evaluator; slices.Clone of what is empty. -/
import Derived.Test.YtbgalenfbmaceaaGreatDoorN26
import Derived.Test.YtbgalenfbmaceaaGreatDoorProg
set_option linter.unusedSimpArgs false
set_option linter.unusedVariables false
set_option maxRecDepth 100000
namespace Go.Proofs.YtbgalenfbmaceaaGreatDoor
open Go Go.Vm Go.Proofs

/-- No function is known. -/
noncomputable def cx : Cfg := { P := Tryz.prog, glob := fun _ => .any, X := fun _ _ _ => none, keep := fun _ => true, frz := fun _ => false, grow := fun _ => true, pure := fun _ => false, eqs := [] }
theorem cx_ok : COk cx := ⟨fun t ht => (by cases ht), by decide +kernel, by decide +kernel, fun _ _ _ _ => trivial⟩
theorem glob_pure : GlobPure cx := fun _ => rfl
theorem x_none : XOk cx := XOk.none fun _ _ _ => rfl

theorem tyE : cx.P = Tryz.prog ∧ (Tryz.prog.underlying 50 = some (.slice 94) ∧ Tryz.prog.underlying 44 = some (.slice 49) ∧ Tryz.prog.underlying 45 = some (.slice 123)) := ⟨rfl, Tryz.underlying50, Tryz.underlying44, Tryz.underlying45⟩
theorem cvE : (0 : Nat) = 0 := rfl
theorem bdE : (0 : Nat) = 0 := rfl
theorem tyX : (0 : Nat) = 0 := rfl
theorem bs50 : buildSliceV cx 50 0 [] = some (.sl .full []) := by rfl
theorem ap50 (tip : Tip) (st : St) : appendV cx st 50 (.sl .full []) (.sl tip []) = some (.sl .full [], st) := by
  obtain ⟨H, n⟩ := st
  rfl
theorem un50 : ∃ e, cx.P.underlying 50 = some (.slice e) := ⟨_, by rfl⟩
theorem bs44 : buildSliceV cx 44 0 [] = some (.sl .full []) := by rfl
theorem ap44 (tip : Tip) (st : St) : appendV cx st 44 (.sl .full []) (.sl tip []) = some (.sl .full [], st) := by
  obtain ⟨H, n⟩ := st
  rfl
theorem un44 : ∃ e, cx.P.underlying 44 = some (.slice e) := ⟨_, by rfl⟩
theorem bs45 : buildSliceV cx 45 0 [] = some (.sl .full []) := by rfl
theorem ap45 (tip : Tip) (st : St) : appendV cx st 45 (.sl .full []) (.sl tip []) = some (.sl .full [], st) := by
  obtain ⟨H, n⟩ := st
  rfl
theorem un45 : ∃ e, cx.P.underlying 45 = some (.slice e) := ⟨_, by rfl⟩
theorem clone20 (tip : Tip) (st : St) : FnS cx 20 [.sl tip []] st (.sl .full []) st := by
  obtain ⟨e, hu⟩ := un50
  refine goS Tryz.func20 rfl rfl rfl rfl ?_
  intro t ht
  have a0 : tget t 0 = .sl tip [] := ht 0 _ rfl
  clear ht
  have ex := And.intro @a0 (And.intro @bs50 @ap50)
  repeat' (first
   | (with_reducible refine isO ?_); first | refine mvA (h := ?_) | refine asA (h := ?_) | refine sNil hu (by simp only [↓evP, ↓tgP, ↓reduceIte, Nat.reduceEqDiff, reduceCtorEq, List.map_cons, List.map_nil, List.nil_append, List.append_nil, List.toList_toArray, a0]; with_reducible rfl) rfl (.inl rfl) (fun b => ?_) | refine quA (h := ?_) | refine waA (h := ?_)
   | (with_reducible refine isC ?_); first | refine ctA (h := ?_) | refine cfA (h := ?_) | refine cdA (h1 := fun _ => ?_) (h0 := fun _ => ?_) | refine cbA (h1 := fun _ => ?_) (h0 := fun _ => ?_)
   | with_reducible first | refine Ev.seq ?_ | refine Ev.ops ?_ | refine NxE ?_ | refine BxN ?_ | refine BxX ?_ | refine NxX ?_ | refine NxR ?_ | refine BxR ?_ | refine Ev.block ?_ | refine Ev.skip ?_ | refine Ev.exit ?_ | refine Ev.ret ?_ | refine EvOps.nil ?_ | refine EvPlan.nil ?_
   | (with_reducible refine BxO ?_ ?_; · decide)
   )
  all_goals refine lsA (rl := [.tmp 2]) rfl (hv := by rfl)
theorem clone36 (tip : Tip) (st : St) : FnS cx 36 [.sl tip []] st (.sl .full []) st := by
  obtain ⟨e, hu⟩ := un44
  refine goS Tryz.func36 rfl rfl rfl rfl ?_
  intro t ht
  have a0 : tget t 0 = .sl tip [] := ht 0 _ rfl
  clear ht
  have ex := And.intro @a0 (And.intro @bs44 @ap44)
  repeat' (first
   | (with_reducible refine isO ?_); first | refine mvA (h := ?_) | refine asA (h := ?_) | refine sNil hu (by simp only [↓evP, ↓tgP, ↓reduceIte, Nat.reduceEqDiff, reduceCtorEq, List.map_cons, List.map_nil, List.nil_append, List.append_nil, List.toList_toArray, a0]; with_reducible rfl) rfl (.inl rfl) (fun b => ?_) | refine quA (h := ?_) | refine waA (h := ?_)
   | (with_reducible refine isC ?_); first | refine ctA (h := ?_) | refine cfA (h := ?_) | refine cdA (h1 := fun _ => ?_) (h0 := fun _ => ?_) | refine cbA (h1 := fun _ => ?_) (h0 := fun _ => ?_)
   | with_reducible first | refine Ev.seq ?_ | refine Ev.ops ?_ | refine NxE ?_ | refine BxN ?_ | refine BxX ?_ | refine NxX ?_ | refine NxR ?_ | refine BxR ?_ | refine Ev.block ?_ | refine Ev.skip ?_ | refine Ev.exit ?_ | refine Ev.ret ?_ | refine EvOps.nil ?_ | refine EvPlan.nil ?_
   | (with_reducible refine BxO ?_ ?_; · decide)
   )
  all_goals refine lsA (rl := [.tmp 2]) rfl (hv := by rfl)
theorem clone37 (tip : Tip) (st : St) : FnS cx 37 [.sl tip []] st (.sl .full []) st := by
  obtain ⟨e, hu⟩ := un45
  refine goS Tryz.func37 rfl rfl rfl rfl ?_
  intro t ht
  have a0 : tget t 0 = .sl tip [] := ht 0 _ rfl
  clear ht
  have ex := And.intro @a0 (And.intro @bs45 @ap45)
  repeat' (first
   | (with_reducible refine isO ?_); first | refine mvA (h := ?_) | refine asA (h := ?_) | refine sNil hu (by simp only [↓evP, ↓tgP, ↓reduceIte, Nat.reduceEqDiff, reduceCtorEq, List.map_cons, List.map_nil, List.nil_append, List.append_nil, List.toList_toArray, a0]; with_reducible rfl) rfl (.inl rfl) (fun b => ?_) | refine quA (h := ?_) | refine waA (h := ?_)
   | (with_reducible refine isC ?_); first | refine ctA (h := ?_) | refine cfA (h := ?_) | refine cdA (h1 := fun _ => ?_) (h0 := fun _ => ?_) | refine cbA (h1 := fun _ => ?_) (h0 := fun _ => ?_)
   | with_reducible first | refine Ev.seq ?_ | refine Ev.ops ?_ | refine NxE ?_ | refine BxN ?_ | refine BxX ?_ | refine NxX ?_ | refine NxR ?_ | refine BxR ?_ | refine Ev.block ?_ | refine Ev.skip ?_ | refine Ev.exit ?_ | refine Ev.ret ?_ | refine EvOps.nil ?_ | refine EvPlan.nil ?_
   | (with_reducible refine BxO ?_ ?_; · decide)
   )
  all_goals refine lsA (rl := [.tmp 2]) rfl (hv := by rfl)

/-- slices.Clone of what is empty is known. -/
def cloneX (k : FuncId) (args : List V) (st : St) : Option (V × St) :=
  if k == 20 || k == 36 || k == 37 then
    match args with
    | [.sl _ []] => some (.sl .full [], st)
    | _ => none
  else none
noncomputable def cy : Cfg := { cx with X := cloneX, eqs := [47], mutT := fun t => t == 63 || t == 44 }
theorem cy_ok : COk cy := by
  refine ⟨fun t ht => ?_, by decide +kernel, by decide +kernel, fun _ _ _ _ => trivial⟩
  obtain rfl : t = 47 := by
    have h : t ∈ [47] := ht
    simpa using h
  exact ⟨by decide +kernel, by decide +kernel⟩
theorem cy_glob : GlobPure cy := fun _ => rfl
theorem cy_x : XOk cy := by
  intro k args st v st' h
  have h : cloneX k args st = some (v, st') := h
  unfold cloneX at h
  split at h
  · rename_i hk
    split at h
    · rename_i tip _
      cases h
      have main : ∀ k, FnS cx k [.sl tip []] st (.sl .full []) st → AC cy k [.sl tip []] st (.sl .full []) st := fun k h => AC.ofFn (C := cx) (C' := cy) rfl rfl rfl rfl cx_ok glob_pure x_none h.ex
      simp only [Bool.or_eq_true, beq_iff_eq] at hk
      rcases hk with (rfl | rfl) | rfl
      · exact main _ (clone20 tip st)
      · exact main _ (clone36 tip st)
      · exact main _ (clone37 tip st)
    · cases h
  · cases h
end Go.Proofs.YtbgalenfbmaceaaGreatDoor
