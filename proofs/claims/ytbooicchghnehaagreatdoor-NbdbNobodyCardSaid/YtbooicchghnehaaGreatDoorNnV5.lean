/- slices.Clone of what is empty; the configuration of the law. -/
import Derived.Test.YtbooicchghnehaaGreatDoorNnV4
set_option linter.unusedSimpArgs false
set_option linter.unusedVariables false
set_option maxRecDepth 1000000
namespace Go.Proofs.YtbooicchghnehaaGreatDoor
open Go Go.Vm Go.Proofs

/-- No function is known. -/
noncomputable def cx : Cfg := { cn with keep := fun _ => true, grow := fun _ => true }
theorem cx_ok : COk cx := ⟨fun t ht => (by cases ht), by decide +kernel, by decide +kernel, fun _ _ _ _ => trivial⟩
theorem glob_pure : GlobPure cx := fun _ => rfl
theorem x_none : XOk cx := XOk.none fun _ _ _ => rfl
theorem tyE : cx.P = Tryz.prog ∧ (Tryz.prog.underlying 35 = some (.slice 31) ∧ Tryz.prog.underlying 29 = some (.slice 59)) := ⟨rfl, Tryz.underlying35, Tryz.underlying29⟩
theorem cvE : (0 : Nat) = 0 := rfl
theorem bdE : (0 : Nat) = 0 := rfl
theorem tyX : (0 : Nat) = 0 := rfl
theorem bs35 : buildSliceV cx 35 0 [] = some (.sl .full []) := by rfl
theorem ap35 (tip : Tip) (st : St) : appendV cx st 35 (.sl .full []) (.sl tip []) = some (.sl .full [], st) := by
  obtain ⟨H, n⟩ := st
  rfl
theorem un35 : ∃ e, cx.P.underlying 35 = some (.slice e) := ⟨_, by rfl⟩
theorem bs29 : buildSliceV cx 29 0 [] = some (.sl .full []) := by rfl
theorem ap29 (tip : Tip) (st : St) : appendV cx st 29 (.sl .full []) (.sl tip []) = some (.sl .full [], st) := by
  obtain ⟨H, n⟩ := st
  rfl
theorem un29 : ∃ e, cx.P.underlying 29 = some (.slice e) := ⟨_, by rfl⟩
theorem clone20 (tip : Tip) (st : St) : FnS cx 20 [.sl tip []] st (.sl .full []) st := by
  obtain ⟨e, hu⟩ := un35
  refine goS Tryz.func20 rfl rfl rfl rfl ?_
  intro t ht
  have a0 : tget t 0 = .sl tip [] := ht 0 _ rfl
  clear ht
  have ex := And.intro @a0 (And.intro @bs35 @ap35)
  repeat' (first
   | (with_reducible refine isO ?_); first | refine mvA (h := ?_) | refine asA (h := ?_) | refine sNil hu (by simp only [↓evP, ↓tgP, ↓reduceIte, Nat.reduceEqDiff, reduceCtorEq, List.map_cons, List.map_nil, List.nil_append, List.append_nil, List.toList_toArray, a0]; with_reducible rfl) rfl (.inl rfl) (fun b => ?_) | refine quA (h := ?_) | refine waA (h := ?_)
   | (with_reducible refine isC ?_); first | refine ctA (h := ?_) | refine cfA (h := ?_) | refine cdA (h1 := fun _ => ?_) (h0 := fun _ => ?_) | refine cbA (h1 := fun _ => ?_) (h0 := fun _ => ?_)
   | with_reducible first | refine Ev.seq ?_ | refine Ev.ops ?_ | refine NxE ?_ | refine BxN ?_ | refine BxX ?_ | refine NxX ?_ | refine NxR ?_ | refine BxR ?_ | refine NxG ?_ | refine BxG ?_ | refine GxR ?_ | refine GxN ?_ | refine GxX ?_ | refine Ev.goto ?_ | refine Ev.block ?_ | refine Ev.skip ?_ | refine Ev.exit ?_ | refine Ev.ret ?_ | refine Ev.label ?_ | refine EvOps.nil ?_ | refine EvPlan.nil ?_
   | (with_reducible refine BxO ?_ ?_; · decide)
   )
  all_goals refine lsA (rl := [.tmp 2]) rfl (hv := by rfl)
theorem clone21 (tip : Tip) (st : St) : FnS cx 21 [.sl tip []] st (.sl .full []) st := by
  obtain ⟨e, hu⟩ := un29
  refine goS Tryz.func21 rfl rfl rfl rfl ?_
  intro t ht
  have a0 : tget t 0 = .sl tip [] := ht 0 _ rfl
  clear ht
  have ex := And.intro @a0 (And.intro @bs29 @ap29)
  repeat' (first
   | (with_reducible refine isO ?_); first | refine mvA (h := ?_) | refine asA (h := ?_) | refine sNil hu (by simp only [↓evP, ↓tgP, ↓reduceIte, Nat.reduceEqDiff, reduceCtorEq, List.map_cons, List.map_nil, List.nil_append, List.append_nil, List.toList_toArray, a0]; with_reducible rfl) rfl (.inl rfl) (fun b => ?_) | refine quA (h := ?_) | refine waA (h := ?_)
   | (with_reducible refine isC ?_); first | refine ctA (h := ?_) | refine cfA (h := ?_) | refine cdA (h1 := fun _ => ?_) (h0 := fun _ => ?_) | refine cbA (h1 := fun _ => ?_) (h0 := fun _ => ?_)
   | with_reducible first | refine Ev.seq ?_ | refine Ev.ops ?_ | refine NxE ?_ | refine BxN ?_ | refine BxX ?_ | refine NxX ?_ | refine NxR ?_ | refine BxR ?_ | refine NxG ?_ | refine BxG ?_ | refine GxR ?_ | refine GxN ?_ | refine GxX ?_ | refine Ev.goto ?_ | refine Ev.block ?_ | refine Ev.skip ?_ | refine Ev.exit ?_ | refine Ev.ret ?_ | refine Ev.label ?_ | refine EvOps.nil ?_ | refine EvPlan.nil ?_
   | (with_reducible refine BxO ?_ ?_; · decide)
   )
  all_goals refine lsA (rl := [.tmp 2]) rfl (hv := by rfl)

def rowOk (n : Nat) (e : V × V) : Bool :=
  match e.2 with
  | .agg cs => cs.length == 13 && lowV n (stripAgg (.agg cs))
  | _ => false
theorem rowOk_sound {n : Nat} {e : V × V} (h : rowOk n e = true) : (∃ cs, e.2 = .agg cs ∧ cs.length = 13) ∧ lowV n (stripAgg e.2) = true := by
  unfold rowOk at h
  split at h
  · rename_i cs hc
    rw [Bool.and_eq_true, beq_iff_eq] at h
    exact ⟨⟨cs, hc, h.1⟩, by rw [hc]; exact h.2⟩
  · cases h
/-- What is known: slices.Clone of what is empty, maps.Clone, slices.Collect of one row at most. -/
def cloneX (args : List V) (st : St) : Option (V × St) :=
  match args with
  | [.sl _ []] => some (.sl .full [], st)
  | _ => none
def mcloneX (args : List V) (st : St) : Option (V × St) :=
  match args with
  | [.map mb] => (hgetM st.H mb).map fun es => (.map st.n, ⟨(st.n, .map es) :: st.H, st.n + 1⟩)
  | _ => none
/-- The rows of a map that is collected. -/
def rowsOf (args : List V) (st : St) : Option (Nat × Nat × List (V × V)) :=
  match args with
  | [.func (.func 39) [] [.ptr bx 0]] =>
    match hget st.H bx with
    | some (.cells [.map mb]) =>
      match hget st.H mb with
      | some (.map es) => if (es.all (rowOk st.n) && lowH st.n st.H && decide (es.length ≤ 2 ^ 20)) = true then some (bx, mb, es) else none
      | _ => none
    | _ => none
  | _ => none
def collX (args : List V) (st : St) : Option (V × St) :=
  match rowsOf args st with
  | some (_, _, es) => if es.length ≤ 1 then some (.sl .none (es.map fun e => stripAgg e.2), st) else none
  | none => none
def nnX (k : FuncId) (args : List V) (st : St) : Option (V × St) :=
  if k == 20 || k == 21 then cloneX args st else if k == 10 then mcloneX args st else if k == 14 then collX args st else none

theorem by31 : byOf cn 31 ≤ 2 ^ 20 := by decide +kernel
theorem rowsOf_sound {args : List V} {st : St} {bx mb : Nat} {es : List (V × V)} (h : rowsOf args st = some (bx, mb, es)) :
    Vm.Fn cn 14 args st (fun v st' => (∃ pre : List (V × V), pre.Perm es ∧ v = .sl .none (pre.map fun e => stripAgg e.2)) ∧ st' = st) := by
  unfold rowsOf at h
  split at h
  · split at h
    · split at h
      · rename_i h1 _ es' h2
        split at h
        · rename_i hc
          cases h
          simp only [Bool.and_eq_true, List.all_eq_true, decide_eq_true_eq] at hc
          obtain ⟨⟨c1, c2⟩, c3⟩ := hc
          obtain ⟨H, n⟩ := st
          exact collect14 h1 h2 (lowH_sound c2) (fun e he => (rowOk_sound (c1 e he)).1) (Nat.le_trans (Nat.mul_le_mul c3 by31) (by decide)) (Nat.le_trans c3 (by decide)) fun e he => (rowOk_sound (c1 e he)).2
        · cases h
      · cases h
    · cases h
  · cases h

/-- The configuration of the law. -/
noncomputable def cy : Cfg := { cx with X := nnX, eqs := [42, 95, 98, 59, 115], mutT := fun t => t == 35, pure := fun k => k == 12 || k == 13, keep := fun k => !(k == 12 || k == 13), frz := fun k => k == 12 }
theorem cy_ok : COk cy := by
  refine ⟨fun t ht => ?_, by decide +kernel, by decide +kernel, fun _ _ _ _ => trivial⟩
  have h : t ∈ [42, 95, 98, 59, 115] := ht
  simp only [List.mem_cons, List.not_mem_nil, or_false] at h
  rcases h with rfl | rfl | rfl | rfl | rfl
  all_goals exact ⟨by decide +kernel, by decide +kernel⟩
theorem cy_glob : GlobPure cy := fun _ => rfl
theorem cy_x : XOk cy := by
  intro k args st v st' h
  replace h : nnX k args st = some (v, st') := h
  unfold nnX at h
  split at h
  · rename_i hk
    unfold cloneX at h
    split at h
    · rename_i tip
      cases h
      have main : ∀ k, FnS cx k [.sl tip []] st (.sl .full []) st → AC cy k [.sl tip []] st (.sl .full []) st := fun k h => AC.ofFn (C := cx) (C' := cy) rfl rfl rfl rfl cx_ok glob_pure x_none h.ex
      simp only [Bool.or_eq_true, beq_iff_eq] at hk
      rcases hk with rfl | rfl
      · exact main _ (clone20 tip st)
      · exact main _ (clone21 tip st)
    · cases h
  · split at h
    · rename_i _ hk
      obtain rfl : k = 10 := by simpa using hk
      unfold mcloneX at h
      split at h
      · rename_i mb
        obtain ⟨H, n⟩ := st
        cases hm : hgetM H mb with
        | none => rw [show hgetM (St.mk H n).H mb = none from hm] at h; cases h
        | some es =>
          rw [show hgetM (St.mk H n).H mb = some es from hm] at h
          cases h
          exact AC.ofFnS (C := cn) (C' := cy) rfl rfl rfl rfl cn_ok cn_glob cn_x (Nat.le_succ _) (mclone10 hm).ex
      · cases h
    · split at h
      · rename_i _ _ hk
        obtain rfl : k = 14 := by simpa using hk
        unfold collX at h
        split at h
        · rename_i bx mb es hr
          split at h
          · rename_i hl
            cases h
            refine AC.ofFn (C := cn) (C' := cy) rfl rfl rfl rfl cn_ok cn_glob cn_x ((rowsOf_sound hr).mono ?_)
            rintro v st' ⟨⟨pre, hp, rfl⟩, rfl⟩
            refine ⟨?_, rfl⟩
            match es, hl, hp with
            | [], _, hp => rw [List.perm_nil.1 hp]
            | [e], _, hp => rw [List.perm_singleton.1 hp]
          · cases h
        · cases h
      · cases h
end Go.Proofs.YtbooicchghnehaaGreatDoor
