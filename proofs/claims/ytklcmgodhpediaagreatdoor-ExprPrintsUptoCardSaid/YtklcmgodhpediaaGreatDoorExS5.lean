/- Whether an expression may be: the document. -/
import Derived.Test.YtklcmgodhpediaaGreatDoorExS1
set_option linter.unusedSimpArgs false
set_option linter.unusedVariables false
set_option maxRecDepth 100000
namespace Go.Proofs.YtklcmgodhpediaaGreatDoor
open Go Go.Vm Go.Proofs

theorem evCut {C : Cfg} {a b : Code} {t : List (Nat × V)} {st : St} {Q : Ex → Fr → St → Prop} (R : List (Nat × V) → St → Prop) (h1 : Ev C a ⟨t, []⟩ st (Nx (fun f' st' => f'.d = [] ∧ R f'.t st') fun _ _ _ => False)) (h2 : ∀ t st, R t st → Ev C b ⟨t, []⟩ st Q) : Ev C (a.seq b) ⟨t, []⟩ st Q := by
  refine Ev.seq (Ev.mono h1 fun e f' st' h => ?_)
  cases e <;> first | exact h.elim | skip
  obtain ⟨t', d'⟩ := f'
  obtain ⟨rfl, hr⟩ := h
  exact h2 _ _ hr
theorem okEs_one (d : Int) {ps : List E} {q : E} (h : ps[0]? = some q) (hl : ps.length = 1) : okEs d ps = okE d q := by
  have := okEs_drop d h
  rw [List.drop_zero, List.drop_of_length_le (by omega)] at this
  rw [this, okEs, Bool.and_true]
theorem okE_node {d k f o v m : Int} {z : Bool} {ps : List E} (h : ¬ nodeP k f o v m ps.length) : okE d (.mk k f o v m z ps) = false := by
  rw [okE, decide_eq_false h, Bool.and_false, Bool.and_false]
theorem okE_ok {d k f o v m : Int} {z : Bool} {ps : List E} (hd : d ≤ 64) (hn : nodeP k f o v m ps.length) : okE d (.mk k f o v m z ps) = okEs (d + 1) ps := by
  rw [okE, decide_eq_true hd, decide_eq_true hn, Bool.true_and, Bool.and_true]
theorem okE_nil {d k f o v m : Int} {z : Bool} {ps : List E} (hd : d ≤ 64) (hl : ps.length = 0) : okE d (.mk k f o v m z ps) = decide (nodeP k f o v m ps.length) := by
  obtain rfl : ps = [] := List.eq_nil_of_length_eq_zero hl
  rw [okE, okEs, decide_eq_true hd, Bool.true_and, Bool.true_and]
theorem okE_lf {d k f o v m : Int} {z : Bool} {ps : List E} (hd : d ≤ 64) (hk : k = 1 ∨ k = 2 ∨ k = 3) : okE d (.mk k f o v m z ps) = decide (nodeP k f o v m ps.length) := by
  by_cases h : ps.length = 0
  · exact okE_nil hd h
  · have hn : ¬ nodeP k f o v m ps.length := by unfold nodeP; omega
    rw [okE_node hn, decide_eq_false hn]

set_option maxHeartbeats 16000000 in
theorem checkS : ∀ e : E, e.Ok → ∀ d : Int, 0 ≤ d → d ≤ 100 → ∀ st, FnS cx 25 [e.c, .int .i64 d] st (.bool (okE d e)) st := by
  refine E.ind fun k f o v m z ps ih => ?_
  intro hok d hd1 hd2 st
  obtain ⟨hk, hf, ho, hv, hm, hl, hpo⟩ := hok
  have hu := unown_c (.mk k f o v m z ps)
  have hp := E.pure (.mk k f o v m z ps)
  have hcl := cs_len ps
  have hso := szOk_cs ps
  refine goP Tryz.func25 rfl rfl rfl rfl ?_ ?_
  · simp only [List.map_cons, List.map_nil, hu, unL, pureVs, pureV, hp, Bool.and_self]
  intro t ht
  have a0 : tget t 0 = E.c (.mk k f o v m z ps) := ht 0 _ (by simp only [List.map_cons, hu]; rfl)
  have a1 : tget t 1 = .int .i64 d := ht 1 _ rfl
  clear ht
  rw [E.c] at a0
  refine Ev.seq ?_
  have ex := And.intro @a0 (And.intro @a1 (And.intro @hcl (And.intro @hpB @hso)))
  repeat' (first
   | (with_reducible refine isO ?_); first | refine mvA (h := ?_) | refine asA (h := ?_) | refine quA (h := ?_)
   | (with_reducible refine isG ?_); first | refine stA (h := ?_) | refine srA (h := ?_) | refine swA (h := ?_) | refine s1A (h := ?_) | refine s0A (h := ?_) | refine sgA (h1 := fun _ => ?_) (h0 := fun _ => ?_) | refine sbA (h1 := fun _ => ?_) (h0 := fun _ => ?_)
   | (with_reducible refine isP ?_); first | refine dqA (h := ?_) | refine dqAG (h := ?_) | refine dsA (h := ?_) | refine dtA (h := ?_) | refine dgA (h1 := fun _ => ?_) (h0 := fun _ => ?_)
   | (with_reducible refine isC ?_); first | refine ctA (h := ?_) | refine cfA (h := ?_) | refine cdA (h1 := fun _ => ?_) (h0 := fun _ => ?_) | refine cbA (h1 := fun _ => ?_) (h0 := fun _ => ?_)
   | (with_reducible refine isR ?_); first
     | refine Ev.drawn (by decide +kernel) (l := [0, 1, 2, 3, 4, 5, 6, 7, 8, 9, 10, 11, 12, 13, 14, 15, 16, 17, 18, 19, 20, 21, 22, 23, 24, 25, 26, 27, 28, 29, 30, 31, 32, 33, 34, 35, 36, 37, 38, 39, 40, 41, 42, 43, 44, 45, 46, 47, 48, 49, 50, 51, 52, 53]) (by decide +kernel) ?_
   | with_reducible first | refine Ev.ops ?_ | refine NxE ?_ | refine BxN ?_ | refine BxX ?_ | refine NxX ?_ | refine NxR ?_ | refine BxR ?_ | refine Ev.block ?_ | refine Ev.skip ?_ | refine Ev.exit ?_ | refine Ev.ret ?_ | refine EvOps.nil ?_ | refine EvPlan.nil ?_
   | (with_reducible refine BxO ?_ ?_; · decide)
   )
  refine evCut (fun t st => tget t 1 = .int .i64 d ∧ tget t 2 = .ptr 0 0 ∧ tget t 5 = .bool (decide (f = 0 ∧ o = 0 ∧ v = 0 ∧ m = 0)) ∧ st = ⟨[(0, .cells [.int .i64 k, .int .i64 f, .int .i64 o, .int .u64 v, .int .u64 m, .sl (tipB z) (E.cs ps)])], 1⟩) ?_ ?_
  · have ex := And.intro @a0 (And.intro @a1 (And.intro @hcl (And.intro @hpB @hso)))
    repeat' (first
     | (with_reducible refine isO ?_); first | refine mvA (h := ?_) | refine asA (h := ?_) | refine quA (h := ?_)
     | (with_reducible refine isG ?_); first | refine stA (h := ?_) | refine srA (h := ?_) | refine swA (h := ?_) | refine s1A (h := ?_) | refine s0A (h := ?_) | refine sgA (h1 := fun _ => ?_) (h0 := fun _ => ?_) | refine sbA (h1 := fun _ => ?_) (h0 := fun _ => ?_)
     | (with_reducible refine isP ?_); first | refine dqA (h := ?_) | refine dqAG (h := ?_) | refine dsA (h := ?_) | refine dtA (h := ?_) | refine dgA (h1 := fun _ => ?_) (h0 := fun _ => ?_)
     | (with_reducible refine isC ?_); first | refine ctA (h := ?_) | refine cfA (h := ?_) | refine cdA (h1 := fun _ => ?_) (h0 := fun _ => ?_) | refine cbA (h1 := fun _ => ?_) (h0 := fun _ => ?_)
     | (with_reducible refine isR ?_); first
       | refine Ev.drawn (by decide +kernel) (l := [0, 1, 2, 3, 4, 5, 6, 7, 8, 9, 10, 11, 12, 13, 14, 15, 16, 17, 18, 19, 20, 21, 22, 23, 24, 25, 26, 27, 28, 29, 30, 31, 32, 33, 34, 35, 36, 37, 38, 39, 40, 41, 42, 43, 44, 45, 46, 47, 48, 49, 50, 51, 52, 53]) (by decide +kernel) ?_
     | with_reducible first | refine Ev.ops ?_ | refine NxE ?_ | refine BxN ?_ | refine BxX ?_ | refine NxX ?_ | refine NxR ?_ | refine BxR ?_ | refine Ev.block ?_ | refine Ev.skip ?_ | refine Ev.exit ?_ | refine Ev.ret ?_ | refine EvOps.nil ?_ | refine EvPlan.nil ?_
     | (with_reducible refine BxO ?_ ?_; · decide)
     )
    all_goals
      refine ⟨rfl, ?_, ?_, ?_, rfl⟩
      · simp only [↓evP, ↓tgP, ↓reduceIte, Nat.reduceEqDiff, reduceCtorEq, List.map_cons, List.map_nil, List.nil_append, List.append_nil, List.toList_toArray, a1]
      · simp only [↓evP, ↓tgP, ↓reduceIte, Nat.reduceEqDiff, reduceCtorEq, List.map_cons, List.map_nil, List.nil_append, List.append_nil, List.toList_toArray, a0]
      · simp only [↓evP, ↓tgP, ↓reduceIte, Nat.reduceEqDiff, reduceCtorEq, List.map_cons, List.map_nil, List.nil_append, List.append_nil, List.toList_toArray, a0]
        first | done | rfl | exact congrArg V.bool (decide_eq_decide.2 (by omega)) | exact congrArg V.bool (decide_eq_false (by omega)).symm | exact congrArg V.bool (decide_eq_true (by omega)).symm
  rintro t st ⟨c1, c2, c5, rfl⟩
  by_cases hd64 : d ≤ 64
  case neg =>
    have ex := And.intro @c1 (And.intro @c2 (And.intro @c5 (And.intro @hcl (And.intro @hso (And.intro @hpB (And.intro @hpE @zvE))))))
    repeat' (first
     | (with_reducible refine isO ?_); first | refine mvA (h := ?_) | refine asA (h := ?_) | refine quA (h := ?_)
     | (with_reducible refine isG ?_); first | refine stA (h := ?_) | refine srA (h := ?_) | refine swA (h := ?_) | refine s1A (h := ?_) | refine s0A (h := ?_) | refine sgA (h1 := fun _ => ?_) (h0 := fun _ => ?_) | refine sbA (h1 := fun _ => ?_) (h0 := fun _ => ?_)
     | (with_reducible refine isP ?_); first | refine dqA (h := ?_) | refine dqAG (h := ?_) | refine dsA (h := ?_) | refine dtA (h := ?_) | refine dgA (h1 := fun _ => ?_) (h0 := fun _ => ?_)
     | (with_reducible refine isC ?_); first | refine ctA (h := ?_) | refine cfA (h := ?_) | refine cdA (h1 := fun _ => ?_) (h0 := fun _ => ?_) | refine cbA (h1 := fun _ => ?_) (h0 := fun _ => ?_)
     | (with_reducible refine isR ?_); first
       | refine Ev.drawn (by decide +kernel) (l := [0, 1, 2, 3, 4, 5, 6, 7, 8, 9, 10, 11, 12, 13, 14, 15, 16, 17, 18, 19, 20, 21, 22, 23, 24, 25, 26, 27, 28, 29, 30, 31, 32, 33, 34, 35, 36, 37, 38, 39, 40, 41, 42, 43, 44, 45, 46, 47, 48, 49, 50, 51, 52, 53]) (by decide +kernel) ?_
     | with_reducible first | refine Ev.seq ?_ | refine Ev.ops ?_ | refine NxE ?_ | refine BxN ?_ | refine BxX ?_ | refine NxX ?_ | refine NxR ?_ | refine BxR ?_ | refine Ev.block ?_ | refine Ev.skip ?_ | refine Ev.exit ?_ | refine Ev.ret ?_ | refine EvOps.nil ?_ | refine EvPlan.nil ?_
     | (with_reducible refine BxO ?_ ?_; · decide)
     )
    all_goals refine lfA (rl := [.tmp 4]) rfl (hv := by
      simp only [packV, strip, stripAgg, stripCell, List.map_cons, List.map_nil]
      rw [okE, decide_eq_false hd64]; rfl) (hp := rfl)
  by_cases h41 : k = 4 ∧ ps.length = 1
  · obtain ⟨qk, qf, qo, qv, qm, qz, qs, hq, hqc, hqm⟩ := part_at (i := 0) (ps := ps) (by omega)
    have hih := ih _ hqm (hpo _ hqm) (d + 1) (by omega) (by omega)
    rw [E.c] at hih
    have ho1 := okEs_one (d + 1) hq h41.2
    have ex := And.intro @c1 (And.intro @c2 (And.intro @c5 (And.intro @hcl (And.intro @hso (And.intro @hqc (And.intro @hpB (And.intro @hpE @zvE)))))))
    repeat' (first
     | (with_reducible refine isO ?_); first | refine mvA (h := ?_) | refine asA (h := ?_) | refine quA (h := ?_) | refine caA (hc := hih _) (h := ?_)
     | (with_reducible refine isG ?_); first | refine stA (h := ?_) | refine srA (h := ?_) | refine swA (h := ?_) | refine s1A (h := ?_) | refine s0A (h := ?_) | refine sgA (h1 := fun _ => ?_) (h0 := fun _ => ?_) | refine sbA (h1 := fun _ => ?_) (h0 := fun _ => ?_)
     | (with_reducible refine isP ?_); first | refine dqA (h := ?_) | refine dqAG (h := ?_) | refine dsA (h := ?_) | refine dtA (h := ?_) | refine dgA (h1 := fun _ => ?_) (h0 := fun _ => ?_)
     | (with_reducible refine isC ?_); first | refine ctA (h := ?_) | refine cfA (h := ?_) | refine cdA (h1 := fun _ => ?_) (h0 := fun _ => ?_) | refine cbA (h1 := fun _ => ?_) (h0 := fun _ => ?_)
     | (with_reducible refine isR ?_); first
       | refine Ev.drawn (by decide +kernel) (l := [0, 1, 2, 3, 4, 5, 6, 7, 8, 9, 10, 11, 12, 13, 14, 15, 16, 17, 18, 19, 20, 21, 22, 23, 24, 25, 26, 27, 28, 29, 30, 31, 32, 33, 34, 35, 36, 37, 38, 39, 40, 41, 42, 43, 44, 45, 46, 47, 48, 49, 50, 51, 52, 53]) (by decide +kernel) ?_
     | with_reducible first | refine Ev.seq ?_ | refine Ev.ops ?_ | refine NxE ?_ | refine BxN ?_ | refine BxX ?_ | refine NxX ?_ | refine NxR ?_ | refine BxR ?_ | refine Ev.block ?_ | refine Ev.skip ?_ | refine Ev.exit ?_ | refine Ev.ret ?_ | refine EvOps.nil ?_ | refine EvPlan.nil ?_
     | (with_reducible refine BxO ?_ ?_; · decide)
     )
    all_goals
      refine lfA (rl := [.tmp 4]) rfl (hv := by
      simp only [packV, strip, stripAgg, stripCell, List.map_cons, List.map_nil]
      first | (exfalso; omega) | (rw [okE_node (by unfold nodeP; omega)]; done) | (rw [okE_ok hd64 (by unfold nodeP; omega), ho1])) (hp := rfl)
  have ex := And.intro @c1 (And.intro @c2 (And.intro @c5 (And.intro @hcl (And.intro @hso (And.intro @hpB (And.intro @hpE @zvE))))))
  have exd := @andnE
  repeat' (first
   | (with_reducible refine isO ?_); first | refine mvA (h := ?_) | refine asA (h := ?_) | refine quA (h := ?_)
   | (with_reducible refine isG ?_); first | refine stA (h := ?_) | refine srA (h := ?_) | refine swA (h := ?_) | refine s1A (h := ?_) | refine s0A (h := ?_) | refine sgA (h1 := fun _ => ?_) (h0 := fun _ => ?_) | refine sbA (h1 := fun _ => ?_) (h0 := fun _ => ?_)
   | (with_reducible refine isP ?_); first | refine dqA (h := ?_) | refine dqAG (h := ?_) | refine dcAG (i := 7) (l := []) (hc := isS _ _) (h := ?_) | refine dcAG (i := 29) (l := [26]) (hc := (refAllS _ (by omega) (by omega) _)) (h := ?_) | refine dcAG (i := 49) (l := [46]) (hc := (refAllS _ (by omega) (by omega) _)) (h := ?_) | refine dsA (h := ?_) | refine dtA (h := ?_) | refine dgA (h1 := fun _ => ?_) (h0 := fun _ => ?_)
   | (with_reducible refine isC ?_); first | refine ctA (h := ?_) | refine cfA (h := ?_) | refine cdA (h1 := fun _ => ?_) (h0 := fun _ => ?_) | refine cbA (h1 := fun _ => ?_) (h0 := fun _ => ?_)
   | (with_reducible refine isR ?_); first
     | refine Ev.drawn (by decide +kernel) (l := [0, 1, 2, 3, 4, 5, 6, 7, 8, 9, 10, 11, 12, 13, 14, 15, 16, 17, 18, 19, 20, 21, 22, 23, 24, 25, 26, 27, 28, 29, 30, 31, 32, 33, 34, 35, 36, 37, 38, 39, 40, 41, 42, 43, 44, 45, 46, 47, 48, 49, 50, 51, 52, 53]) (by decide +kernel) ?_
   | with_reducible first | refine Ev.seq ?_ | refine Ev.ops ?_ | refine NxE ?_ | refine BxN ?_ | refine BxX ?_ | refine NxX ?_ | refine NxR ?_ | refine BxR ?_ | refine Ev.block ?_ | refine Ev.skip ?_ | refine Ev.exit ?_ | refine Ev.ret ?_ | refine EvOps.nil ?_ | refine EvPlan.nil ?_
   | (with_reducible refine BxO ?_ ?_; · decide)
   )
  all_goals first
    | (exfalso; omega)
    | refine lfA (rl := [.tmp 4]) rfl (hv := by
            simp only [packV, strip, stripAgg, stripCell, List.map_cons, List.map_nil]
            first | (exfalso; omega) | (rw [okE_node (by unfold nodeP; omega)]; done) | (rw [okE_lf hd64 (by omega)]; unfold nodeP; (first | done | rfl | exact congrArg V.bool (decide_eq_decide.2 (by omega)) | exact congrArg V.bool (decide_eq_false (by omega)).symm | exact congrArg V.bool (decide_eq_true (by omega)).symm))) (hp := rfl)
    | skip
  all_goals
    have hn2 : nodeP k f o v m ps.length := by unfold nodeP; omega
    have hF0 : okE d (.mk k f o v m z ps) = okEs (d + 1) ps := by rw [okE, decide_eq_true hd64, decide_eq_true hn2, Bool.true_and, Bool.and_true]
    rw [hF0]
    refine loopT (fun r t st => ∃ (i : Nat) (H : List (Nat × Ob)) (n : Nat), r = ps.length - i ∧ i ≤ ps.length ∧ okEs (d + 1) ps = okEs (d + 1) (ps.drop i) ∧ tget t 1 = .int .i64 d ∧ tget t 2 = .ptr 0 0 ∧ tget t 6 = .int .i64 i ∧ st = ⟨H, n⟩ ∧ hget H 0 = some (.cells [.int .i64 k, .int .i64 f, .int .i64 o, .int .u64 v, .int .u64 m, .sl (tipB z) (E.cs ps)]) ∧ 0 < n) (n := ps.length) ?_ ?_
    · refine ⟨0, _, _, by omega, by omega, rfl, ?_, ?_, ?_, rfl, rfl, by omega⟩
      · simp only [↓evP, ↓tgP, ↓reduceIte, Nat.reduceEqDiff, reduceCtorEq, List.map_cons, List.map_nil, List.nil_append, List.append_nil, List.toList_toArray, c1]
      · simp only [↓evP, ↓tgP, ↓reduceIte, Nat.reduceEqDiff, reduceCtorEq, List.map_cons, List.map_nil, List.nil_append, List.append_nil, List.toList_toArray, c2]
      · simp only [↓evP, ↓tgP, ↓reduceIte, Nat.reduceEqDiff, reduceCtorEq, List.map_cons, List.map_nil, List.nil_append, List.append_nil, List.toList_toArray, c1]; rfl
    rintro r t st ⟨i, H, n, rfl, hi, hF, c1, c2, c6, rfl, h0, hn⟩
    rcases Nat.lt_or_ge i ps.length with hlt | hge
    · obtain ⟨qk, qf, qo, qv, qm, qz, qs, hq, hqc, hqm⟩ := part_at hlt
      have hih := ih _ hqm (hpo _ hqm) (d + 1) (by omega) (by omega)
      rw [E.c] at hih
      have ex := And.intro @c1 (And.intro @c2 (And.intro @c6 (And.intro @h0 (And.intro @hcl (And.intro @hso (And.intro @hqc (And.intro @hpB (And.intro @hpE @zvE))))))))
      repeat' (first
       | (with_reducible refine isO ?_); first | refine mvA (h := ?_) | refine asA (h := ?_) | refine quA (h := ?_) | refine caA (hc := hih _) (h := ?_)
       | (with_reducible refine isG ?_); first | refine stA (h := ?_) | refine srA (h := ?_) | refine swA (h := ?_) | refine s1A (h := ?_) | refine s0A (h := ?_) | refine sgA (h1 := fun _ => ?_) (h0 := fun _ => ?_) | refine sbA (h1 := fun _ => ?_) (h0 := fun _ => ?_)
       | (with_reducible refine isP ?_); first | refine dqA (h := ?_) | refine dqAG (h := ?_) | refine dsA (h := ?_) | refine dtA (h := ?_) | refine dgA (h1 := fun _ => ?_) (h0 := fun _ => ?_)
       | (with_reducible refine isC ?_); first | refine ctA (h := ?_) | refine cfA (h := ?_) | refine cdA (h1 := fun _ => ?_) (h0 := fun _ => ?_) | refine cbA (h1 := fun _ => ?_) (h0 := fun _ => ?_)
       | (with_reducible refine isR ?_); first
         | refine Ev.drawn (by decide +kernel) (l := [0, 1, 2, 3, 4, 5, 6, 7, 8, 9, 10, 11, 12, 13, 14, 15, 16, 17, 18, 19, 20, 21, 22, 23, 24, 25, 26, 27, 28, 29, 30, 31, 32, 33, 34, 35, 36, 37, 38, 39, 40, 41, 42, 43, 44, 45, 46, 47, 48, 49, 50, 51, 52, 53]) (by decide +kernel) ?_
       | with_reducible first | refine Ev.seq ?_ | refine Ev.ops ?_ | refine NxE ?_ | refine BxN ?_ | refine BxX ?_ | refine NxX ?_ | refine NxR ?_ | refine BxR ?_ | refine Ev.block ?_ | refine Ev.skip ?_ | refine Ev.exit ?_ | refine Ev.ret ?_ | refine EvOps.nil ?_ | refine EvPlan.nil ?_
       | (with_reducible refine BxO ?_ ?_; · decide)
       )
      · rename_i hb
        rw [Bool.not_eq_true'] at hb
        refine lfA (rl := [.tmp 4]) rfl (hv := by
      simp only [packV, strip, stripAgg, stripCell, List.map_cons, List.map_nil]
      rw [hF, okEs_drop _ hq, hb]; rfl) (hp := rfl)
      · rename_i hb
        rw [Bool.not_eq_false'] at hb
        refine ⟨ps.length - (i + 1), by omega, rfl, i + 1, _, _, rfl, by omega, by rw [hF, okEs_drop _ hq, hb, Bool.true_and], ?_, ?_, ?_, rfl, h0, hn⟩
        · simp only [↓evP, ↓tgP, ↓reduceIte, Nat.reduceEqDiff, reduceCtorEq, List.map_cons, List.map_nil, List.nil_append, List.append_nil, List.toList_toArray, c1]
        · simp only [↓evP, ↓tgP, ↓reduceIte, Nat.reduceEqDiff, reduceCtorEq, List.map_cons, List.map_nil, List.nil_append, List.append_nil, List.toList_toArray, c2]
        · simp only [↓evP, ↓tgP, ↓reduceIte, Nat.reduceEqDiff, reduceCtorEq, List.map_cons, List.map_nil, List.nil_append, List.append_nil, List.toList_toArray, c6]; rfl
    · obtain rfl : i = ps.length := by omega
      rw [List.drop_length, okEs] at hF
      have ex := And.intro @c1 (And.intro @c2 (And.intro @c6 (And.intro @h0 (And.intro @hcl (And.intro @hso (And.intro @hpB @hpE))))))
      repeat' (first
       | (with_reducible refine isO ?_); first | refine mvA (h := ?_) | refine asA (h := ?_) | refine quA (h := ?_)
       | (with_reducible refine isG ?_); first | refine stA (h := ?_) | refine srA (h := ?_) | refine swA (h := ?_) | refine s1A (h := ?_) | refine s0A (h := ?_) | refine sgA (h1 := fun _ => ?_) (h0 := fun _ => ?_) | refine sbA (h1 := fun _ => ?_) (h0 := fun _ => ?_)
       | (with_reducible refine isP ?_); first | refine dqA (h := ?_) | refine dqAG (h := ?_) | refine dsA (h := ?_) | refine dtA (h := ?_) | refine dgA (h1 := fun _ => ?_) (h0 := fun _ => ?_)
       | (with_reducible refine isC ?_); first | refine ctA (h := ?_) | refine cfA (h := ?_) | refine cdA (h1 := fun _ => ?_) (h0 := fun _ => ?_) | refine cbA (h1 := fun _ => ?_) (h0 := fun _ => ?_)
       | (with_reducible refine isR ?_); first
         | refine Ev.drawn (by decide +kernel) (l := [0, 1, 2, 3, 4, 5, 6, 7, 8, 9, 10, 11, 12, 13, 14, 15, 16, 17, 18, 19, 20, 21, 22, 23, 24, 25, 26, 27, 28, 29, 30, 31, 32, 33, 34, 35, 36, 37, 38, 39, 40, 41, 42, 43, 44, 45, 46, 47, 48, 49, 50, 51, 52, 53]) (by decide +kernel) ?_
       | with_reducible first | refine Ev.seq ?_ | refine Ev.ops ?_ | refine NxE ?_ | refine BxN ?_ | refine BxX ?_ | refine NxX ?_ | refine NxR ?_ | refine BxR ?_ | refine Ev.block ?_ | refine Ev.skip ?_ | refine Ev.exit ?_ | refine Ev.ret ?_ | refine EvOps.nil ?_ | refine EvPlan.nil ?_
       | (with_reducible refine BxO ?_ ?_; · decide)
       )
      all_goals refine lfA (rl := [.tmp 4]) rfl (hv := by
            simp only [packV, strip, stripAgg, stripCell, List.map_cons, List.map_nil]
            rw [hF]) (hp := rfl)
end Go.Proofs.YtklcmgodhpediaaGreatDoor
