/- Expressions without Not: the document. -/
import Derived.Test.YtklcmgodhpediaaGreatDoorExS7
set_option linter.unusedSimpArgs false
set_option linter.unusedVariables false
set_option maxRecDepth 100000
namespace Go.Proofs.YtklcmgodhpediaaGreatDoor
open Go Go.Vm Go.Proofs

theorem bd25 : (∀ a b c d e : Int, buildV cx 25 [(0, .int .i64 a), (1, .int .i64 b), (2, .int .i64 c), (3, .int .u64 d), (4, .int .u64 e)] = some (.agg [.int .i64 a, .int .i64 b, .int .i64 c, .int .u64 d, .int .u64 e, .sl .full []])) ∧
    buildSliceV cx 73 7 [(0, .int .i64 0), (1, .int .i64 2), (2, .int .i64 1), (3, .int .i64 6), (4, .int .i64 5), (5, .int .i64 4), (6, .int .i64 3)] = some (.sl .full [.int .i64 0, .int .i64 2, .int .i64 1, .int .i64 6, .int .i64 5, .int .i64 4, .int .i64 3]) := ⟨fun _ _ _ _ _ => by rfl, by rfl⟩

set_option maxHeartbeats 16000000 in
theorem denyS : ∀ e : E, e.Ok → ∀ d : Int, okE d e = true → ∀ b st, FnS cx 34 [e.c, .bool b] st (negE e b).c st := by
  refine E.ind fun k f o v m z ps ih => ?_
  intro hok d hd b st
  obtain ⟨hk, hf, ho, hv, hm, hl, hpo⟩ := hok
  obtain ⟨hd64, hnode, hparts⟩ := okE_parts hd
  have hu := unown_c (.mk k f o v m z ps)
  have hp := E.pure (.mk k f o v m z ps)
  have hcl := cs_len ps
  have hso := szOk_cs ps
  refine goP Tryz.func34 rfl rfl rfl rfl ?_ ?_
  · simp only [List.map_cons, List.map_nil, hu, unL, pureVs, pureV, hp, Bool.and_self]
  intro t ht
  have a0 : tget t 0 = E.c (.mk k f o v m z ps) := ht 0 _ (by simp only [List.map_cons, hu]; rfl)
  have a1 : tget t 1 = .bool b := ht 1 _ rfl
  clear ht
  rw [E.c] at a0
  by_cases h4 : k = 4
  · have hl1 : ps.length = 1 := by unfold nodeP at hnode; omega
    obtain ⟨qk, qf, qo, qv, qm, qz, qs, hq, hqc, hqm⟩ := part_at (i := 0) (ps := ps) (by omega)
    have hih := ih _ hqm (hpo _ hqm) (d + 1) (hparts _ hqm) (!b)
    have hfin : (negE (.mk k f o v m z ps) b).c = (negE (.mk qk qf qo qv qm qz qs) (!b)).c := by rw [negE, if_pos h4, firstN_at hq]
    rw [hfin]
    have hsy := strip_c (neg_z (.mk qk qf qo qv qm qz qs) (!b))
    have hpy := E.pure (negE (.mk qk qf qo qv qm qz qs) (!b))
    obtain ⟨y0, y1, y2, y3, y4, y5, hy⟩ := c_six (negE (.mk qk qf qo qv qm qz qs) (!b))
    rw [hy] at hih hsy hpy ⊢
    rw [E.c] at hih
    have ex := And.intro @a0 (And.intro @a1 (And.intro @hcl (And.intro @hpB (And.intro @hpE (And.intro @hso (And.intro @hqc @zvE))))))
    repeat' (first
     | (with_reducible refine isO ?_); first
       | refine mvA (h := ?_)
       | refine asA (h := ?_)
       | refine quA (h := ?_)
       | refine wnA (h := ?_)
       | refine caA (hc := hih _) (h := ?_)
     | (with_reducible refine isP ?_); first
       | refine dqA (h := ?_)
       | refine dcA (i := 8) (l := [1]) (hc := hih _) (h := ?_)
       | refine dwA (i := 10) (l := []) (h := ?_)
       | refine dnA (i := 12) (l := []) (h := ?_)
     | (with_reducible refine isC ?_); first
       | refine ctA (h := ?_)
       | refine cfA (h := ?_)
       | refine cdA (h1 := fun _ => ?_) (h0 := fun _ => ?_)
       | refine cbA (h1 := fun _ => ?_) (h0 := fun _ => ?_)
     | (with_reducible refine isR ?_); first
       | refine Ev.drawn (by decide +kernel) (l := [0, 1, 2, 3, 4, 5, 6, 7, 8, 9, 10, 11, 12]) (by decide +kernel) ?_
     | with_reducible refine Ev.seq ?_
     | with_reducible refine Ev.ops ?_
     | with_reducible refine NxE ?_
     | with_reducible refine BxN ?_
     | with_reducible refine BxX ?_
     | with_reducible refine NxX ?_
     | with_reducible refine NxR ?_
     | with_reducible refine BxR ?_
     | with_reducible refine NxG ?_
     | with_reducible refine BxG ?_
     | with_reducible refine GxR ?_
     | with_reducible refine GxN ?_
     | with_reducible refine GxX ?_
     | with_reducible refine Ev.goto ?_
     | with_reducible refine Ev.block ?_
     | with_reducible refine Ev.skip ?_
     | with_reducible refine Ev.exit ?_
     | with_reducible refine Ev.ret ?_
     | with_reducible refine Ev.label ?_
     | with_reducible refine EvOps.nil ?_
     | with_reducible refine EvPlan.nil ?_
     | (with_reducible refine BxO ?_ ?_; · decide)
     )
    all_goals refine lfA (rl := [.cell 4 25]) rfl (hv := by
      simp only [packV, strip, stripAgg, stripCell, List.map_cons, List.map_nil]
      exact hsy) (hp := hpy)
  have ex := And.intro @a0 (And.intro @a1 (And.intro @hcl (And.intro @hpB (And.intro @hpE (And.intro @hso (And.intro @zvE @bd25))))))
  repeat' (first
   | (with_reducible refine isO ?_); first
     | refine mvA (h := ?_)
     | refine asA (h := ?_)
     | refine quA (h := ?_)
     | refine wnA (h := ?_)
   | (with_reducible refine isP ?_); first
     | refine dqA (h := ?_)
     | refine dwA (i := 10) (l := []) (h := ?_)
     | refine dnA (i := 12) (l := []) (h := ?_)
   | (with_reducible refine isC ?_); first
     | refine ctA (h := ?_)
     | refine cfA (h := ?_)
     | refine cdA (h1 := fun _ => ?_) (h0 := fun _ => ?_)
     | refine cbA (h1 := fun _ => ?_) (h0 := fun _ => ?_)
   | (with_reducible refine isR ?_); first
     | refine Ev.drawn (by decide +kernel) (l := [0, 1, 2, 3, 4, 5, 6, 7, 8, 9, 10, 11, 12]) (by decide +kernel) ?_
   | with_reducible refine Ev.seq ?_
   | with_reducible refine Ev.ops ?_
   | with_reducible refine NxE ?_
   | with_reducible refine BxN ?_
   | with_reducible refine BxX ?_
   | with_reducible refine NxX ?_
   | with_reducible refine NxR ?_
   | with_reducible refine BxR ?_
   | with_reducible refine NxG ?_
   | with_reducible refine BxG ?_
   | with_reducible refine GxR ?_
   | with_reducible refine GxN ?_
   | with_reducible refine GxX ?_
   | with_reducible refine Ev.goto ?_
   | with_reducible refine Ev.block ?_
   | with_reducible refine Ev.skip ?_
   | with_reducible refine Ev.exit ?_
   | with_reducible refine Ev.ret ?_
   | with_reducible refine Ev.label ?_
   | with_reducible refine EvOps.nil ?_
   | with_reducible refine EvPlan.nil ?_
   | (with_reducible refine BxO ?_ ?_; · decide)
   )
  refine loopT (fun r t st => ∃ (i : Nat) (H : List (Nat × Ob)) (n : Nat) (T : Tip), r = ps.length - i ∧ i ≤ ps.length ∧ okTip 3 H n T ∧ tget t 1 = .bool b ∧ tget t 2 = .ptr 0 0 ∧ tget t 4 = .ptr 1 0 ∧ tget t 5 = .ptr 2 0 ∧ tget t 6 = .int .i64 i ∧ st = ⟨H, n⟩ ∧ hget H 0 = some (.cells [.int .i64 k, .int .i64 f, .int .i64 o, .int .u64 v, .int .u64 m, .sl (tipB z) (E.cs ps)]) ∧ (∃ w0 w1 w2 w3 w4 w5, hget H 1 = some (.cells [w0, w1, w2, w3, w4, w5])) ∧ hget H 2 = some (.cells [.int .i64 k, .int .i64 f, .int .i64 o, .int .u64 v, .int .u64 m, .sl T (E.cs ((ps.take i).map (negE · b)))]) ∧ 3 ≤ n) (n := ps.length) ?_ ?_
  · refine ⟨0, _, _, .full, by omega, by omega, .inl rfl, ?_, ?_, ?_, ?_, ?_, rfl, rfl, ⟨_, _, _, _, _, _, rfl⟩, rfl, ?_⟩
    · simp only [↓evP, ↓tgP, ↓reduceIte, Nat.reduceEqDiff, reduceCtorEq, List.map_cons, List.map_nil, List.nil_append, List.append_nil, List.toList_toArray, a1]
    · simp only [↓evP, ↓tgP, ↓reduceIte, Nat.reduceEqDiff, reduceCtorEq, List.map_cons, List.map_nil, List.nil_append, List.append_nil, List.toList_toArray, a0]
    · simp only [↓evP, ↓tgP, ↓reduceIte, Nat.reduceEqDiff, reduceCtorEq, List.map_cons, List.map_nil, List.nil_append, List.append_nil, List.toList_toArray, a0]
    · simp only [↓evP, ↓tgP, ↓reduceIte, Nat.reduceEqDiff, reduceCtorEq, List.map_cons, List.map_nil, List.nil_append, List.append_nil, List.toList_toArray, a0]
    · simp only [↓evP, ↓tgP, ↓reduceIte, Nat.reduceEqDiff, reduceCtorEq, List.map_cons, List.map_nil, List.nil_append, List.append_nil, List.toList_toArray, a0]; rfl
    · decide
  rintro r t st ⟨i, H, n, T, rfl, hi, hT, c1, c2, c4, c5, c6, rfl, h0, ⟨w0, w1, w2, w3, w4, w5, h1⟩, h2, hn⟩
  rcases Nat.lt_or_ge i ps.length with hlt | hge
  · obtain ⟨qk, qf, qo, qv, qm, qz, qs, hq, hqc, hqm⟩ := part_at hlt
    have hih := ih _ hqm (hpo _ hqm) (d + 1) (hparts _ hqm) b
    have hbs := bs23 (neg_z (.mk qk qf qo qv qm qz qs) b)
    generalize hy : (negE (.mk qk qf qo qv qm qz qs) b).c = y at hih hbs
    rw [E.c] at hih
    have hap : ∀ u, appendV cx _ 23 (.sl T (E.cs ((ps.take i).map (negE · b)))) (.sl u [y]) = _ := fun u => hy ▸ appT (u := u) hT (neg_z _ _) (szOk_cs _) (by rw [cs_take_len _ hi]; exact bool_mul hl hlt)
    have hd0 := (delT_get (c := 0) hT (by omega)).trans h0
    have hd1 := (delT_get (c := 1) hT (by omega)).trans h1
    have hd2 := (delT_get (c := 2) hT (by omega)).trans h2
    generalize delT T _ = H2 at hap hd0 hd1 hd2
    have ex := And.intro @c1 (And.intro @c2 (And.intro @c4 (And.intro @c5 (And.intro @c6 (And.intro @h0 (And.intro @h1 (And.intro @h2 (And.intro @hcl (And.intro @hso (And.intro @hqc (And.intro @hpB (And.intro @hpE (And.intro @zvE (And.intro @hbs (And.intro @hap (And.intro @hd0 (And.intro @hd1 @hd2)))))))))))))))))
    repeat' (first
     | (with_reducible refine isO ?_); first
       | refine mvA (h := ?_)
       | refine asA (h := ?_)
       | refine quA (h := ?_)
       | refine wnA (h := ?_)
       | refine caA (hc := hih _) (h := ?_)
     | (with_reducible refine isP ?_); first
       | refine dqA (h := ?_)
       | refine dcA (i := 8) (l := [1]) (hc := hih _) (h := ?_)
       | refine dwA (i := 10) (l := []) (h := ?_)
       | refine dnA (i := 12) (l := []) (h := ?_)
     | (with_reducible refine isC ?_); first
       | refine ctA (h := ?_)
       | refine cfA (h := ?_)
       | refine cdA (h1 := fun _ => ?_) (h0 := fun _ => ?_)
       | refine cbA (h1 := fun _ => ?_) (h0 := fun _ => ?_)
     | (with_reducible refine isR ?_); first
       | refine Ev.drawn (by decide +kernel) (l := [0, 1, 2, 3, 4, 5, 6, 7, 8, 9, 10, 11, 12]) (by decide +kernel) ?_
     | with_reducible refine Ev.seq ?_
     | with_reducible refine Ev.ops ?_
     | with_reducible refine NxE ?_
     | with_reducible refine BxN ?_
     | with_reducible refine BxX ?_
     | with_reducible refine NxX ?_
     | with_reducible refine NxR ?_
     | with_reducible refine BxR ?_
     | with_reducible refine NxG ?_
     | with_reducible refine BxG ?_
     | with_reducible refine GxR ?_
     | with_reducible refine GxN ?_
     | with_reducible refine GxX ?_
     | with_reducible refine Ev.goto ?_
     | with_reducible refine Ev.block ?_
     | with_reducible refine Ev.skip ?_
     | with_reducible refine Ev.exit ?_
     | with_reducible refine Ev.ret ?_
     | with_reducible refine Ev.label ?_
     | with_reducible refine EvOps.nil ?_
     | with_reducible refine EvPlan.nil ?_
     | (with_reducible refine BxO ?_ ?_; · decide)
     )
    refine ⟨ps.length - (i + 1), by omega, rfl, i + 1, _, _, .own n, rfl, by omega, ?_, ?_, ?_, ?_, ?_, ?_, rfl, ?_, ?_, ?_, by omega⟩
    · refine .inr ⟨n, rfl, ?_, by omega, by omega⟩
      simp (disch := omega) only [hpE]
    · simp only [↓evP, ↓tgP, ↓reduceIte, Nat.reduceEqDiff, reduceCtorEq, List.map_cons, List.map_nil, List.nil_append, List.append_nil, List.toList_toArray, c1]
    · simp only [↓evP, ↓tgP, ↓reduceIte, Nat.reduceEqDiff, reduceCtorEq, List.map_cons, List.map_nil, List.nil_append, List.append_nil, List.toList_toArray, c2]
    · simp only [↓evP, ↓tgP, ↓reduceIte, Nat.reduceEqDiff, reduceCtorEq, List.map_cons, List.map_nil, List.nil_append, List.append_nil, List.toList_toArray, c4]
    · simp only [↓evP, ↓tgP, ↓reduceIte, Nat.reduceEqDiff, reduceCtorEq, List.map_cons, List.map_nil, List.nil_append, List.append_nil, List.toList_toArray, c5]
    · simp only [↓evP, ↓tgP, ↓reduceIte, Nat.reduceEqDiff, reduceCtorEq, List.map_cons, List.map_nil, List.nil_append, List.append_nil, List.toList_toArray, c6]; rfl
    · simp (disch := omega) only [hpE, hd0]
      rw [if_neg (by omega)]
    · refine ⟨w0, w1, w2, w3, w4, w5, ?_⟩
      simp (disch := omega) only [hpE, hd1]
      rw [if_neg (by omega)]
    · simp (disch := omega) only [hpE, hd2, Option.map_some, if_true]
      rw [cs_take (negE · b) hq, hy]
  · obtain rfl : i = ps.length := by omega
    rw [List.take_length] at h2
    cases b
    · skip
      have ex := And.intro @c1 (And.intro @c2 (And.intro @c4 (And.intro @c5 (And.intro @c6 (And.intro @h0 (And.intro @h1 (And.intro @h2 (And.intro @hcl (And.intro @hso (And.intro @hpB (And.intro @hpE @zvE)))))))))))
      repeat' (first
       | (with_reducible refine isO ?_); first
         | refine mvA (h := ?_)
         | refine asA (h := ?_)
         | refine quA (h := ?_)
         | refine wnA (h := ?_)
       | (with_reducible refine isP ?_); first
         | refine dqA (h := ?_)
         | refine dwA (i := 10) (l := []) (h := ?_)
         | refine dnA (i := 12) (l := []) (h := ?_)
       | (with_reducible refine isC ?_); first
         | refine ctA (h := ?_)
         | refine cfA (h := ?_)
         | refine cdA (h1 := fun _ => ?_) (h0 := fun _ => ?_)
         | refine cbA (h1 := fun _ => ?_) (h0 := fun _ => ?_)
       | (with_reducible refine isR ?_); first
         | refine Ev.drawn (by decide +kernel) (l := [0, 1, 2, 3, 4, 5, 6, 7, 8, 9, 10, 11, 12]) (by decide +kernel) ?_
       | with_reducible refine Ev.seq ?_
       | with_reducible refine Ev.ops ?_
       | with_reducible refine NxE ?_
       | with_reducible refine BxN ?_
       | with_reducible refine BxX ?_
       | with_reducible refine NxX ?_
       | with_reducible refine NxR ?_
       | with_reducible refine BxR ?_
       | with_reducible refine NxG ?_
       | with_reducible refine BxG ?_
       | with_reducible refine GxR ?_
       | with_reducible refine GxN ?_
       | with_reducible refine GxX ?_
       | with_reducible refine Ev.goto ?_
       | with_reducible refine Ev.block ?_
       | with_reducible refine Ev.skip ?_
       | with_reducible refine Ev.exit ?_
       | with_reducible refine Ev.ret ?_
       | with_reducible refine Ev.label ?_
       | with_reducible refine EvOps.nil ?_
       | with_reducible refine EvPlan.nil ?_
       | (with_reducible refine BxO ?_ ?_; · decide)
       )
      refine lfA (rl := [.cell 4 25]) rfl (hv := by
      simp only [packV, strip, stripAgg, stripCell, List.map_cons, List.map_nil]
      rw [negE, if_neg h4, E.c, negEs_map]; rfl) (hp := (E.pure _))
    · rcases node_kinds hnode h4 with ⟨rfl, rfl⟩ | ⟨rfl, rfl⟩ | ⟨rfl, rfl⟩ | ⟨rfl, rfl⟩ | ⟨rfl, rfl | rfl | rfl | rfl | rfl | rfl⟩
      all_goals
        have ex := And.intro @c1 (And.intro @c2 (And.intro @c4 (And.intro @c5 (And.intro @c6 (And.intro @h0 (And.intro @h1 (And.intro @h2 (And.intro @hcl (And.intro @hso (And.intro @hpB (And.intro @hpE (And.intro @zvE @bd25))))))))))))
        repeat' (first
         | (with_reducible refine isO ?_); first
           | refine mvA (h := ?_)
           | refine asA (h := ?_)
           | refine quA (h := ?_)
           | refine wnA (h := ?_)
         | (with_reducible refine isP ?_); first
           | refine dqA (h := ?_)
           | refine dwA (i := 10) (l := []) (h := ?_)
           | refine dnA (i := 12) (l := []) (h := ?_)
         | (with_reducible refine isC ?_); first
           | refine ctA (h := ?_)
           | refine cfA (h := ?_)
           | refine cdA (h1 := fun _ => ?_) (h0 := fun _ => ?_)
           | refine cbA (h1 := fun _ => ?_) (h0 := fun _ => ?_)
         | (with_reducible refine isR ?_); first
           | refine Ev.drawn (by decide +kernel) (l := [0, 1, 2, 3, 4, 5, 6, 7, 8, 9, 10, 11, 12]) (by decide +kernel) ?_
         | with_reducible refine Ev.seq ?_
         | with_reducible refine Ev.ops ?_
         | with_reducible refine NxE ?_
         | with_reducible refine BxN ?_
         | with_reducible refine BxX ?_
         | with_reducible refine NxX ?_
         | with_reducible refine NxR ?_
         | with_reducible refine BxR ?_
         | with_reducible refine NxG ?_
         | with_reducible refine BxG ?_
         | with_reducible refine GxR ?_
         | with_reducible refine GxN ?_
         | with_reducible refine GxX ?_
         | with_reducible refine Ev.goto ?_
         | with_reducible refine Ev.block ?_
         | with_reducible refine Ev.skip ?_
         | with_reducible refine Ev.exit ?_
         | with_reducible refine Ev.ret ?_
         | with_reducible refine Ev.label ?_
         | with_reducible refine EvOps.nil ?_
         | with_reducible refine EvPlan.nil ?_
         | (with_reducible refine BxO ?_ ?_; · decide)
         )
      all_goals
        refine lfA (rl := [.cell 4 25]) rfl (hv := by
      simp only [packV, strip, stripAgg, stripCell, List.map_cons, List.map_nil]
      rw [negE, if_neg h4, E.c, negEs_map]; rfl) (hp := (E.pure _))
end Go.Proofs.YtklcmgodhpediaaGreatDoor
