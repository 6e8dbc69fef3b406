/- Are tokens the same? -/
import Derived.Test.YtmdiieignlidhaaDoorLexV15
import Derived.Test.YtmdiieignlidhaaDoorLexP5
set_option linter.unusedSimpArgs false
set_option linter.unusedVariables false
set_option linter.unusedSectionVars false
set_option maxRecDepth 100000
namespace Go.Proofs.YtmdiieignlidhaaDoor
open Go Go.Vm Go.Proofs


theorem same_at {l m : List Tok} (h : Same l m) : ∀ i, i < l.length → (l.getD i (endTok 0)).kind = (m.getD i (endTok 0)).kind ∧ (l.getD i (endTok 0)).text = (m.getD i (endTok 0)).text ∧ (l.getD i (endTok 0)).num = (m.getD i (endTok 0)).num := by
  induction h with
  | nil => intro i hi; simp at hi
  | cons hx _ ih =>
    intro i hi
    cases i with
    | zero => exact hx
    | succ i => exact ih i (by simpa using hi)
theorem bqN (n : Nat) : (n + 1 == n) = false ∧ (n == n + 1) = false := by constructor <;> simp

set_option maxHeartbeats 8000000 in
theorem sameS (l m : List Tok) (h : Same l m) (hl : l.length ≤ 1000000) (st : St) : FnS cx 9 [.sl .none (l.map Tok.v), .sl .none (m.map Tok.v), .bool false] st (.bool true) st := by
  have hlm := h.length
  refine goP Tryd.func9 rfl rfl rfl rfl ?_ ?_
  · exact (by show (pureVs (l.map Tok.v) && (pureVs (m.map Tok.v) && true)) = true; rw [pure_toks, pure_toks]; rfl)
  intro t ht
  have a0 : tget t 0 = .sl .none (l.map Tok.v) := ht 0 _ rfl
  have a1 : tget t 1 = .sl .none (m.map Tok.v) := ht 1 _ rfl
  have a2 : tget t 2 = .bool false := ht 2 _ rfl
  clear ht
  have ex := And.intro @a0 (And.intro @a1 (And.intro @a2 (And.intro @tok_refl (And.intro @castE (And.intro @lenTok (And.intro @szTok @zv30))))))
  repeat' (first
   | (with_reducible refine isO ?_); first
     | refine mvA (h := ?_)
     | refine asA (h := ?_)
     | refine quA (h := ?_)
     | refine wnA (h := ?_)
   | (with_reducible refine isP ?_); first
     | refine dqA (h := ?_)
     | refine dnA (i := 10) (l := [7]) (h := ?_)
     | refine dnA (i := 11) (l := []) (h := ?_)
   | (with_reducible refine isC ?_); first
     | refine ctA (h := ?_)
     | refine cfA (h := ?_)
     | refine cdA (h1 := fun _ => ?_) (h0 := fun _ => ?_)
     | refine cbA (h1 := fun _ => ?_) (h0 := fun _ => ?_)
   | (with_reducible refine isR ?_); first
     | refine Ev.drawn (by decide +kernel) (l := [0, 1, 2, 3, 4, 5, 6, 7, 8, 9, 10, 11]) (by decide +kernel) ?_
   | with_reducible refine Ev.seq ?_
   | with_reducible refine Ev.ops ?_
   | with_reducible refine NxE ?_
   | with_reducible refine BxN ?_
   | with_reducible refine BxX ?_
   | with_reducible refine NxX ?_
   | with_reducible refine NxR ?_
   | with_reducible refine BxR ?_
   | with_reducible refine NxG ?_
   | with_reducible refine BxG ?_
   | with_reducible refine GxR ?_
   | with_reducible refine GxN ?_
   | with_reducible refine GxX ?_
   | with_reducible refine Ev.goto ?_
   | with_reducible refine Ev.block ?_
   | with_reducible refine Ev.skip ?_
   | with_reducible refine Ev.exit ?_
   | with_reducible refine Ev.ret ?_
   | with_reducible refine Ev.label ?_
   | with_reducible refine EvOps.nil ?_
   | with_reducible refine EvPlan.nil ?_
   | (with_reducible refine BxO ?_ ?_; · decide)
   )
  refine loopT (fun r t st => ∃ (j : Nat), r = l.length - j ∧ j ≤ l.length ∧ tget t 0 = .sl .none (l.map Tok.v) ∧ tget t 1 = .sl .none (m.map Tok.v) ∧ tget t 2 = .bool false ∧ tget t 7 = .int .i64 j) (n := l.length) ?_ ?_
  · refine ⟨0, by omega, by omega, ?_, ?_, ?_, ?_⟩
    all_goals (simp only [↓evP, ↓tgP, ↓reduceIte, Nat.reduceEqDiff, reduceCtorEq, List.map_cons, List.map_nil, List.nil_append, List.append_nil, List.toList_toArray, a0, a1, a2]; try rfl)
  rintro r t ⟨H, n⟩ ⟨j, rfl, hj, c0, c1, c2, c7⟩
  by_cases hjl : j < l.length
  · obtain ⟨k1, k2, k3⟩ := same_at h j hjl
    have hjm : j < m.length := by omega
    have t1 := tokAt hjl
    have t2 := tokAt hjm
    rw [k1, k2, k3] at t1
    have hq := And.intro (bqN n) (And.intro (beq_self_eq_true n) (beq_self_eq_true (n + 1)))
    have ex := And.intro @c0 (And.intro @c1 (And.intro @c2 (And.intro @c7 (And.intro @t1 (And.intro @t2 (And.intro @hq (And.intro @tok_refl (And.intro @castE (And.intro @lenTok (And.intro @szTok @zv30))))))))))
    repeat' (first
     | (with_reducible refine isO ?_); first
       | refine mvA (h := ?_)
       | refine asA (h := ?_)
       | refine quA (h := ?_)
       | refine wnA (h := ?_)
     | (with_reducible refine isP ?_); first
       | refine dqA (h := ?_)
       | refine dnA (i := 10) (l := [7]) (h := ?_)
       | refine dnA (i := 11) (l := []) (h := ?_)
     | (with_reducible refine isC ?_); first
       | refine ctA (h := ?_)
       | refine cfA (h := ?_)
       | refine cdA (h1 := fun _ => ?_) (h0 := fun _ => ?_)
       | refine cbA (h1 := fun _ => ?_) (h0 := fun _ => ?_)
     | (with_reducible refine isR ?_); first
       | refine Ev.drawn (by decide +kernel) (l := [0, 1, 2, 3, 4, 5, 6, 7, 8, 9, 10, 11]) (by decide +kernel) ?_
     | with_reducible refine Ev.seq ?_
     | with_reducible refine Ev.ops ?_
     | with_reducible refine NxE ?_
     | with_reducible refine BxN ?_
     | with_reducible refine BxX ?_
     | with_reducible refine NxX ?_
     | with_reducible refine NxR ?_
     | with_reducible refine BxR ?_
     | with_reducible refine NxG ?_
     | with_reducible refine BxG ?_
     | with_reducible refine GxR ?_
     | with_reducible refine GxN ?_
     | with_reducible refine GxX ?_
     | with_reducible refine Ev.goto ?_
     | with_reducible refine Ev.block ?_
     | with_reducible refine Ev.skip ?_
     | with_reducible refine Ev.exit ?_
     | with_reducible refine Ev.ret ?_
     | with_reducible refine Ev.label ?_
     | with_reducible refine EvOps.nil ?_
     | with_reducible refine EvPlan.nil ?_
     | (with_reducible refine BxO ?_ ?_; · decide)
     )
    all_goals first
      | (exfalso; omega)
      | (refine ⟨l.length - (j + 1), by omega, rfl, j + 1, rfl, by omega, ?_, ?_, ?_, ?_⟩ <;> simp only [↓evP, ↓tgP, ↓reduceIte, Nat.reduceEqDiff, reduceCtorEq, List.map_cons, List.map_nil, List.nil_append, List.append_nil, List.toList_toArray, c0, c1, c2, c7] <;> first | done | rfl)
  have ex := And.intro @c0 (And.intro @c1 (And.intro @c2 (And.intro @c7 (And.intro @tok_refl (And.intro @castE (And.intro @lenTok (And.intro @szTok @zv30)))))))
  repeat' (first
   | (with_reducible refine isO ?_); first
     | refine mvA (h := ?_)
     | refine asA (h := ?_)
     | refine quA (h := ?_)
     | refine wnA (h := ?_)
   | (with_reducible refine isP ?_); first
     | refine dqA (h := ?_)
     | refine dnA (i := 10) (l := [7]) (h := ?_)
     | refine dnA (i := 11) (l := []) (h := ?_)
   | (with_reducible refine isC ?_); first
     | refine ctA (h := ?_)
     | refine cfA (h := ?_)
     | refine cdA (h1 := fun _ => ?_) (h0 := fun _ => ?_)
     | refine cbA (h1 := fun _ => ?_) (h0 := fun _ => ?_)
   | (with_reducible refine isR ?_); first
     | refine Ev.drawn (by decide +kernel) (l := [0, 1, 2, 3, 4, 5, 6, 7, 8, 9, 10, 11]) (by decide +kernel) ?_
   | with_reducible refine Ev.seq ?_
   | with_reducible refine Ev.ops ?_
   | with_reducible refine NxE ?_
   | with_reducible refine BxN ?_
   | with_reducible refine BxX ?_
   | with_reducible refine NxX ?_
   | with_reducible refine NxR ?_
   | with_reducible refine BxR ?_
   | with_reducible refine NxG ?_
   | with_reducible refine BxG ?_
   | with_reducible refine GxR ?_
   | with_reducible refine GxN ?_
   | with_reducible refine GxX ?_
   | with_reducible refine Ev.goto ?_
   | with_reducible refine Ev.block ?_
   | with_reducible refine Ev.skip ?_
   | with_reducible refine Ev.exit ?_
   | with_reducible refine Ev.ret ?_
   | with_reducible refine Ev.label ?_
   | with_reducible refine EvOps.nil ?_
   | with_reducible refine EvPlan.nil ?_
   | (with_reducible refine BxO ?_ ?_; · decide)
   )
  all_goals first
    | (exfalso; omega)
    | refine lfA (rl := [.tmp 6]) rfl (hv := by
      simp only [packV, strip, stripAgg, stripCell, List.map_cons, List.map_nil]
      (first | done | rfl)) (hp := rfl)
end Go.Proofs.YtmdiieignlidhaaDoor
