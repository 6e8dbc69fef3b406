/- The reference's reading of addresses, by the program; kinds of addresses. -/
import Derived.Test.YtomkkdlfoellaaaDoorTxtV9
import Derived.Test.YtomkkdlfoellaaaDoorTxtV16
import Derived.Test.YtomkkdlfoellaaaDoorTxtP3
set_option linter.unusedSimpArgs false
set_option linter.unusedVariables false
set_option linter.unusedSectionVars false
set_option maxRecDepth 100000
namespace Go.Proofs.YtomkkdlfoellaaaDoor
open Go Go.Vm Go.Proofs

theorem digL_no {c : UInt8} (h : digL c = none) : ¬ (48 ≤ c.toNat ∧ c.toNat ≤ 57) ∧ ¬ (97 ≤ c.toNat ∧ c.toNat ≤ 102) := by
  unfold digL at h
  split at h
  · cases h
  · split at h
    · cases h
    · exact ⟨by assumption, by assumption⟩
theorem digL_yes {c : UInt8} {d : Nat} (h : digL c = some d) : (48 ≤ c.toNat ∧ c.toNat ≤ 57 ∧ d = c.toNat - 48) ∨ (97 ≤ c.toNat ∧ c.toNat ≤ 102 ∧ d = c.toNat - 97 + 10) := by
  unfold digL at h
  split at h
  · rename_i h1; exact .inl ⟨h1.1, h1.2, (Option.some.inj h).symm⟩
  · split at h
    · rename_i h1; exact .inr ⟨h1.1, h1.2, (Option.some.inj h).symm⟩
    · cases h
theorem dropC {sx : List UInt8} {i : Nat} (h : i < sx.length) : sx.drop i = sx.getD i 0 :: sx.drop (i + 1) := by rw [List.drop_eq_getElem_cons h]; simp [h]
theorem emod3 (i : Nat) : ((i : Int) % 3 = 2) = (i % 3 = 2) := by simp only [eq_iff_iff]; omega

set_option maxHeartbeats 8000000 in
theorem refMacS (sx : List UInt8) (hs : sx.length ≤ 1050000) (st : St) : FnS cx 5 [.str sx] st (okV .u64 (macR sx)) st := by
  rw [← refMac_eq]
  refine goP Tryd.func5 rfl rfl rfl rfl ?_ ?_
  · rfl
  intro t ht
  have a0 : tget t 0 = .str sx := ht 0 _ rfl
  clear ht
  by_cases h17 : sx.length = 17
  · have hR : refMac sx = refM 0 sx 0 := by unfold refMac; rw [if_pos h17]
    generalize refMac sx = R at *
    have ex := And.intro @a0 @h17
    repeat' (first
     | (with_reducible refine isO ?_); first
       | refine mvA (h := ?_)
       | refine asA (h := ?_)
       | refine quA (h := ?_)
     | (with_reducible refine isG ?_); first
       | refine stA (h := ?_)
       | refine srA (h := ?_)
       | refine swA (h := ?_)
       | refine s1A (h := ?_)
       | refine s0A (h := ?_)
       | refine sgA (h1 := fun _ => ?_) (h0 := fun _ => ?_)
       | refine sbA (h1 := fun _ => ?_) (h0 := fun _ => ?_)
     | (with_reducible refine isC ?_); first
       | refine ctA (h := ?_)
       | refine cfA (h := ?_)
       | refine cdA (h1 := fun _ => ?_) (h0 := fun _ => ?_)
       | refine cbA (h1 := fun _ => ?_) (h0 := fun _ => ?_)
     | with_reducible refine Ev.seq ?_
     | with_reducible refine Ev.ops ?_
     | with_reducible refine NxE ?_
     | with_reducible refine BxN ?_
     | with_reducible refine BxX ?_
     | with_reducible refine NxX ?_
     | with_reducible refine NxR ?_
     | with_reducible refine BxR ?_
     | with_reducible refine NxG ?_
     | with_reducible refine BxG ?_
     | with_reducible refine GxR ?_
     | with_reducible refine GxN ?_
     | with_reducible refine GxX ?_
     | with_reducible refine Ev.goto ?_
     | with_reducible refine Ev.block ?_
     | with_reducible refine Ev.skip ?_
     | with_reducible refine Ev.exit ?_
     | with_reducible refine Ev.ret ?_
     | with_reducible refine Ev.label ?_
     | with_reducible refine EvOps.nil ?_
     | with_reducible refine EvPlan.nil ?_
     | (with_reducible refine BxO ?_ ?_; · decide)
     )
    all_goals first
      | (exfalso; omega)
      | skip
    refine loopT (fun r t st => ∃ (i x e : Nat), r = 17 - i ∧ i ≤ 17 ∧ e = i - i / 3 ∧ x < 16 ^ e ∧ R = refM i (sx.drop i) x ∧ tget t 0 = .str sx ∧ tget t 4 = .int .u64 x ∧ tget t 5 = .int .i64 i) (n := 17) ?_ ?_
    · refine ⟨0, 0, 0, by omega, by omega, by omega, by omega, by rw [hR, List.drop_zero], ?_, ?_, ?_⟩
      all_goals (simp only [↓evP, ↓tgP, ↓reduceIte, Nat.reduceEqDiff, reduceCtorEq, List.map_cons, List.map_nil, List.nil_append, List.append_nil, List.toList_toArray, a0]; try rfl)
    rintro r t st ⟨i, x, e, rfl, hi, hee, hx, he, c0, c4, c5⟩
    have hc := (sx.getD i 0).toNat_lt
    by_cases hi17 : i < 17
    · by_cases h3 : i % 3 = 2
      · by_cases h58 : sx.getD i 0 = 58
        · have h58' : (sx.getD i 0).toNat = 58 := by rw [h58]; rfl
          have ex := And.intro @c0 (And.intro @c4 (And.intro @c5 @strAt))
          repeat' (first
           | (with_reducible refine isO ?_); first
             | refine mvA (h := ?_)
             | refine asA (h := ?_)
             | refine quA (h := ?_)
           | (with_reducible refine isG ?_); first
             | refine stA (h := ?_)
             | refine srA (h := ?_)
             | refine swA (h := ?_)
             | refine s1A (h := ?_)
             | refine s0A (h := ?_)
             | refine sgA (h1 := fun _ => ?_) (h0 := fun _ => ?_)
             | refine sbA (h1 := fun _ => ?_) (h0 := fun _ => ?_)
           | (with_reducible refine isC ?_); first
             | refine ctA (h := ?_)
             | refine cfA (h := ?_)
             | refine cdA (h1 := fun _ => ?_) (h0 := fun _ => ?_)
             | refine cbA (h1 := fun _ => ?_) (h0 := fun _ => ?_)
           | with_reducible refine Ev.seq ?_
           | with_reducible refine Ev.ops ?_
           | with_reducible refine NxE ?_
           | with_reducible refine BxN ?_
           | with_reducible refine BxX ?_
           | with_reducible refine NxX ?_
           | with_reducible refine NxR ?_
           | with_reducible refine BxR ?_
           | with_reducible refine NxG ?_
           | with_reducible refine BxG ?_
           | with_reducible refine GxR ?_
           | with_reducible refine GxN ?_
           | with_reducible refine GxX ?_
           | with_reducible refine Ev.goto ?_
           | with_reducible refine Ev.block ?_
           | with_reducible refine Ev.skip ?_
           | with_reducible refine Ev.exit ?_
           | with_reducible refine Ev.ret ?_
           | with_reducible refine Ev.label ?_
           | with_reducible refine EvOps.nil ?_
           | with_reducible refine EvPlan.nil ?_
           | (with_reducible refine BxO ?_ ?_; · decide)
           )
          all_goals first
            | (exfalso; omega)
            | (refine ⟨17 - (i + 1), by omega, rfl, i + 1, x, i + 1 - (i + 1) / 3, rfl, by omega, rfl, ?_, ?_, ?_, ?_, ?_⟩
               · rw [show i + 1 - (i + 1) / 3 = e by omega]; exact hx
               · rw [he, dropC (by omega), h58, refM_col h3]
               all_goals simp only [↓evP, ↓tgP, ↓reduceIte, Nat.reduceEqDiff, reduceCtorEq, List.map_cons, List.map_nil, List.nil_append, List.append_nil, List.toList_toArray, c0, c4, c5]
               all_goals first | rfl | (congr 1; omega))
        · have h58' : (sx.getD i 0).toNat ≠ 58 := fun e => h58 (UInt8.toNat_inj.1 e)
          have ex := And.intro @c0 (And.intro @c4 (And.intro @c5 @strAt))
          repeat' (first
           | (with_reducible refine isO ?_); first
             | refine mvA (h := ?_)
             | refine asA (h := ?_)
             | refine quA (h := ?_)
           | (with_reducible refine isG ?_); first
             | refine stA (h := ?_)
             | refine srA (h := ?_)
             | refine swA (h := ?_)
             | refine s1A (h := ?_)
             | refine s0A (h := ?_)
             | refine sgA (h1 := fun _ => ?_) (h0 := fun _ => ?_)
             | refine sbA (h1 := fun _ => ?_) (h0 := fun _ => ?_)
           | (with_reducible refine isC ?_); first
             | refine ctA (h := ?_)
             | refine cfA (h := ?_)
             | refine cdA (h1 := fun _ => ?_) (h0 := fun _ => ?_)
             | refine cbA (h1 := fun _ => ?_) (h0 := fun _ => ?_)
           | with_reducible refine Ev.seq ?_
           | with_reducible refine Ev.ops ?_
           | with_reducible refine NxE ?_
           | with_reducible refine BxN ?_
           | with_reducible refine BxX ?_
           | with_reducible refine NxX ?_
           | with_reducible refine NxR ?_
           | with_reducible refine BxR ?_
           | with_reducible refine NxG ?_
           | with_reducible refine BxG ?_
           | with_reducible refine GxR ?_
           | with_reducible refine GxN ?_
           | with_reducible refine GxX ?_
           | with_reducible refine Ev.goto ?_
           | with_reducible refine Ev.block ?_
           | with_reducible refine Ev.skip ?_
           | with_reducible refine Ev.exit ?_
           | with_reducible refine Ev.ret ?_
           | with_reducible refine Ev.label ?_
           | with_reducible refine EvOps.nil ?_
           | with_reducible refine EvPlan.nil ?_
           | (with_reducible refine BxO ?_ ?_; · decide)
           )
          all_goals first
            | (exfalso; omega)
            | refine lfA (rl := [.tmp 2, .tmp 3]) rfl (hv := by
      simp only [packV, strip, stripAgg, stripCell, List.map_cons, List.map_nil]
      (rw [he, dropC (by omega), refM, if_pos h3, if_neg h58]; first | done | rfl)) (hp := (pure_okV _ _))
      · have hE : 16 ^ e ≤ 17592186044416 := Nat.le_trans (Nat.pow_le_pow_right (by omega) (by omega : e ≤ 11)) (by decide)
        cases hd : digL (sx.getD i 0) with
        | none =>
          obtain ⟨n1, n2⟩ := digL_no hd
          have ex := And.intro @c0 (And.intro @c4 (And.intro @c5 @strAt))
          repeat' (first
           | (with_reducible refine isO ?_); first
             | refine mvA (h := ?_)
             | refine asA (h := ?_)
             | refine quA (h := ?_)
           | (with_reducible refine isG ?_); first
             | refine stA (h := ?_)
             | refine srA (h := ?_)
             | refine swA (h := ?_)
             | refine s1A (h := ?_)
             | refine s0A (h := ?_)
             | refine sgA (h1 := fun _ => ?_) (h0 := fun _ => ?_)
             | refine sbA (h1 := fun _ => ?_) (h0 := fun _ => ?_)
           | (with_reducible refine isC ?_); first
             | refine ctA (h := ?_)
             | refine cfA (h := ?_)
             | refine cdA (h1 := fun _ => ?_) (h0 := fun _ => ?_)
             | refine cbA (h1 := fun _ => ?_) (h0 := fun _ => ?_)
           | with_reducible refine Ev.seq ?_
           | with_reducible refine Ev.ops ?_
           | with_reducible refine NxE ?_
           | with_reducible refine BxN ?_
           | with_reducible refine BxX ?_
           | with_reducible refine NxX ?_
           | with_reducible refine NxR ?_
           | with_reducible refine BxR ?_
           | with_reducible refine NxG ?_
           | with_reducible refine BxG ?_
           | with_reducible refine GxR ?_
           | with_reducible refine GxN ?_
           | with_reducible refine GxX ?_
           | with_reducible refine Ev.goto ?_
           | with_reducible refine Ev.block ?_
           | with_reducible refine Ev.skip ?_
           | with_reducible refine Ev.exit ?_
           | with_reducible refine Ev.ret ?_
           | with_reducible refine Ev.label ?_
           | with_reducible refine EvOps.nil ?_
           | with_reducible refine EvPlan.nil ?_
           | (with_reducible refine BxO ?_ ?_; · decide)
           )
          all_goals first
            | (exfalso; omega)
            | refine lfA (rl := [.tmp 2, .tmp 3]) rfl (hv := by
      simp only [packV, strip, stripAgg, stripCell, List.map_cons, List.map_nil]
      (rw [he, dropC (by omega), refM, if_neg h3, hd]; first | done | rfl)) (hp := (pure_okV _ _))
        | some d =>
          have hy := digL_yes hd
          have ex := And.intro @c0 (And.intro @c4 (And.intro @c5 @strAt))
          repeat' (first
           | (with_reducible refine isO ?_); first
             | refine mvA (h := ?_)
             | refine asA (h := ?_)
             | refine quA (h := ?_)
           | (with_reducible refine isG ?_); first
             | refine stA (h := ?_)
             | refine srA (h := ?_)
             | refine swA (h := ?_)
             | refine s1A (h := ?_)
             | refine s0A (h := ?_)
             | refine sgA (h1 := fun _ => ?_) (h0 := fun _ => ?_)
             | refine sbA (h1 := fun _ => ?_) (h0 := fun _ => ?_)
           | (with_reducible refine isC ?_); first
             | refine ctA (h := ?_)
             | refine cfA (h := ?_)
             | refine cdA (h1 := fun _ => ?_) (h0 := fun _ => ?_)
             | refine cbA (h1 := fun _ => ?_) (h0 := fun _ => ?_)
           | with_reducible refine Ev.seq ?_
           | with_reducible refine Ev.ops ?_
           | with_reducible refine NxE ?_
           | with_reducible refine BxN ?_
           | with_reducible refine BxX ?_
           | with_reducible refine NxX ?_
           | with_reducible refine NxR ?_
           | with_reducible refine BxR ?_
           | with_reducible refine NxG ?_
           | with_reducible refine BxG ?_
           | with_reducible refine GxR ?_
           | with_reducible refine GxN ?_
           | with_reducible refine GxX ?_
           | with_reducible refine Ev.goto ?_
           | with_reducible refine Ev.block ?_
           | with_reducible refine Ev.skip ?_
           | with_reducible refine Ev.exit ?_
           | with_reducible refine Ev.ret ?_
           | with_reducible refine Ev.label ?_
           | with_reducible refine EvOps.nil ?_
           | with_reducible refine EvPlan.nil ?_
           | (with_reducible refine BxO ?_ ?_; · decide)
           )
          all_goals first
            | (exfalso; omega)
            | (refine ⟨17 - (i + 1), by omega, rfl, i + 1, x * 16 + d, i + 1 - (i + 1) / 3, rfl, by omega, rfl, ?_, ?_, ?_, ?_, ?_⟩
               · rw [show i + 1 - (i + 1) / 3 = e + 1 by omega, Nat.pow_succ]; omega
               · rw [he, dropC (by omega), refM, if_neg h3, hd]
               all_goals simp only [↓evP, ↓tgP, ↓reduceIte, Nat.reduceEqDiff, reduceCtorEq, List.map_cons, List.map_nil, List.nil_append, List.append_nil, List.toList_toArray, c0, c4, c5]
               all_goals first | rfl | (congr 1; omega))
    · skip
      have ex := And.intro @c0 (And.intro @c4 (And.intro @c5 @strAt))
      repeat' (first
       | (with_reducible refine isO ?_); first
         | refine mvA (h := ?_)
         | refine asA (h := ?_)
         | refine quA (h := ?_)
       | (with_reducible refine isG ?_); first
         | refine stA (h := ?_)
         | refine srA (h := ?_)
         | refine swA (h := ?_)
         | refine s1A (h := ?_)
         | refine s0A (h := ?_)
         | refine sgA (h1 := fun _ => ?_) (h0 := fun _ => ?_)
         | refine sbA (h1 := fun _ => ?_) (h0 := fun _ => ?_)
       | (with_reducible refine isC ?_); first
         | refine ctA (h := ?_)
         | refine cfA (h := ?_)
         | refine cdA (h1 := fun _ => ?_) (h0 := fun _ => ?_)
         | refine cbA (h1 := fun _ => ?_) (h0 := fun _ => ?_)
       | with_reducible refine Ev.seq ?_
       | with_reducible refine Ev.ops ?_
       | with_reducible refine NxE ?_
       | with_reducible refine BxN ?_
       | with_reducible refine BxX ?_
       | with_reducible refine NxX ?_
       | with_reducible refine NxR ?_
       | with_reducible refine BxR ?_
       | with_reducible refine NxG ?_
       | with_reducible refine BxG ?_
       | with_reducible refine GxR ?_
       | with_reducible refine GxN ?_
       | with_reducible refine GxX ?_
       | with_reducible refine Ev.goto ?_
       | with_reducible refine Ev.block ?_
       | with_reducible refine Ev.skip ?_
       | with_reducible refine Ev.exit ?_
       | with_reducible refine Ev.ret ?_
       | with_reducible refine Ev.label ?_
       | with_reducible refine EvOps.nil ?_
       | with_reducible refine EvPlan.nil ?_
       | (with_reducible refine BxO ?_ ?_; · decide)
       )
      all_goals first
        | (exfalso; omega)
        | refine lfA (rl := [.tmp 2, .tmp 3]) rfl (hv := by
      simp only [packV, strip, stripAgg, stripCell, List.map_cons, List.map_nil]
      (rw [he, List.drop_of_length_le (by omega), refM]; first | done | rfl)) (hp := (pure_okV _ _))
  · have hR : refMac sx = none := by unfold refMac; rw [if_neg h17]
    have ex := @a0
    repeat' (first
     | (with_reducible refine isO ?_); first
       | refine mvA (h := ?_)
       | refine asA (h := ?_)
       | refine quA (h := ?_)
     | (with_reducible refine isG ?_); first
       | refine stA (h := ?_)
       | refine srA (h := ?_)
       | refine swA (h := ?_)
       | refine s1A (h := ?_)
       | refine s0A (h := ?_)
       | refine sgA (h1 := fun _ => ?_) (h0 := fun _ => ?_)
       | refine sbA (h1 := fun _ => ?_) (h0 := fun _ => ?_)
     | (with_reducible refine isC ?_); first
       | refine ctA (h := ?_)
       | refine cfA (h := ?_)
       | refine cdA (h1 := fun _ => ?_) (h0 := fun _ => ?_)
       | refine cbA (h1 := fun _ => ?_) (h0 := fun _ => ?_)
     | with_reducible refine Ev.seq ?_
     | with_reducible refine Ev.ops ?_
     | with_reducible refine NxE ?_
     | with_reducible refine BxN ?_
     | with_reducible refine BxX ?_
     | with_reducible refine NxX ?_
     | with_reducible refine NxR ?_
     | with_reducible refine BxR ?_
     | with_reducible refine NxG ?_
     | with_reducible refine BxG ?_
     | with_reducible refine GxR ?_
     | with_reducible refine GxN ?_
     | with_reducible refine GxX ?_
     | with_reducible refine Ev.goto ?_
     | with_reducible refine Ev.block ?_
     | with_reducible refine Ev.skip ?_
     | with_reducible refine Ev.exit ?_
     | with_reducible refine Ev.ret ?_
     | with_reducible refine Ev.label ?_
     | with_reducible refine EvOps.nil ?_
     | with_reducible refine EvPlan.nil ?_
     | (with_reducible refine BxO ?_ ?_; · decide)
     )
    all_goals first
      | (exfalso; omega)
      | refine lfA (rl := [.tmp 2, .tmp 3]) rfl (hv := by
      simp only [packV, strip, stripAgg, stripCell, List.map_cons, List.map_nil]
      (rw [hR]; first | done | rfl)) (hp := (pure_okV _ _))

end Go.Proofs.YtomkkdlfoellaaaDoor
