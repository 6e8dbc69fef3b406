/- The reference's reading of IPv4 addresses, by the program. -/
import Derived.Test.YtomkkdlfoellaaaDoorTxtV10
set_option linter.unusedSimpArgs false
set_option linter.unusedVariables false
set_option linter.unusedSectionVars false
set_option maxRecDepth 100000
namespace Go.Proofs.YtomkkdlfoellaaaDoor
open Go Go.Vm Go.Proofs

set_option maxHeartbeats 8000000 in
theorem refAddrS (sx : List UInt8) (hs : sx.length ≤ 1050000) (st : St) : FnS cx 7 [.str sx] st (okV .u32 (addrR sx)) st := by
  rw [← refA_eq]
  generalize hR : refA sx 0 0 0 0 = R
  refine goP Tryd.func7 rfl rfl rfl rfl ?_ ?_
  · rfl
  intro t ht
  have a0 : tget t 0 = .str sx := ht 0 _ rfl
  clear ht
  have ex := @a0
  repeat' (first
   | (with_reducible refine isO ?_); first
     | refine mvA (h := ?_)
     | refine asA (h := ?_)
     | refine quA (h := ?_)
   | (with_reducible refine isG ?_); first
     | refine stA (h := ?_)
     | refine srA (h := ?_)
     | refine swA (h := ?_)
     | refine s1A (h := ?_)
     | refine s0A (h := ?_)
     | refine sgA (h1 := fun _ => ?_) (h0 := fun _ => ?_)
     | refine sbA (h1 := fun _ => ?_) (h0 := fun _ => ?_)
   | (with_reducible refine isC ?_); first
     | refine ctA (h := ?_)
     | refine cfA (h := ?_)
     | refine cdA (h1 := fun _ => ?_) (h0 := fun _ => ?_)
     | refine cbA (h1 := fun _ => ?_) (h0 := fun _ => ?_)
   | with_reducible refine Ev.seq ?_
   | with_reducible refine Ev.ops ?_
   | with_reducible refine NxE ?_
   | with_reducible refine BxN ?_
   | with_reducible refine BxX ?_
   | with_reducible refine NxX ?_
   | with_reducible refine NxR ?_
   | with_reducible refine BxR ?_
   | with_reducible refine NxG ?_
   | with_reducible refine BxG ?_
   | with_reducible refine GxR ?_
   | with_reducible refine GxN ?_
   | with_reducible refine GxX ?_
   | with_reducible refine Ev.goto ?_
   | with_reducible refine Ev.block ?_
   | with_reducible refine Ev.skip ?_
   | with_reducible refine Ev.exit ?_
   | with_reducible refine Ev.ret ?_
   | with_reducible refine Ev.label ?_
   | with_reducible refine EvOps.nil ?_
   | with_reducible refine EvPlan.nil ?_
   | (with_reducible refine BxO ?_ ?_; · decide)
   )
  refine loopT (fun r t st => ∃ (i x parts n size : Nat), r = sx.length + 1 - i ∧ i ≤ sx.length + 1 ∧ ((parts = 0 ∧ x = 0) ∨ (parts = 1 ∧ x < 256) ∨ (parts = 2 ∧ x < 65536) ∨ (parts = 3 ∧ x < 16777216) ∨ (parts = 4 ∧ x < 4294967296 ∧ size = 0)) ∧ n < 256 ∧ size ≤ 3 ∧ (size = 0 → n = 0) ∧ ((i ≤ sx.length ∧ R = refA (sx.drop i) x parts n size) ∨ (i = sx.length + 1 ∧ R = if parts = 4 then some x else none)) ∧
      tget t 0 = .str sx ∧ tget t 4 = .int .u32 x ∧ tget t 5 = .int .i64 parts ∧ tget t 6 = .int .i64 n ∧ tget t 7 = .int .i64 size ∧ tget t 8 = .int .i64 i) (n := sx.length + 1) ?_ ?_
  · refine ⟨0, 0, 0, 0, 0, by omega, by omega, by omega, by omega, by omega, by omega, .inl ⟨by omega, by rw [← hR, List.drop_zero]⟩, ?_, ?_, ?_, ?_, ?_, ?_⟩
    all_goals (simp only [↓evP, ↓tgP, ↓reduceIte, Nat.reduceEqDiff, reduceCtorEq, List.map_cons, List.map_nil, List.nil_append, List.append_nil, List.toList_toArray, a0]; try rfl)
  rintro r t st ⟨i, x, parts, n, size, rfl, hi, hx, hn, hz, hzn, he, c0, c4, c5, c6, c7, c8⟩
  rcases he with ⟨hil, he⟩ | ⟨hil, he⟩
  · by_cases hie : i = sx.length
    · have hdr : sx.drop i = [] := List.drop_of_length_le (by omega)
      by_cases h0 : size = 0
      · skip
        have ex := And.intro @c0 (And.intro @c4 (And.intro @c5 (And.intro @c6 (And.intro @c7 (And.intro @c8 (And.intro @strAt @cv53))))))
        repeat' (first
         | (with_reducible refine isO ?_); first
           | refine mvA (h := ?_)
           | refine asA (h := ?_)
           | refine quA (h := ?_)
         | (with_reducible refine isG ?_); first
           | refine stA (h := ?_)
           | refine srA (h := ?_)
           | refine swA (h := ?_)
           | refine s1A (h := ?_)
           | refine s0A (h := ?_)
           | refine sgA (h1 := fun _ => ?_) (h0 := fun _ => ?_)
           | refine sbA (h1 := fun _ => ?_) (h0 := fun _ => ?_)
         | (with_reducible refine isC ?_); first
           | refine ctA (h := ?_)
           | refine cfA (h := ?_)
           | refine cdA (h1 := fun _ => ?_) (h0 := fun _ => ?_)
           | refine cbA (h1 := fun _ => ?_) (h0 := fun _ => ?_)
         | with_reducible refine Ev.seq ?_
         | with_reducible refine Ev.ops ?_
         | with_reducible refine NxE ?_
         | with_reducible refine BxN ?_
         | with_reducible refine BxX ?_
         | with_reducible refine NxX ?_
         | with_reducible refine NxR ?_
         | with_reducible refine BxR ?_
         | with_reducible refine NxG ?_
         | with_reducible refine BxG ?_
         | with_reducible refine GxR ?_
         | with_reducible refine GxN ?_
         | with_reducible refine GxX ?_
         | with_reducible refine Ev.goto ?_
         | with_reducible refine Ev.block ?_
         | with_reducible refine Ev.skip ?_
         | with_reducible refine Ev.exit ?_
         | with_reducible refine Ev.ret ?_
         | with_reducible refine Ev.label ?_
         | with_reducible refine EvOps.nil ?_
         | with_reducible refine EvPlan.nil ?_
         | (with_reducible refine BxO ?_ ?_; · decide)
         )
        all_goals first
          | (exfalso; omega)
          | refine lfA (rl := [.tmp 2, .tmp 3]) rfl (hv := by
      simp only [packV, strip, stripAgg, stripCell, List.map_cons, List.map_nil]
      (rw [he, hdr, refA, if_pos h0]; first | done | rfl)) (hp := (pure_okV _ _))
      · have hx' : x < 16777216 ∧ parts ≤ 3 := by omega
        have ex := And.intro @c0 (And.intro @c4 (And.intro @c5 (And.intro @c6 (And.intro @c7 (And.intro @c8 (And.intro @strAt @cv53))))))
        repeat' (first
         | (with_reducible refine isO ?_); first
           | refine mvA (h := ?_)
           | refine asA (h := ?_)
           | refine quA (h := ?_)
         | (with_reducible refine isG ?_); first
           | refine stA (h := ?_)
           | refine srA (h := ?_)
           | refine swA (h := ?_)
           | refine s1A (h := ?_)
           | refine s0A (h := ?_)
           | refine sgA (h1 := fun _ => ?_) (h0 := fun _ => ?_)
           | refine sbA (h1 := fun _ => ?_) (h0 := fun _ => ?_)
         | (with_reducible refine isC ?_); first
           | refine ctA (h := ?_)
           | refine cfA (h := ?_)
           | refine cdA (h1 := fun _ => ?_) (h0 := fun _ => ?_)
           | refine cbA (h1 := fun _ => ?_) (h0 := fun _ => ?_)
         | with_reducible refine Ev.seq ?_
         | with_reducible refine Ev.ops ?_
         | with_reducible refine NxE ?_
         | with_reducible refine BxN ?_
         | with_reducible refine BxX ?_
         | with_reducible refine NxX ?_
         | with_reducible refine NxR ?_
         | with_reducible refine BxR ?_
         | with_reducible refine NxG ?_
         | with_reducible refine BxG ?_
         | with_reducible refine GxR ?_
         | with_reducible refine GxN ?_
         | with_reducible refine GxX ?_
         | with_reducible refine Ev.goto ?_
         | with_reducible refine Ev.block ?_
         | with_reducible refine Ev.skip ?_
         | with_reducible refine Ev.exit ?_
         | with_reducible refine Ev.ret ?_
         | with_reducible refine Ev.label ?_
         | with_reducible refine EvOps.nil ?_
         | with_reducible refine EvPlan.nil ?_
         | (with_reducible refine BxO ?_ ?_; · decide)
         )
        all_goals first
          | (exfalso; omega)
          | (refine ⟨sx.length + 1 - (i + 1), by omega, rfl, i + 1, x * 256 + n, parts + 1, 0, 0, rfl, by omega, by omega, by omega, by omega, by omega, .inr ⟨by omega, by rw [he, hdr, refA, if_neg h0]⟩, ?_, ?_, ?_, ?_, ?_, ?_⟩ <;> simp only [↓evP, ↓tgP, ↓reduceIte, Nat.reduceEqDiff, reduceCtorEq, List.map_cons, List.map_nil, List.nil_append, List.append_nil, List.toList_toArray, c0, c4, c5, c6, c7, c8] <;> first | done | rfl | (congr 1; omega))
    · have hc := (sx.getD i 0).toNat_lt
      have hlt : i < sx.length := by omega
      have hdr := dropC hlt
      by_cases h46 : sx.getD i 0 = 46
      · have h46' : (sx.getD i 0).toNat = 46 := by rw [h46]; rfl
        by_cases h0 : size = 0
        · skip
          have ex := And.intro @c0 (And.intro @c4 (And.intro @c5 (And.intro @c6 (And.intro @c7 (And.intro @c8 (And.intro @strAt @cv53))))))
          repeat' (first
           | (with_reducible refine isO ?_); first
             | refine mvA (h := ?_)
             | refine asA (h := ?_)
             | refine quA (h := ?_)
           | (with_reducible refine isG ?_); first
             | refine stA (h := ?_)
             | refine srA (h := ?_)
             | refine swA (h := ?_)
             | refine s1A (h := ?_)
             | refine s0A (h := ?_)
             | refine sgA (h1 := fun _ => ?_) (h0 := fun _ => ?_)
             | refine sbA (h1 := fun _ => ?_) (h0 := fun _ => ?_)
           | (with_reducible refine isC ?_); first
             | refine ctA (h := ?_)
             | refine cfA (h := ?_)
             | refine cdA (h1 := fun _ => ?_) (h0 := fun _ => ?_)
             | refine cbA (h1 := fun _ => ?_) (h0 := fun _ => ?_)
           | with_reducible refine Ev.seq ?_
           | with_reducible refine Ev.ops ?_
           | with_reducible refine NxE ?_
           | with_reducible refine BxN ?_
           | with_reducible refine BxX ?_
           | with_reducible refine NxX ?_
           | with_reducible refine NxR ?_
           | with_reducible refine BxR ?_
           | with_reducible refine NxG ?_
           | with_reducible refine BxG ?_
           | with_reducible refine GxR ?_
           | with_reducible refine GxN ?_
           | with_reducible refine GxX ?_
           | with_reducible refine Ev.goto ?_
           | with_reducible refine Ev.block ?_
           | with_reducible refine Ev.skip ?_
           | with_reducible refine Ev.exit ?_
           | with_reducible refine Ev.ret ?_
           | with_reducible refine Ev.label ?_
           | with_reducible refine EvOps.nil ?_
           | with_reducible refine EvPlan.nil ?_
           | (with_reducible refine BxO ?_ ?_; · decide)
           )
          all_goals first
            | (exfalso; omega)
            | refine lfA (rl := [.tmp 2, .tmp 3]) rfl (hv := by
      simp only [packV, strip, stripAgg, stripCell, List.map_cons, List.map_nil]
      (rw [he, hdr, refA, if_pos h46, if_pos h0]; first | done | rfl)) (hp := (pure_okV _ _))
        · have hx' : x < 16777216 ∧ parts ≤ 3 := by omega
          have ex := And.intro @c0 (And.intro @c4 (And.intro @c5 (And.intro @c6 (And.intro @c7 (And.intro @c8 (And.intro @strAt @cv53))))))
          repeat' (first
           | (with_reducible refine isO ?_); first
             | refine mvA (h := ?_)
             | refine asA (h := ?_)
             | refine quA (h := ?_)
           | (with_reducible refine isG ?_); first
             | refine stA (h := ?_)
             | refine srA (h := ?_)
             | refine swA (h := ?_)
             | refine s1A (h := ?_)
             | refine s0A (h := ?_)
             | refine sgA (h1 := fun _ => ?_) (h0 := fun _ => ?_)
             | refine sbA (h1 := fun _ => ?_) (h0 := fun _ => ?_)
           | (with_reducible refine isC ?_); first
             | refine ctA (h := ?_)
             | refine cfA (h := ?_)
             | refine cdA (h1 := fun _ => ?_) (h0 := fun _ => ?_)
             | refine cbA (h1 := fun _ => ?_) (h0 := fun _ => ?_)
           | with_reducible refine Ev.seq ?_
           | with_reducible refine Ev.ops ?_
           | with_reducible refine NxE ?_
           | with_reducible refine BxN ?_
           | with_reducible refine BxX ?_
           | with_reducible refine NxX ?_
           | with_reducible refine NxR ?_
           | with_reducible refine BxR ?_
           | with_reducible refine NxG ?_
           | with_reducible refine BxG ?_
           | with_reducible refine GxR ?_
           | with_reducible refine GxN ?_
           | with_reducible refine GxX ?_
           | with_reducible refine Ev.goto ?_
           | with_reducible refine Ev.block ?_
           | with_reducible refine Ev.skip ?_
           | with_reducible refine Ev.exit ?_
           | with_reducible refine Ev.ret ?_
           | with_reducible refine Ev.label ?_
           | with_reducible refine EvOps.nil ?_
           | with_reducible refine EvPlan.nil ?_
           | (with_reducible refine BxO ?_ ?_; · decide)
           )
          all_goals first
            | (exfalso; omega)
            | (refine ⟨sx.length + 1 - (i + 1), by omega, rfl, i + 1, x * 256 + n, parts + 1, 0, 0, rfl, by omega, by omega, by omega, by omega, by omega, .inl ⟨by omega, by rw [he, hdr, refA, if_pos h46, if_neg h0]⟩, ?_, ?_, ?_, ?_, ?_, ?_⟩ <;> simp only [↓evP, ↓tgP, ↓reduceIte, Nat.reduceEqDiff, reduceCtorEq, List.map_cons, List.map_nil, List.nil_append, List.append_nil, List.toList_toArray, c0, c4, c5, c6, c7, c8] <;> first | done | rfl | (congr 1; omega))
      · have h46' : (sx.getD i 0).toNat ≠ 46 := fun e => h46 (UInt8.toNat_inj.1 e)
        by_cases hk : (sx.getD i 0).toNat < 48 ∨ 57 < (sx.getD i 0).toNat ∨ (0 < size ∧ n = 0) ∨ size = 3
        · skip
          have ex := And.intro @c0 (And.intro @c4 (And.intro @c5 (And.intro @c6 (And.intro @c7 (And.intro @c8 (And.intro @strAt @cv53))))))
          repeat' (first
           | (with_reducible refine isO ?_); first
             | refine mvA (h := ?_)
             | refine asA (h := ?_)
             | refine quA (h := ?_)
           | (with_reducible refine isG ?_); first
             | refine stA (h := ?_)
             | refine srA (h := ?_)
             | refine swA (h := ?_)
             | refine s1A (h := ?_)
             | refine s0A (h := ?_)
             | refine sgA (h1 := fun _ => ?_) (h0 := fun _ => ?_)
             | refine sbA (h1 := fun _ => ?_) (h0 := fun _ => ?_)
           | (with_reducible refine isC ?_); first
             | refine ctA (h := ?_)
             | refine cfA (h := ?_)
             | refine cdA (h1 := fun _ => ?_) (h0 := fun _ => ?_)
             | refine cbA (h1 := fun _ => ?_) (h0 := fun _ => ?_)
           | with_reducible refine Ev.seq ?_
           | with_reducible refine Ev.ops ?_
           | with_reducible refine NxE ?_
           | with_reducible refine BxN ?_
           | with_reducible refine BxX ?_
           | with_reducible refine NxX ?_
           | with_reducible refine NxR ?_
           | with_reducible refine BxR ?_
           | with_reducible refine NxG ?_
           | with_reducible refine BxG ?_
           | with_reducible refine GxR ?_
           | with_reducible refine GxN ?_
           | with_reducible refine GxX ?_
           | with_reducible refine Ev.goto ?_
           | with_reducible refine Ev.block ?_
           | with_reducible refine Ev.skip ?_
           | with_reducible refine Ev.exit ?_
           | with_reducible refine Ev.ret ?_
           | with_reducible refine Ev.label ?_
           | with_reducible refine EvOps.nil ?_
           | with_reducible refine EvPlan.nil ?_
           | (with_reducible refine BxO ?_ ?_; · decide)
           )
          all_goals first
            | (exfalso; omega)
            | refine lfA (rl := [.tmp 2, .tmp 3]) rfl (hv := by
      simp only [packV, strip, stripAgg, stripCell, List.map_cons, List.map_nil]
      (rw [he, hdr, refA, if_neg h46, if_pos hk]; first | done | rfl)) (hp := (pure_okV _ _))
        · by_cases hq : 255 < 10 * n + ((sx.getD i 0).toNat - 48) ∨ 3 < parts
          · skip
            have ex := And.intro @c0 (And.intro @c4 (And.intro @c5 (And.intro @c6 (And.intro @c7 (And.intro @c8 (And.intro @strAt @cv53))))))
            repeat' (first
             | (with_reducible refine isO ?_); first
               | refine mvA (h := ?_)
               | refine asA (h := ?_)
               | refine quA (h := ?_)
             | (with_reducible refine isG ?_); first
               | refine stA (h := ?_)
               | refine srA (h := ?_)
               | refine swA (h := ?_)
               | refine s1A (h := ?_)
               | refine s0A (h := ?_)
               | refine sgA (h1 := fun _ => ?_) (h0 := fun _ => ?_)
               | refine sbA (h1 := fun _ => ?_) (h0 := fun _ => ?_)
             | (with_reducible refine isC ?_); first
               | refine ctA (h := ?_)
               | refine cfA (h := ?_)
               | refine cdA (h1 := fun _ => ?_) (h0 := fun _ => ?_)
               | refine cbA (h1 := fun _ => ?_) (h0 := fun _ => ?_)
             | with_reducible refine Ev.seq ?_
             | with_reducible refine Ev.ops ?_
             | with_reducible refine NxE ?_
             | with_reducible refine BxN ?_
             | with_reducible refine BxX ?_
             | with_reducible refine NxX ?_
             | with_reducible refine NxR ?_
             | with_reducible refine BxR ?_
             | with_reducible refine NxG ?_
             | with_reducible refine BxG ?_
             | with_reducible refine GxR ?_
             | with_reducible refine GxN ?_
             | with_reducible refine GxX ?_
             | with_reducible refine Ev.goto ?_
             | with_reducible refine Ev.block ?_
             | with_reducible refine Ev.skip ?_
             | with_reducible refine Ev.exit ?_
             | with_reducible refine Ev.ret ?_
             | with_reducible refine Ev.label ?_
             | with_reducible refine EvOps.nil ?_
             | with_reducible refine EvPlan.nil ?_
             | (with_reducible refine BxO ?_ ?_; · decide)
             )
            all_goals first
              | (exfalso; omega)
              | refine lfA (rl := [.tmp 2, .tmp 3]) rfl (hv := by
      simp only [packV, strip, stripAgg, stripCell, List.map_cons, List.map_nil]
      (rw [he, hdr, refA, if_neg h46, if_neg hk, if_pos hq]; first | done | rfl)) (hp := (pure_okV _ _))
          · skip
            have ex := And.intro @c0 (And.intro @c4 (And.intro @c5 (And.intro @c6 (And.intro @c7 (And.intro @c8 (And.intro @strAt @cv53))))))
            repeat' (first
             | (with_reducible refine isO ?_); first
               | refine mvA (h := ?_)
               | refine asA (h := ?_)
               | refine quA (h := ?_)
             | (with_reducible refine isG ?_); first
               | refine stA (h := ?_)
               | refine srA (h := ?_)
               | refine swA (h := ?_)
               | refine s1A (h := ?_)
               | refine s0A (h := ?_)
               | refine sgA (h1 := fun _ => ?_) (h0 := fun _ => ?_)
               | refine sbA (h1 := fun _ => ?_) (h0 := fun _ => ?_)
             | (with_reducible refine isC ?_); first
               | refine ctA (h := ?_)
               | refine cfA (h := ?_)
               | refine cdA (h1 := fun _ => ?_) (h0 := fun _ => ?_)
               | refine cbA (h1 := fun _ => ?_) (h0 := fun _ => ?_)
             | with_reducible refine Ev.seq ?_
             | with_reducible refine Ev.ops ?_
             | with_reducible refine NxE ?_
             | with_reducible refine BxN ?_
             | with_reducible refine BxX ?_
             | with_reducible refine NxX ?_
             | with_reducible refine NxR ?_
             | with_reducible refine BxR ?_
             | with_reducible refine NxG ?_
             | with_reducible refine BxG ?_
             | with_reducible refine GxR ?_
             | with_reducible refine GxN ?_
             | with_reducible refine GxX ?_
             | with_reducible refine Ev.goto ?_
             | with_reducible refine Ev.block ?_
             | with_reducible refine Ev.skip ?_
             | with_reducible refine Ev.exit ?_
             | with_reducible refine Ev.ret ?_
             | with_reducible refine Ev.label ?_
             | with_reducible refine EvOps.nil ?_
             | with_reducible refine EvPlan.nil ?_
             | (with_reducible refine BxO ?_ ?_; · decide)
             )
            all_goals first
              | (exfalso; omega)
              | (refine ⟨sx.length + 1 - (i + 1), by omega, rfl, i + 1, x, parts, 10 * n + ((sx.getD i 0).toNat - 48), size + 1, rfl, by omega, by omega, by omega, by omega, by omega, .inl ⟨by omega, by rw [he, hdr, refA, if_neg h46, if_neg hk, if_neg hq]⟩, ?_, ?_, ?_, ?_, ?_, ?_⟩ <;> simp only [↓evP, ↓tgP, ↓reduceIte, Nat.reduceEqDiff, reduceCtorEq, List.map_cons, List.map_nil, List.nil_append, List.append_nil, List.toList_toArray, c0, c4, c5, c6, c7, c8] <;> first | done | rfl | (congr 1; omega))
  · by_cases h4 : parts = 4
    · skip
      have ex := And.intro @c0 (And.intro @c4 (And.intro @c5 (And.intro @c6 (And.intro @c7 (And.intro @c8 (And.intro @strAt @cv53))))))
      repeat' (first
       | (with_reducible refine isO ?_); first
         | refine mvA (h := ?_)
         | refine asA (h := ?_)
         | refine quA (h := ?_)
       | (with_reducible refine isG ?_); first
         | refine stA (h := ?_)
         | refine srA (h := ?_)
         | refine swA (h := ?_)
         | refine s1A (h := ?_)
         | refine s0A (h := ?_)
         | refine sgA (h1 := fun _ => ?_) (h0 := fun _ => ?_)
         | refine sbA (h1 := fun _ => ?_) (h0 := fun _ => ?_)
       | (with_reducible refine isC ?_); first
         | refine ctA (h := ?_)
         | refine cfA (h := ?_)
         | refine cdA (h1 := fun _ => ?_) (h0 := fun _ => ?_)
         | refine cbA (h1 := fun _ => ?_) (h0 := fun _ => ?_)
       | with_reducible refine Ev.seq ?_
       | with_reducible refine Ev.ops ?_
       | with_reducible refine NxE ?_
       | with_reducible refine BxN ?_
       | with_reducible refine BxX ?_
       | with_reducible refine NxX ?_
       | with_reducible refine NxR ?_
       | with_reducible refine BxR ?_
       | with_reducible refine NxG ?_
       | with_reducible refine BxG ?_
       | with_reducible refine GxR ?_
       | with_reducible refine GxN ?_
       | with_reducible refine GxX ?_
       | with_reducible refine Ev.goto ?_
       | with_reducible refine Ev.block ?_
       | with_reducible refine Ev.skip ?_
       | with_reducible refine Ev.exit ?_
       | with_reducible refine Ev.ret ?_
       | with_reducible refine Ev.label ?_
       | with_reducible refine EvOps.nil ?_
       | with_reducible refine EvPlan.nil ?_
       | (with_reducible refine BxO ?_ ?_; · decide)
       )
      all_goals first
        | (exfalso; omega)
        | refine lfA (rl := [.tmp 2, .tmp 3]) rfl (hv := by
      simp only [packV, strip, stripAgg, stripCell, List.map_cons, List.map_nil]
      (rw [he, if_pos h4]; first | done | rfl)) (hp := (pure_okV _ _))
    · skip
      have ex := And.intro @c0 (And.intro @c4 (And.intro @c5 (And.intro @c6 (And.intro @c7 (And.intro @c8 (And.intro @strAt @cv53))))))
      repeat' (first
       | (with_reducible refine isO ?_); first
         | refine mvA (h := ?_)
         | refine asA (h := ?_)
         | refine quA (h := ?_)
       | (with_reducible refine isG ?_); first
         | refine stA (h := ?_)
         | refine srA (h := ?_)
         | refine swA (h := ?_)
         | refine s1A (h := ?_)
         | refine s0A (h := ?_)
         | refine sgA (h1 := fun _ => ?_) (h0 := fun _ => ?_)
         | refine sbA (h1 := fun _ => ?_) (h0 := fun _ => ?_)
       | (with_reducible refine isC ?_); first
         | refine ctA (h := ?_)
         | refine cfA (h := ?_)
         | refine cdA (h1 := fun _ => ?_) (h0 := fun _ => ?_)
         | refine cbA (h1 := fun _ => ?_) (h0 := fun _ => ?_)
       | with_reducible refine Ev.seq ?_
       | with_reducible refine Ev.ops ?_
       | with_reducible refine NxE ?_
       | with_reducible refine BxN ?_
       | with_reducible refine BxX ?_
       | with_reducible refine NxX ?_
       | with_reducible refine NxR ?_
       | with_reducible refine BxR ?_
       | with_reducible refine NxG ?_
       | with_reducible refine BxG ?_
       | with_reducible refine GxR ?_
       | with_reducible refine GxN ?_
       | with_reducible refine GxX ?_
       | with_reducible refine Ev.goto ?_
       | with_reducible refine Ev.block ?_
       | with_reducible refine Ev.skip ?_
       | with_reducible refine Ev.exit ?_
       | with_reducible refine Ev.ret ?_
       | with_reducible refine Ev.label ?_
       | with_reducible refine EvOps.nil ?_
       | with_reducible refine EvPlan.nil ?_
       | (with_reducible refine BxO ?_ ?_; · decide)
       )
      all_goals first
        | (exfalso; omega)
        | refine lfA (rl := [.tmp 2, .tmp 3]) rfl (hv := by
      simp only [packV, strip, stripAgg, stripCell, List.map_cons, List.map_nil]
      (rw [he, if_neg h4]; first | done | rfl)) (hp := (pure_okV _ _))

end Go.Proofs.YtomkkdlfoellaaaDoor
