/- Addresses as texts, by the reference. -/
import Derived.Test.YtomkkdlfoellaaaDoorTxtV8
import Derived.Test.YtomkkdlfoellaaaDoorTxtP2
set_option linter.unusedSimpArgs false
set_option linter.unusedVariables false
set_option linter.unusedSectionVars false
set_option maxRecDepth 100000
namespace Go.Proofs.YtomkkdlfoellaaaDoor
open Go Go.Vm Go.Proofs

theorem decD_len (u : Nat) : ∀ k, u < 10 ^ (k + 1) → (Lib.decDigits u).length ≤ k + 1 := by
  induction u using Nat.strongRecOn with
  | _ u ih =>
    intro k hk
    by_cases h : u < 10
    · rw [decD_small h]; simp
    · rw [decD_big h]
      cases k with
      | zero => omega
      | succ k =>
        have := ih (u / 10) (by omega) k (by rw [Nat.pow_succ] at hk; omega)
        simp; omega
theorem cv1 (H : List (Nat × Ob)) (tip : Tip) (z : Int) : convV cx H 45 9 (.sl tip [.int .u8 z]) = some (.str [UInt8.ofNat z.toNat]) := by
  simp only [convV, tyE, isU8, toBytes, Option.map_some, if_true]
theorem lenApp (a b : List UInt8) : (a ++ b).length = a.length + b.length := List.length_append
theorem cv33 (H : List (Nat × Ob)) (n : Int) : convV cx H 23 3 (.int .u32 n) = some (.int .i64 (IntKind.i64.wrap n)) := by simp only [convV, tyE]

set_option maxHeartbeats 4000000 in
theorem digitsS (z : Int) (h0 : 0 ≤ z) (h1 : z < 1000000) (st : St) : FnS cx 21 [.int .i64 z] st (.str (Lib.decDigits z.toNat)) st := by
  refine goP Tryd.func21 rfl rfl rfl rfl ?_ ?_
  · rfl
  intro t ht
  have a0 : tget t 0 = .int .i64 z := ht 0 _ rfl
  clear ht
  have ex := @a0
  repeat' (first
   | (with_reducible refine isO ?_); first
     | refine mvA (h := ?_)
     | refine asA (h := ?_)
     | refine quA (h := ?_)
   | (with_reducible refine isC ?_); first
     | refine ctA (h := ?_)
     | refine cfA (h := ?_)
     | refine cdA (h1 := fun _ => ?_) (h0 := fun _ => ?_)
     | refine cbA (h1 := fun _ => ?_) (h0 := fun _ => ?_)
   | with_reducible refine Ev.seq ?_
   | with_reducible refine Ev.ops ?_
   | with_reducible refine NxE ?_
   | with_reducible refine BxN ?_
   | with_reducible refine BxX ?_
   | with_reducible refine NxX ?_
   | with_reducible refine NxR ?_
   | with_reducible refine BxR ?_
   | with_reducible refine NxG ?_
   | with_reducible refine BxG ?_
   | with_reducible refine GxR ?_
   | with_reducible refine GxN ?_
   | with_reducible refine GxX ?_
   | with_reducible refine Ev.goto ?_
   | with_reducible refine Ev.block ?_
   | with_reducible refine Ev.skip ?_
   | with_reducible refine Ev.exit ?_
   | with_reducible refine Ev.ret ?_
   | with_reducible refine Ev.label ?_
   | with_reducible refine EvOps.nil ?_
   | with_reducible refine EvPlan.nil ?_
   | (with_reducible refine BxO ?_ ?_; · decide)
   )
  refine loopT (fun r t st => ∃ (y : Nat) (w : List UInt8), r = y ∧ y ≤ z.toNat ∧ Lib.decDigits z.toNat = Lib.decDigits y ++ w ∧ tget t 0 = .int .i64 y ∧ tget t 3 = .str w) (n := z.toNat) ?_ ?_
  · refine ⟨z.toNat, [], rfl, Nat.le_refl _, by simp, ?_, ?_⟩
    · simp only [↓evP, ↓tgP, ↓reduceIte, Nat.reduceEqDiff, reduceCtorEq, List.map_cons, List.map_nil, List.nil_append, List.append_nil, List.toList_toArray, a0]
      congr 1; omega
    · simp only [↓evP, ↓tgP, ↓reduceIte, Nat.reduceEqDiff, reduceCtorEq, List.map_cons, List.map_nil, List.nil_append, List.append_nil, List.toList_toArray, a0]; try rfl
  rintro r t st ⟨y, w, rfl, hy, he, c0, c3⟩
  have hw : w.length ≤ 20 := by
    have h2 := decD_len z.toNat 5 (by simp only [Nat.reduceAdd, Nat.reducePow]; omega)
    rw [he, List.length_append] at h2
    omega
  have ex := And.intro @c0 (And.intro @c3 (And.intro @bs1 @cv1))
  repeat' (first
   | (with_reducible refine isO ?_); first
     | refine mvA (h := ?_)
     | refine asA (h := ?_)
     | refine quA (h := ?_)
   | (with_reducible refine isC ?_); first
     | refine ctA (h := ?_)
     | refine cfA (h := ?_)
     | refine cdA (h1 := fun _ => ?_) (h0 := fun _ => ?_)
     | refine cbA (h1 := fun _ => ?_) (h0 := fun _ => ?_)
   | with_reducible refine Ev.seq ?_
   | with_reducible refine Ev.ops ?_
   | with_reducible refine NxE ?_
   | with_reducible refine BxN ?_
   | with_reducible refine BxX ?_
   | with_reducible refine NxX ?_
   | with_reducible refine NxR ?_
   | with_reducible refine BxR ?_
   | with_reducible refine NxG ?_
   | with_reducible refine BxG ?_
   | with_reducible refine GxR ?_
   | with_reducible refine GxN ?_
   | with_reducible refine GxX ?_
   | with_reducible refine Ev.goto ?_
   | with_reducible refine Ev.block ?_
   | with_reducible refine Ev.skip ?_
   | with_reducible refine Ev.exit ?_
   | with_reducible refine Ev.ret ?_
   | with_reducible refine Ev.label ?_
   | with_reducible refine EvOps.nil ?_
   | with_reducible refine EvPlan.nil ?_
   | (with_reducible refine BxO ?_ ?_; · decide)
   )
  all_goals first
    | (have hb : ¬ r < 10 := by omega
       refine ⟨r / 10, by omega, rfl, r / 10, UInt8.ofNat (48 + r % 10) :: w, rfl, by omega, by rw [he, decD_big hb]; simp, ?_, ?_⟩
       · simp only [↓evP, ↓tgP, ↓reduceIte, Nat.reduceEqDiff, reduceCtorEq, List.map_cons, List.map_nil, List.nil_append, List.append_nil, List.toList_toArray, c0, c3]; first | done | rfl | (congr 1; omega)
       · simp only [↓evP, ↓tgP, ↓reduceIte, Nat.reduceEqDiff, reduceCtorEq, List.map_cons, List.map_nil, List.nil_append, List.append_nil, List.toList_toArray, c0, c3]
         rw [show ((48 : Int) + (r : Int) % 10).toNat = 48 + r % 10 by omega])
    | refine lfA (rl := [.tmp 2]) rfl (hv := by
      simp only [packV, strip, stripAgg, stripCell, List.map_cons, List.map_nil]
      (rw [he, decD_small (by omega), show ((48 : Int) + (r : Int)).toNat = 48 + r by omega]; rfl)) (hp := rfl)

set_option maxHeartbeats 4000000 in
theorem addrTextR (x : Nat) (hx : x < 4294967296) (st : St) : FnS cx 14 [.int .u32 x] st (.str (addrText x)) st := by
  have h0 : (Lib.decDigits ((x : Int) / 16777216).toNat).length ≤ 20 := decD_len _ 19 (Nat.lt_of_lt_of_le (by omega : ((x : Int) / 16777216).toNat < 4294967296) (by decide))
  have h1 : (Lib.decDigits ((x : Int) / 65536 % 256).toNat).length ≤ 20 := decD_len _ 19 (Nat.lt_of_lt_of_le (by omega : ((x : Int) / 65536 % 256).toNat < 4294967296) (by decide))
  have h2 : (Lib.decDigits ((x : Int) / 256 % 256).toNat).length ≤ 20 := decD_len _ 19 (Nat.lt_of_lt_of_le (by omega : ((x : Int) / 256 % 256).toNat < 4294967296) (by decide))
  have h3 : (Lib.decDigits ((x : Int) % 256).toNat).length ≤ 20 := decD_len _ 19 (Nat.lt_of_lt_of_le (by omega : ((x : Int) % 256).toNat < 4294967296) (by decide))
  refine goP Tryd.func14 rfl rfl rfl rfl ?_ ?_
  · rfl
  intro t ht
  have a0 : tget t 0 = .int .u32 x := ht 0 _ rfl
  clear ht
  have ex := And.intro @a0 (And.intro @cv33 @lenApp)
  repeat' (first
   | (with_reducible refine isO ?_); first
     | refine mvA (h := ?_)
     | refine asA (h := ?_)
     | refine quA (h := ?_)
     | refine caA (hc := digitsS _ (by omega) (by omega) _) (h := ?_)
   | (with_reducible refine isC ?_); first
     | refine ctA (h := ?_)
     | refine cfA (h := ?_)
     | refine cdA (h1 := fun _ => ?_) (h0 := fun _ => ?_)
     | refine cbA (h1 := fun _ => ?_) (h0 := fun _ => ?_)
   | with_reducible refine Ev.seq ?_
   | with_reducible refine Ev.ops ?_
   | with_reducible refine NxE ?_
   | with_reducible refine BxN ?_
   | with_reducible refine BxX ?_
   | with_reducible refine NxX ?_
   | with_reducible refine NxR ?_
   | with_reducible refine BxR ?_
   | with_reducible refine NxG ?_
   | with_reducible refine BxG ?_
   | with_reducible refine GxR ?_
   | with_reducible refine GxN ?_
   | with_reducible refine GxX ?_
   | with_reducible refine Ev.goto ?_
   | with_reducible refine Ev.block ?_
   | with_reducible refine Ev.skip ?_
   | with_reducible refine Ev.exit ?_
   | with_reducible refine Ev.ret ?_
   | with_reducible refine Ev.label ?_
   | with_reducible refine EvOps.nil ?_
   | with_reducible refine EvPlan.nil ?_
   | (with_reducible refine BxO ?_ ?_; · decide)
   )
  all_goals refine lfA (rl := [.tmp 2]) rfl (hv := by
      simp only [packV, strip, stripAgg, stripCell, List.map_cons, List.map_nil]
      (rw [addrText_eq, show ((x : Int) / 16777216).toNat = x / 256 ^ 3 % 256 by omega, show ((x : Int) / 65536 % 256).toNat = x / 256 ^ 2 % 256 by omega, show ((x : Int) / 256 % 256).toNat = x / 256 % 256 by omega, show ((x : Int) % 256).toNat = x % 256 by omega]; simp)) (hp := rfl)
/-- As far as byte j. -/
def macS' (x : Nat) : Nat → List UInt8
  | 0 => []
  | j + 1 => macS' x j ++ [hexD (x / 256 ^ (5 - j) % 256 / 16), hexD (x / 256 ^ (5 - j) % 256 % 16)] ++ (if j < 5 then [58] else [])
theorem macS'_all (x : Nat) : macS' x 6 = macText x := rfl
theorem macS'_len (x : Nat) : ∀ j, (macS' x j).length ≤ 3 * j
  | 0 => Nat.le_refl _
  | j + 1 => by
    have := macS'_len x j
    unfold macS'
    split <;> simp <;> omega
set_option maxHeartbeats 4000000 in
theorem macTextR (x : Nat) (hx : x < 18446744073709551616) (st : St) : FnS cx 13 [.int .u64 x] st (.str (macText x)) st := by
  refine goP Tryd.func13 rfl rfl rfl rfl ?_ ?_
  · rfl
  intro t ht
  have a0 : tget t 0 = .int .u64 x := ht 0 _ rfl
  clear ht
  have ex := @a0
  repeat' (first
   | (with_reducible refine isO ?_); first
     | refine mvA (h := ?_)
     | refine asA (h := ?_)
     | refine quA (h := ?_)
   | (with_reducible refine isP ?_); first
     | refine dqA (h := ?_)
     | refine dlA (i := 10) (l := []) (h := ?_)
   | (with_reducible refine isC ?_); first
     | refine ctA (h := ?_)
     | refine cfA (h := ?_)
     | refine cdA (h1 := fun _ => ?_) (h0 := fun _ => ?_)
     | refine cbA (h1 := fun _ => ?_) (h0 := fun _ => ?_)
   | (with_reducible refine isR ?_); first
     | refine Ev.drawn (by decide +kernel) (l := [0, 1, 2, 3, 4, 5, 6, 7, 8, 9, 10]) (by decide +kernel) ?_
   | with_reducible refine Ev.seq ?_
   | with_reducible refine Ev.ops ?_
   | with_reducible refine NxE ?_
   | with_reducible refine BxN ?_
   | with_reducible refine BxX ?_
   | with_reducible refine NxX ?_
   | with_reducible refine NxR ?_
   | with_reducible refine BxR ?_
   | with_reducible refine NxG ?_
   | with_reducible refine BxG ?_
   | with_reducible refine GxR ?_
   | with_reducible refine GxN ?_
   | with_reducible refine GxX ?_
   | with_reducible refine Ev.goto ?_
   | with_reducible refine Ev.block ?_
   | with_reducible refine Ev.skip ?_
   | with_reducible refine Ev.exit ?_
   | with_reducible refine Ev.ret ?_
   | with_reducible refine Ev.label ?_
   | with_reducible refine EvOps.nil ?_
   | with_reducible refine EvPlan.nil ?_
   | (with_reducible refine BxO ?_ ?_; · decide)
   )
  refine loopT (fun r t st => r ≤ 6 ∧ tget t 0 = .int .u64 x ∧ tget t 3 = .str (macS' x (6 - r)) ∧ tget t 4 = .int .i64 ((r : Int) - 1)) (n := 6) ?_ ?_
  · refine ⟨Nat.le_refl _, ?_, ?_, ?_⟩
    all_goals (simp only [↓evP, ↓tgP, ↓reduceIte, Nat.reduceEqDiff, reduceCtorEq, List.map_cons, List.map_nil, List.nil_append, List.append_nil, List.toList_toArray, a0]; try rfl)
  rintro r t st ⟨hr, c0, c3, c4⟩
  by_cases hr0 : r = 0
  · subst hr0
    have ex := And.intro @c0 (And.intro @c3 @c4)
    repeat' (first
     | (with_reducible refine isO ?_); first
       | refine mvA (h := ?_)
       | refine asA (h := ?_)
       | refine quA (h := ?_)
     | (with_reducible refine isP ?_); first
       | refine dqA (h := ?_)
       | refine dlA (i := 10) (l := []) (h := ?_)
     | (with_reducible refine isC ?_); first
       | refine ctA (h := ?_)
       | refine cfA (h := ?_)
       | refine cdA (h1 := fun _ => ?_) (h0 := fun _ => ?_)
       | refine cbA (h1 := fun _ => ?_) (h0 := fun _ => ?_)
     | (with_reducible refine isR ?_); first
       | refine Ev.drawn (by decide +kernel) (l := [0, 1, 2, 3, 4, 5, 6, 7, 8, 9, 10]) (by decide +kernel) ?_
     | with_reducible refine Ev.seq ?_
     | with_reducible refine Ev.ops ?_
     | with_reducible refine NxE ?_
     | with_reducible refine BxN ?_
     | with_reducible refine BxX ?_
     | with_reducible refine NxX ?_
     | with_reducible refine NxR ?_
     | with_reducible refine BxR ?_
     | with_reducible refine NxG ?_
     | with_reducible refine BxG ?_
     | with_reducible refine GxR ?_
     | with_reducible refine GxN ?_
     | with_reducible refine GxX ?_
     | with_reducible refine Ev.goto ?_
     | with_reducible refine Ev.block ?_
     | with_reducible refine Ev.skip ?_
     | with_reducible refine Ev.exit ?_
     | with_reducible refine Ev.ret ?_
     | with_reducible refine Ev.label ?_
     | with_reducible refine EvOps.nil ?_
     | with_reducible refine EvPlan.nil ?_
     | (with_reducible refine BxO ?_ ?_; · decide)
     )
    all_goals first
      | (exfalso; omega)
      | refine lfA (rl := [.tmp 2]) rfl (hv := by
      simp only [packV, strip, stripAgg, stripCell, List.map_cons, List.map_nil]
      (rw [macS'_all])) (hp := rfl)
  have hl := macS'_len x (6 - r)
  have e1 : ((8 : Int) * ((r : Int) - 1)).toNat = 8 * (r - 1) := by omega
  have hb : (x : Int) / 2 ^ (8 * (r - 1)) % 256 = ((x / 256 ^ (r - 1) % 256 : Nat) : Int) := by
    have : (2 : Int) ^ (8 * (r - 1)) = ((256 ^ (r - 1) : Nat) : Int) := by rw [Int.pow_mul]; norm_cast
    rw [this]; norm_cast
  have hb2 : x / 256 ^ (r - 1) % 256 < 256 := Nat.mod_lt _ (by omega)
  have hstep : macS' x (6 - (r - 1)) = macS' x (6 - r) ++ [hexD (x / 256 ^ (r - 1) % 256 / 16), hexD (x / 256 ^ (r - 1) % 256 % 16)] ++ (if 1 < r then [58] else []) := by
    rw [show 6 - (r - 1) = (6 - r) + 1 by omega]
    show macS' x (6 - r) ++ _ ++ _ = _
    rw [show 5 - (6 - r) = r - 1 by omega]
    congr 2
    exact propext ⟨fun _ => by omega, fun _ => by omega⟩
  generalize x / 256 ^ (r - 1) % 256 = b at *
  have ex := And.intro @c0 (And.intro @c3 (And.intro @c4 (And.intro @cv8 (And.intro @fdiv2 (And.intro @e1 (And.intro @hb (And.intro @bs2 (And.intro @hexI (And.intro @hexN (And.intro @cvT @lenApp))))))))))
  repeat' (first
   | (with_reducible refine isO ?_); first
     | refine mvA (h := ?_)
     | refine asA (h := ?_)
     | refine quA (h := ?_)
   | (with_reducible refine isP ?_); first
     | refine dqA (h := ?_)
     | refine dlA (i := 10) (l := []) (h := ?_)
   | (with_reducible refine isC ?_); first
     | refine ctA (h := ?_)
     | refine cfA (h := ?_)
     | refine cdA (h1 := fun _ => ?_) (h0 := fun _ => ?_)
     | refine cbA (h1 := fun _ => ?_) (h0 := fun _ => ?_)
   | (with_reducible refine isR ?_); first
     | refine Ev.drawn (by decide +kernel) (l := [0, 1, 2, 3, 4, 5, 6, 7, 8, 9, 10]) (by decide +kernel) ?_
   | with_reducible refine Ev.seq ?_
   | with_reducible refine Ev.ops ?_
   | with_reducible refine NxE ?_
   | with_reducible refine BxN ?_
   | with_reducible refine BxX ?_
   | with_reducible refine NxX ?_
   | with_reducible refine NxR ?_
   | with_reducible refine BxR ?_
   | with_reducible refine NxG ?_
   | with_reducible refine BxG ?_
   | with_reducible refine GxR ?_
   | with_reducible refine GxN ?_
   | with_reducible refine GxX ?_
   | with_reducible refine Ev.goto ?_
   | with_reducible refine Ev.block ?_
   | with_reducible refine Ev.skip ?_
   | with_reducible refine Ev.exit ?_
   | with_reducible refine Ev.ret ?_
   | with_reducible refine Ev.label ?_
   | with_reducible refine EvOps.nil ?_
   | with_reducible refine EvPlan.nil ?_
   | (with_reducible refine BxO ?_ ?_; · decide)
   )
  all_goals first
    | (exfalso; omega)
    | (refine ⟨r - 1, by omega, rfl, by omega, ?_, ?_, ?_⟩
       · simp only [↓evP, ↓tgP, ↓reduceIte, Nat.reduceEqDiff, reduceCtorEq, List.map_cons, List.map_nil, List.nil_append, List.append_nil, List.toList_toArray, c0, c3, c4]
       · simp only [↓evP, ↓tgP, ↓reduceIte, Nat.reduceEqDiff, reduceCtorEq, List.map_cons, List.map_nil, List.nil_append, List.append_nil, List.toList_toArray, c0, c3, c4]
         rw [hstep]; first | rw [if_pos (by omega)] | rw [if_neg (by omega), List.append_nil]
         rw [show ((b : Int) / 16).toNat = b / 16 by omega, show ((b : Int) % 16).toNat = b % 16 by omega]
       · simp only [↓evP, ↓tgP, ↓reduceIte, Nat.reduceEqDiff, reduceCtorEq, List.map_cons, List.map_nil, List.nil_append, List.append_nil, List.toList_toArray, c0, c3, c4]; congr 1; omega)
end Go.Proofs.YtomkkdlfoellaaaDoor
