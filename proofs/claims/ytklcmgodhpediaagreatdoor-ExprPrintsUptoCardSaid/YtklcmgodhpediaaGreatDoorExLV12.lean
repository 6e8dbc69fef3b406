/- The reader: quoted texts and operators. -/
import Derived.Test.YtklcmgodhpediaaGreatDoorExLV10
set_option linter.unusedSimpArgs false
set_option linter.unusedVariables false
set_option linter.unusedSectionVars false
set_option maxRecDepth 100000
namespace Go.Proofs.YtklcmgodhpediaaGreatDoor.L
open Go Go.Vm Go.Proofs Go.Proofs.YtklcmgodhpediaaGreatDoor

theorem takeM (s : List UInt8) : s.take s.length = s := List.take_length
theorem fieldsX {st : St} : FnS cx 82 [.str [38, 38, 32, 124, 124, 32, 61, 61, 32, 33, 61, 32, 60, 61, 32, 62, 61, 32, 46, 46, 32, 60, 32, 62, 32, 33, 32, 40, 32, 41, 32, 123, 32, 125, 32, 44, 32, 47]] st (.sl .full (opsL.map .str)) st := by
  refine knownX ?_
  have h : Lib.fields [38, 38, 32, 124, 124, 32, 61, 61, 32, 33, 61, 32, 60, 61, 32, 62, 61, 32, 46, 46, 32, 60, 32, 62, 32, 33, 32, 40, 32, 41, 32, 123, 32, 125, 32, 44, 32, 47] = opsL := by decide +kernel
  simp only [known]
  rw [if_pos (by decide), h]
section
variable (sx : List UInt8) (hs : sx.length ≤ 4096) (a k : Nat) (ha : a < sx.length) (l : List Tok) (hr : RdOk k l) (hl : l.length < 1000000)
include hs ha hr hl
set_option maxHeartbeats 8000000 in
theorem quoM : FnS cx 55 [.ptr 0 0] ⟨rd sx a k l, k + 1⟩ (.bool (quoT (sx.drop a)).isSome) (match quoT (sx.drop a) with | some n => ⟨rd sx ((a : Int) + ((n : Int) + 2)) (k + 1) (l ++ [⟨6, (sx.drop (a + 1)).take n, 0, a⟩]), k + 2⟩ | none => ⟨rd sx a k l, k + 1⟩) := by
  have hg := rd_get (sx := sx) (a := (a : Int)) hr
  have hd := rd_drop sx (a : Int) k l
  have hspan : ∀ {f : Nat} {p : Int → Prop} [DecidablePred p] (hp : ∀ c st, FnS cx f [.int .u8 c] st (.bool (decide (p c))) st) (i : Nat) (st' : St), i ≤ 1000000 → st' = (⟨rd sx a k l, k + 1⟩ : St) → FnS cx 45 [.ptr 0 0, .int .i64 i, .func (.func f) [] []] st' (.int .i64 (spanU p (sx.drop i))) st' := fun {f p} _ hp i st' hi e => by
    subst e
    exact spanS hp sx (by omega) (.int .i64 (a : Int)) (outR k l) (rd sx a k l) (k + 1) hg hd i hi
  have d1 : (sx.drop a).drop 1 = sx.drop (a + 1) := List.drop_drop
  have hsp : ∀ st', st' = (⟨rd sx a k l, k + 1⟩ : St) → FnS cx 45 [.ptr 0 0, .int .i64 ((a : Int) + 1), .func (.func 81) [] []] st' (.int .i64 (spanU textP (sx.drop (a + 1)))) st' := fun st' e => hspan (p := textP) (fun c st => textS c st) (a + 1) st' (by omega) e
  have hN := spanU_le (p := textP) (sx.drop (a + 1))
  rw [List.length_drop] at hN
  unfold quoT
  rw [d1, List.getElem?_drop]
  generalize spanU textP (sx.drop (a + 1)) = N at *
  have tE : ((a : Int) + 1 + (N : Int)).toNat = a + 1 + N := by omega
  have t1 : ((a : Int) + 1).toNat = a + 1 := by omega
  have eE : (sx.take (a + 1 + N)).drop (a + 1) = (sx.drop (a + 1)).take N := by rw [List.drop_take, Nat.add_sub_cancel_left]
  have hsN : ∀ h : a + 1 + N < sx.length, sx[a + 1 + N]? = some (sx.getD (a + 1 + N) 0) := fun h => strAt h
  by_cases hq : 64 < N ∨ sx[a + 1 + N]? ≠ some 34
  · rw [if_pos hq]
    have hq2 : a + 1 + N < sx.length → 64 < N ∨ ¬ ((sx.getD (a + 1 + N) 0).toNat : Int) = 34 := fun h => hq.imp id fun h2 h3 => h2 (by rw [strAt h]; exact congrArg some (UInt8.toNat_inj.1 (by show (sx.getD (a + 1 + N) 0).toNat = 34; omega)))
    refine goS Tryz.func55 rfl rfl rfl rfl ?_
    intro t ht
    have a0 : tget t 0 = .ptr 0 0 := ht 0 _ rfl
    clear ht
    have ex := And.intro @a0 (And.intro @hg (And.intro @hsN (And.intro @strAt (And.intro @tE (And.intro @eE @t1)))))
    repeat' (first
     | (with_reducible refine isO ?_); first | refine mvA (h := ?_) | refine asA (h := ?_) | refine quA (h := ?_) | refine caA (hc := hsp _ rfl) (h := ?_)
     | (with_reducible refine isG ?_); first | refine stA (h := ?_) | refine srA (h := ?_) | refine swA (h := ?_) | refine s1A (h := ?_) | refine s0A (h := ?_) | refine sgA (h1 := fun _ => ?_) (h0 := fun _ => ?_) | refine sbA (h1 := fun _ => ?_) (h0 := fun _ => ?_)
     | (with_reducible refine isP ?_); first | refine dqA (h := ?_)
     | (with_reducible refine isC ?_); first | refine ctA (h := ?_) | refine cfA (h := ?_) | refine cdA (h1 := fun _ => ?_) (h0 := fun _ => ?_) | refine cbA (h1 := fun _ => ?_) (h0 := fun _ => ?_)
     | (with_reducible refine isR ?_); first
       | refine Ev.drawn (by decide +kernel) (l := [0, 1, 2, 3, 4, 5, 6, 7, 8, 9, 10, 11, 12, 13, 14]) (by decide +kernel) ?_
     | with_reducible first | refine Ev.seq ?_ | refine Ev.ops ?_ | refine NxE ?_ | refine BxN ?_ | refine BxX ?_ | refine NxX ?_ | refine NxR ?_ | refine BxR ?_ | refine Ev.block ?_ | refine Ev.skip ?_ | refine Ev.exit ?_ | refine Ev.ret ?_ | refine EvOps.nil ?_ | refine EvPlan.nil ?_
     | (with_reducible refine BxO ?_ ?_; · decide)
     )
    all_goals first
      | (exfalso; omega)
      | refine lsA (rl := [.tmp 2]) rfl (hv := by
      simp only [leaveV, packV, strip, stripAgg, stripCell, hdrop, Nat.reduceLeDiff, List.map_cons, List.map_nil, show cx.grow 55 = false from rfl, show cx.keep 55 = true from rfl, show cx.frz 55 = false from rfl, if_false, if_true, Bool.false_eq_true]
      (first | done | rfl))
  · rw [if_neg hq]
    have hq1 : ¬ 64 < N := fun h => hq (.inl h)
    have hq2 : sx[a + 1 + N]? = some 34 := Classical.not_not.1 fun h => hq (.inr h)
    have hq3 : a + 1 + N < sx.length := (List.getElem?_eq_some_iff.1 hq2).1
    have hq4 : ((sx.getD (a + 1 + N) 0).toNat : Int) = 34 := by
      have := strAt hq3
      rw [hq2] at this
      have := Option.some.inj this
      rw [← this]; rfl
    refine goS Tryz.func55 rfl rfl rfl rfl ?_
    intro t ht
    have a0 : tget t 0 = .ptr 0 0 := ht 0 _ rfl
    clear ht
    have ex := And.intro @a0 (And.intro @hg (And.intro @hsN (And.intro @strAt (And.intro @tE (And.intro @eE @t1)))))
    repeat' (first
     | (with_reducible refine isO ?_); first | refine mvA (h := ?_) | refine asA (h := ?_) | refine quA (h := ?_) | refine caA (hc := hsp _ rfl) (h := ?_)
     | (with_reducible refine isG ?_); first | refine stA (h := ?_) | refine srA (h := ?_) | refine swA (h := ?_) | refine s1A (h := ?_) | refine s0A (h := ?_) | refine sgA (h1 := fun _ => ?_) (h0 := fun _ => ?_) | refine sbA (h1 := fun _ => ?_) (h0 := fun _ => ?_)
     | (with_reducible refine isP ?_); first | refine dqA (h := ?_) | refine dcA (i := 14) (l := []) (hc := takeR sx _ _ _ _ _ k l hr (by omega) (by omega) (by omega) (by omega)) (h := ?_)
     | (with_reducible refine isC ?_); first | refine ctA (h := ?_) | refine cfA (h := ?_) | refine cdA (h1 := fun _ => ?_) (h0 := fun _ => ?_) | refine cbA (h1 := fun _ => ?_) (h0 := fun _ => ?_)
     | (with_reducible refine isR ?_); first
       | refine Ev.drawn (by decide +kernel) (l := [0, 1, 2, 3, 4, 5, 6, 7, 8, 9, 10, 11, 12, 13, 14]) (by decide +kernel) ?_
     | with_reducible first | refine Ev.seq ?_ | refine Ev.ops ?_ | refine NxE ?_ | refine BxN ?_ | refine BxX ?_ | refine NxX ?_ | refine NxR ?_ | refine BxR ?_ | refine Ev.block ?_ | refine Ev.skip ?_ | refine Ev.exit ?_ | refine Ev.ret ?_ | refine EvOps.nil ?_ | refine EvPlan.nil ?_
     | (with_reducible refine BxO ?_ ?_; · decide)
     )
    all_goals first
      | (exfalso; omega)
      | refine lsA (rl := [.tmp 2]) rfl (hv := by
      simp only [leaveV, packV, strip, stripAgg, stripCell, hdrop, Nat.reduceLeDiff, List.map_cons, List.map_nil, show cx.grow 55 = false from rfl, show cx.keep 55 = true from rfl, show cx.frz 55 = false from rfl, if_false, if_true, Bool.false_eq_true]
      (first | done | rfl))

set_option maxHeartbeats 8000000 in
theorem opM : FnS cx 56 [.ptr 0 0] ⟨rd sx a k l, k + 1⟩ (.bool (opT (sx.drop a)).isSome) (match opT (sx.drop a) with | some o => ⟨rd sx ((a : Int) + (o.length : Int)) (k + 1) (l ++ [⟨5, o, 0, a⟩]), k + 2⟩ | none => ⟨rd sx a k l, k + 1⟩) := by
  have hg := rd_get (sx := sx) (a := (a : Int)) hr
  have hd := rd_drop sx (a : Int) k l
  have hO : ∀ o ∈ opsL, o.length ≤ 2 := by decide
  have hLb : opsL.length ≤ 100 := by decide
  unfold opT
  refine goS Tryz.func56 rfl rfl rfl rfl ?_
  intro t ht
  have a0 : tget t 0 = .ptr 0 0 := ht 0 _ rfl
  clear ht
  have ex := And.intro @a0 (And.intro @hg @lenStr)
  repeat' (first
   | (with_reducible refine isO ?_); first | refine mvA (h := ?_) | refine asA (h := ?_) | refine quA (h := ?_) | refine caA (hc := fieldsX) (h := ?_)
   | (with_reducible refine isP ?_); first | refine dqA (h := ?_)
   | (with_reducible refine isC ?_); first | refine ctA (h := ?_) | refine cfA (h := ?_) | refine cdA (h1 := fun _ => ?_) (h0 := fun _ => ?_) | refine cbA (h1 := fun _ => ?_) (h0 := fun _ => ?_)
   | (with_reducible refine isR ?_); first
     | refine Ev.drawn (by decide +kernel) (l := [0, 1, 2, 3, 4, 5, 6, 7, 8, 9, 10]) (by decide +kernel) ?_
   | with_reducible first | refine Ev.seq ?_ | refine Ev.ops ?_ | refine NxE ?_ | refine BxN ?_ | refine BxX ?_ | refine NxX ?_ | refine NxR ?_ | refine BxR ?_ | refine Ev.block ?_ | refine Ev.skip ?_ | refine Ev.exit ?_ | refine Ev.ret ?_ | refine EvOps.nil ?_ | refine EvPlan.nil ?_
   | (with_reducible refine BxO ?_ ?_; · decide)
   )
  generalize opsL = L at *
  refine loopT (fun r t st => ∃ j : Nat, r = L.length - j ∧ j ≤ L.length ∧ L.find? (fun o => o.isPrefixOf (sx.drop a)) = (L.drop j).find? (fun o => o.isPrefixOf (sx.drop a)) ∧ tget t 0 = .ptr 0 0 ∧ tget t 5 = .sl .full (L.map .str) ∧ tget t 6 = .int .i64 L.length ∧ tget t 7 = .int .i64 j ∧ st = ⟨rd sx a k l, k + 1⟩) (n := L.length) ?_ ?_
  · refine ⟨0, by omega, by omega, by rw [List.drop_zero], ?_, ?_, ?_, ?_, rfl⟩
    all_goals (simp only [↓evP, ↓tgP, ↓reduceIte, Nat.reduceEqDiff, reduceCtorEq, List.map_cons, List.map_nil, List.nil_append, List.append_nil, List.toList_toArray, a0, lenStr]; try rfl)
  rintro r t st ⟨j, rfl, hj, he, c0, c5, c6, c7, rfl⟩
  by_cases hjl : j < L.length
  · have hcons : L.drop j = L.getD j [] :: L.drop (j + 1) := by rw [List.drop_eq_getElem_cons hjl]; simp [hjl]
    have hoL : (L.getD j []).length ≤ 2 := hO _ (by rw [List.getD_eq_getElem?_getD, List.getElem?_eq_getElem hjl]; simp)
    rw [hcons, List.find?_cons] at he
    cases hp : (L.getD j []).isPrefixOf (sx.drop a) with
    | true =>
      rw [hp] at he
      rw [he]
      have ex := And.intro @c0 (And.intro @c5 (And.intro @c6 (And.intro @c7 (And.intro @hg (And.intro @takeM (And.intro @strsAt (And.intro @szStr @hp)))))))
      repeat' (first
       | (with_reducible refine isO ?_); first | refine mvA (h := ?_) | refine asA (h := ?_) | refine quA (h := ?_) | refine caA (hc := takeR sx _ _ _ _ _ k l hr (by omega) (by omega) (by omega) (by omega)) (h := ?_)
       | (with_reducible refine isP ?_); first | refine dqA (h := ?_) | refine dcA (i := 10) (l := []) (hc := hasX) (h := ?_)
       | (with_reducible refine isC ?_); first | refine ctA (h := ?_) | refine cfA (h := ?_) | refine cdA (h1 := fun _ => ?_) (h0 := fun _ => ?_) | refine cbA (h1 := fun _ => ?_) (h0 := fun _ => ?_)
       | (with_reducible refine isR ?_); first
         | refine Ev.drawn (by decide +kernel) (l := [0, 1, 2, 3, 4, 5, 6, 7, 8, 9, 10]) (by decide +kernel) ?_
       | with_reducible first | refine Ev.seq ?_ | refine Ev.ops ?_ | refine NxE ?_ | refine BxN ?_ | refine BxX ?_ | refine NxX ?_ | refine NxR ?_ | refine BxR ?_ | refine Ev.block ?_ | refine Ev.skip ?_ | refine Ev.exit ?_ | refine Ev.ret ?_ | refine EvOps.nil ?_ | refine EvPlan.nil ?_
       | (with_reducible refine BxO ?_ ?_; · decide)
       )
      all_goals first
        | (exfalso; omega)
        | refine lsA (rl := [.tmp 2]) rfl (hv := by
      simp only [leaveV, packV, strip, stripAgg, stripCell, hdrop, Nat.reduceLeDiff, List.map_cons, List.map_nil, show cx.grow 56 = false from rfl, show cx.keep 56 = true from rfl, show cx.frz 56 = false from rfl, if_false, if_true, Bool.false_eq_true]
      (first | done | rfl))
    | false =>
      rw [hp] at he
      have ex := And.intro @c0 (And.intro @c5 (And.intro @c6 (And.intro @c7 (And.intro @hg (And.intro @takeM (And.intro @strsAt (And.intro @szStr @hp)))))))
      repeat' (first
       | (with_reducible refine isO ?_); first | refine mvA (h := ?_) | refine asA (h := ?_) | refine quA (h := ?_)
       | (with_reducible refine isP ?_); first | refine dqA (h := ?_) | refine dcA (i := 10) (l := []) (hc := hasX) (h := ?_)
       | (with_reducible refine isC ?_); first | refine ctA (h := ?_) | refine cfA (h := ?_) | refine cdA (h1 := fun _ => ?_) (h0 := fun _ => ?_) | refine cbA (h1 := fun _ => ?_) (h0 := fun _ => ?_)
       | (with_reducible refine isR ?_); first
         | refine Ev.drawn (by decide +kernel) (l := [0, 1, 2, 3, 4, 5, 6, 7, 8, 9, 10]) (by decide +kernel) ?_
       | with_reducible first | refine Ev.seq ?_ | refine Ev.ops ?_ | refine NxE ?_ | refine BxN ?_ | refine BxX ?_ | refine NxX ?_ | refine NxR ?_ | refine BxR ?_ | refine Ev.block ?_ | refine Ev.skip ?_ | refine Ev.exit ?_ | refine Ev.ret ?_ | refine EvOps.nil ?_ | refine EvPlan.nil ?_
       | (with_reducible refine BxO ?_ ?_; · decide)
       )
      all_goals first
        | (exfalso; omega)
        | (refine ⟨L.length - (j + 1), by omega, rfl, j + 1, rfl, by omega, he, ?_, ?_, ?_, ?_, rfl⟩ <;> simp only [↓evP, ↓tgP, ↓reduceIte, Nat.reduceEqDiff, reduceCtorEq, List.map_cons, List.map_nil, List.nil_append, List.append_nil, List.toList_toArray, c0, c5, c6, c7] <;> first | done | rfl | (congr 1; omega))
  · have he : L.find? (fun o => o.isPrefixOf (sx.drop a)) = none := by
      have hd0 : L.drop j = [] := List.drop_of_length_le (by omega)
      rw [he, hd0]; rfl
    rw [he]
    have ex := And.intro @c0 (And.intro @c5 (And.intro @c6 (And.intro @c7 (And.intro @hg (And.intro @takeM (And.intro @strsAt @szStr))))))
    repeat' (first
     | (with_reducible refine isO ?_); first | refine mvA (h := ?_) | refine asA (h := ?_) | refine quA (h := ?_)
     | (with_reducible refine isP ?_); first | refine dqA (h := ?_)
     | (with_reducible refine isC ?_); first | refine ctA (h := ?_) | refine cfA (h := ?_) | refine cdA (h1 := fun _ => ?_) (h0 := fun _ => ?_) | refine cbA (h1 := fun _ => ?_) (h0 := fun _ => ?_)
     | (with_reducible refine isR ?_); first
       | refine Ev.drawn (by decide +kernel) (l := [0, 1, 2, 3, 4, 5, 6, 7, 8, 9, 10]) (by decide +kernel) ?_
     | with_reducible first | refine Ev.seq ?_ | refine Ev.ops ?_ | refine NxE ?_ | refine BxN ?_ | refine BxX ?_ | refine NxX ?_ | refine NxR ?_ | refine BxR ?_ | refine Ev.block ?_ | refine Ev.skip ?_ | refine Ev.exit ?_ | refine Ev.ret ?_ | refine EvOps.nil ?_ | refine EvPlan.nil ?_
     | (with_reducible refine BxO ?_ ?_; · decide)
     )
    all_goals first
      | (exfalso; omega)
      | refine lsA (rl := [.tmp 2]) rfl (hv := by
      simp only [leaveV, packV, strip, stripAgg, stripCell, hdrop, Nat.reduceLeDiff, List.map_cons, List.map_nil, show cx.grow 56 = false from rfl, show cx.keep 56 = true from rfl, show cx.frz 56 = false from rfl, if_false, if_true, Bool.false_eq_true]
      (first | done | rfl))

end
end Go.Proofs.YtklcmgodhpediaaGreatDoor.L
