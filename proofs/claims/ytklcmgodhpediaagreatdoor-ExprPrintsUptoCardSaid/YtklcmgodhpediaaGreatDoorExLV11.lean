/- The reader: numbers, texts, operators. -/
import Derived.Test.YtklcmgodhpediaaGreatDoorExLV10
set_option linter.unusedSimpArgs false
set_option linter.unusedVariables false
set_option linter.unusedSectionVars false
set_option maxRecDepth 100000
namespace Go.Proofs.YtklcmgodhpediaaGreatDoor.L
open Go Go.Vm Go.Proofs Go.Proofs.YtklcmgodhpediaaGreatDoor

theorem parse16_64 (sx : List UInt8) (hs : sx.length ≤ 1000000) (st : St) : FnS cx 80 [.str sx, .int .i64 16, .int .i64 64] st (puW (puE 16 18446744073709551615 sx)) st := parseS sx hs 16 64 _ (code3 _ _ _) (pu16_64 sx hs) st
theorem parse10_64 (sx : List UInt8) (hs : sx.length ≤ 1000000) (st : St) : FnS cx 80 [.str sx, .int .i64 10, .int .i64 64] st (puW (puE 10 18446744073709551615 sx)) st := parseS sx hs 10 64 _ (code3 _ _ _) (pu10_64 sx hs) st
theorem takeN (s : List UInt8) : s.take s.length = s := List.take_length
theorem okR {base mx : Nat} {s : List UInt8} (h : (puE base mx s).2 = 0) : puR base mx s = some (puE base mx s).1 := by unfold puR; rw [if_pos h]
theorem noR {base mx : Nat} {s : List UInt8} (h : ¬ (puE base mx s).2 = 0) : puR base mx s = none := by unfold puR; rw [if_neg h]
section
variable (sx : List UInt8) (hs : sx.length ≤ 4096) (a k : Nat) (ha : a < sx.length) (l : List Tok) (hr : RdOk k l) (hl : l.length < 1000000)
include hs ha hr hl
set_option maxHeartbeats 8000000 in
theorem numM : FnS cx 50 [.ptr 0 0] ⟨rd sx a k l, k + 1⟩ (.bool (numT (sx.drop a)).isSome) (match numT (sx.drop a) with | some (n, x) => ⟨rd sx ((a : Int) + n) (k + 1) (l ++ [⟨2, (sx.drop a).take n, x, a⟩]), k + 2⟩ | none => ⟨rd sx a k l, k + 1⟩) := by
  have hg := rd_get (sx := sx) (a := (a : Int)) hr
  have hd := rd_drop sx (a : Int) k l
  have hends : ∀ (i : Nat) st', i ≤ sx.length → st' = (⟨rd sx a k l, k + 1⟩ : St) → FnS cx 75 [.ptr 0 0, .int .i64 i] st' (.bool (endsU (sx.drop i))) st' := fun i st' h e => by
    subst e
    have := endsS sx (by omega) (.int .i64 (a : Int)) (outR k l) (rd sx a k l) (k + 1) hg hd i (by omega)
    rw [endsU_drop] at this
    exact this
  have hspan : ∀ {f : Nat} {p : Int → Prop} [DecidablePred p] (hp : ∀ c st, FnS cx f [.int .u8 c] st (.bool (decide (p c))) st) (i : Nat) (st' : St), i ≤ 1000000 → st' = (⟨rd sx a k l, k + 1⟩ : St) → FnS cx 45 [.ptr 0 0, .int .i64 i, .func (.func f) [] []] st' (.int .i64 (spanU p (sx.drop i))) st' := fun {f p} _ hp i st' hi e => by
    subst e
    exact spanS hp sx (by omega) (.int .i64 (a : Int)) (outR k l) (rd sx a k l) (k + 1) hg hd i hi
  have hsp10 : ∀ st', st' = (⟨rd sx a k l, k + 1⟩ : St) → FnS cx 45 [.ptr 0 0, .int .i64 a, .func (.func 49) [] []] st' (.int .i64 (spanU digP (sx.drop a))) st' := fun st' e => hspan (p := digP) (fun c st => digitS c st) a st' (by omega) e
  have hN := spanU_le (p := digP) (sx.drop a)
  rw [List.length_drop] at hN
  have tN : ((a : Int) + ((spanU digP (sx.drop a) : Nat) : Int)).toNat = a + spanU digP (sx.drop a) := by omega
  have eN : (sx.take (a + spanU digP (sx.drop a))).drop a = (sx.drop a).take (spanU digP (sx.drop a)) := by rw [List.drop_take, Nat.add_sub_cancel_left]
  by_cases hP : [48, 120].isPrefixOf (sx.drop a) = true
  · have h2 : a + 2 ≤ sx.length := by
      have := (prefix_take hP).2
      simp at this; omega
    have d2 : (sx.drop a).drop 2 = sx.drop (a + 2) := List.drop_drop
    have hsp16 : ∀ st', st' = (⟨rd sx a k l, k + 1⟩ : St) → FnS cx 45 [.ptr 0 0, .int .i64 ((a : Int) + 2), .func (.func 79) [] []] st' (.int .i64 (spanU hexP (sx.drop (a + 2)))) st' := fun st' e => hspan (p := hexP) (fun c st => hexS c st) (a + 2) st' (by omega) e
    have hK := spanU_le (p := hexP) (sx.drop (a + 2))
    rw [List.length_drop] at hK
    have hF : numT (sx.drop a) = if 16 < spanU hexP (sx.drop (a + 2)) then none else (puR 16 18446744073709551615 ((sx.drop (a + 2)).take (spanU hexP (sx.drop (a + 2))))).bind fun x => if endsU (sx.drop (a + (spanU hexP (sx.drop (a + 2)) + 2))) then some (spanU hexP (sx.drop (a + 2)) + 2, x) else none := by
      unfold numT
      rw [if_pos hP, d2, List.drop_drop]
    rw [hF]
    generalize spanU hexP (sx.drop (a + 2)) = K at *
    have t2 : ((a : Int) + 2).toNat = a + 2 := by omega
    have e2 : ((a : Int) + 2 + (K : Int)).toNat = a + 2 + K := by omega
    have eS : (sx.take (a + 2 + K)).drop (a + 2) = (sx.drop (a + 2)).take K := by rw [List.drop_take, Nat.add_sub_cancel_left]
    have eS2 : (sx.take ((a : Int) + ((K : Int) + 2)).toNat).drop a = (sx.drop a).take (K + 2) := by
      rw [show ((a : Int) + ((K : Int) + 2)).toNat = a + (K + 2) by omega, List.drop_take, Nat.add_sub_cancel_left]
    by_cases h16 : 16 < K
    · rw [if_pos h16]
      refine goS Tryz.func50 rfl rfl rfl rfl ?_
      intro t ht
      have a0 : tget t 0 = .ptr 0 0 := ht 0 _ rfl
      clear ht
      have ex := And.intro @a0 (And.intro @hg (And.intro @takeN (And.intro @hP (And.intro @t2 (And.intro @e2 (And.intro @eS @eS2))))))
      repeat' (first
       | (with_reducible refine isO ?_); first | refine mvA (h := ?_) | refine asA (h := ?_) | refine quA (h := ?_) | refine caA (hc := hsp10 _ rfl) (h := ?_) | refine caA (hc := hsp16 _ rfl) (h := ?_)
       | (with_reducible refine isG ?_); first | refine stA (h := ?_) | refine srA (h := ?_) | refine swA (h := ?_) | refine s1A (h := ?_) | refine s0A (h := ?_) | refine sgA (h1 := fun _ => ?_) (h0 := fun _ => ?_) | refine sbA (h1 := fun _ => ?_) (h0 := fun _ => ?_)
       | (with_reducible refine isP ?_); first | refine dqA (h := ?_) | refine dqAG (h := ?_) | refine dcA (i := 9) (l := []) (hc := hasX) (h := ?_) | refine dsA (h := ?_) | refine dtA (h := ?_) | refine dgA (h1 := fun _ => ?_) (h0 := fun _ => ?_)
       | (with_reducible refine isC ?_); first | refine ctA (h := ?_) | refine cfA (h := ?_) | refine cdA (h1 := fun _ => ?_) (h0 := fun _ => ?_) | refine cbA (h1 := fun _ => ?_) (h0 := fun _ => ?_)
       | (with_reducible refine isR ?_); first
         | refine Ev.drawn (by decide +kernel) (l := [0, 1, 2, 3, 4, 5, 6, 7, 8, 9, 10, 11, 12, 13, 14, 15]) (by decide +kernel) ?_
         | refine Ev.drawn (by decide +kernel) (l := [0, 1, 2, 3, 4, 5, 6, 7, 8, 9]) (by decide +kernel) ?_
         | refine Ev.drawn (by decide +kernel) (l := [0, 1, 2, 3, 4, 5, 6, 7, 8, 9, 10, 11, 12, 13, 14, 15, 16, 17, 18, 19, 20, 21]) (by decide +kernel) ?_
         | refine Ev.drawn (by decide +kernel) (l := [0, 1, 2, 3, 4, 5, 6, 7, 8, 9, 10, 11, 12, 13]) (by decide +kernel) ?_
         | refine Ev.drawn (by decide +kernel) (l := [0, 1, 2, 3, 4, 5, 6, 7, 8, 9, 10, 11, 12, 13, 14, 15, 16, 17, 18]) (by decide +kernel) ?_
       | with_reducible first | refine Ev.seq ?_ | refine Ev.ops ?_ | refine NxE ?_ | refine BxN ?_ | refine BxX ?_ | refine NxX ?_ | refine NxR ?_ | refine BxR ?_ | refine Ev.block ?_ | refine Ev.skip ?_ | refine Ev.exit ?_ | refine Ev.ret ?_ | refine EvOps.nil ?_ | refine EvPlan.nil ?_
       | (with_reducible refine BxO ?_ ?_; · decide)
       )
      all_goals first
        | (exfalso; omega)
        | refine lsA (rl := [.tmp 2]) rfl (hv := by
      simp only [leaveV, packV, strip, stripAgg, stripCell, hdrop, Nat.reduceLeDiff, List.map_cons, List.map_nil, show cx.grow 50 = false from rfl, show cx.keep 50 = true from rfl, show cx.frz 50 = false from rfl, if_false, if_true, Bool.false_eq_true]
      (first | done | rfl))
    · rw [if_neg h16]
      have hlen : ((sx.drop (a + 2)).take K).length ≤ 1000000 := by rw [List.length_take]; omega
      by_cases h0 : (puE 16 18446744073709551615 ((sx.drop (a + 2)).take K)).2 = 0
      · rw [okR h0, Option.bind_some]
        cases hE : endsU (sx.drop (a + (K + 2))) with
        | false =>
          have hend : ∀ st', st' = (⟨rd sx a k l, k + 1⟩ : St) → FnS cx 75 [.ptr 0 0, .int .i64 ((a : Int) + ((K : Int) + 2))] st' (.bool false) st' := fun st' e => by
            have := hends (a + (K + 2)) st' (by omega) e
            rw [hE] at this
            exact this
          refine goS Tryz.func50 rfl rfl rfl rfl ?_
          intro t ht
          have a0 : tget t 0 = .ptr 0 0 := ht 0 _ rfl
          clear ht
          have ex := And.intro @a0 (And.intro @hg (And.intro @takeN (And.intro @hP (And.intro @t2 (And.intro @e2 (And.intro @eS (And.intro @eS2 @nlN)))))))
          repeat' (first
           | (with_reducible refine isO ?_); first | refine mvA (h := ?_) | refine asA (h := ?_) | refine quA (h := ?_) | refine caA (hc := hsp10 _ rfl) (h := ?_) | refine caA (hc := hsp16 _ rfl) (h := ?_) | refine caA (hc := okOf (parse16_64 _ hlen _) h0) (h := ?_) | refine caA (hc := hend _ rfl) (h := ?_)
           | (with_reducible refine isG ?_); first | refine stA (h := ?_) | refine srA (h := ?_) | refine swA (h := ?_) | refine s1A (h := ?_) | refine s0A (h := ?_) | refine sgA (h1 := fun _ => ?_) (h0 := fun _ => ?_) | refine sbA (h1 := fun _ => ?_) (h0 := fun _ => ?_)
           | (with_reducible refine isP ?_); first | refine dqA (h := ?_) | refine dqAG (h := ?_) | refine dcA (i := 9) (l := []) (hc := hasX) (h := ?_) | refine dsA (h := ?_) | refine dtA (h := ?_) | refine dgA (h1 := fun _ => ?_) (h0 := fun _ => ?_)
           | (with_reducible refine isC ?_); first | refine ctA (h := ?_) | refine cfA (h := ?_) | refine cdA (h1 := fun _ => ?_) (h0 := fun _ => ?_) | refine cbA (h1 := fun _ => ?_) (h0 := fun _ => ?_)
           | (with_reducible refine isR ?_); first
             | refine Ev.drawn (by decide +kernel) (l := [0, 1, 2, 3, 4, 5, 6, 7, 8, 9, 10, 11, 12, 13, 14, 15]) (by decide +kernel) ?_
             | refine Ev.drawn (by decide +kernel) (l := [0, 1, 2, 3, 4, 5, 6, 7, 8, 9]) (by decide +kernel) ?_
             | refine Ev.drawn (by decide +kernel) (l := [0, 1, 2, 3, 4, 5, 6, 7, 8, 9, 10, 11, 12, 13, 14, 15, 16, 17, 18, 19, 20, 21]) (by decide +kernel) ?_
             | refine Ev.drawn (by decide +kernel) (l := [0, 1, 2, 3, 4, 5, 6, 7, 8, 9, 10, 11, 12, 13]) (by decide +kernel) ?_
             | refine Ev.drawn (by decide +kernel) (l := [0, 1, 2, 3, 4, 5, 6, 7, 8, 9, 10, 11, 12, 13, 14, 15, 16, 17, 18]) (by decide +kernel) ?_
           | with_reducible first | refine Ev.seq ?_ | refine Ev.ops ?_ | refine NxE ?_ | refine BxN ?_ | refine BxX ?_ | refine NxX ?_ | refine NxR ?_ | refine BxR ?_ | refine Ev.block ?_ | refine Ev.skip ?_ | refine Ev.exit ?_ | refine Ev.ret ?_ | refine EvOps.nil ?_ | refine EvPlan.nil ?_
           | (with_reducible refine BxO ?_ ?_; · decide)
           )
          all_goals first
            | (exfalso; omega)
            | refine lsA (rl := [.tmp 2]) rfl (hv := by
      simp only [leaveV, packV, strip, stripAgg, stripCell, hdrop, Nat.reduceLeDiff, List.map_cons, List.map_nil, show cx.grow 50 = false from rfl, show cx.keep 50 = true from rfl, show cx.frz 50 = false from rfl, if_false, if_true, Bool.false_eq_true]
      (first | done | rfl))
        | true =>
          have hend : ∀ st', st' = (⟨rd sx a k l, k + 1⟩ : St) → FnS cx 75 [.ptr 0 0, .int .i64 ((a : Int) + ((K : Int) + 2))] st' (.bool true) st' := fun st' e => by
            have := hends (a + (K + 2)) st' (by omega) e
            rw [hE] at this
            exact this
          refine goS Tryz.func50 rfl rfl rfl rfl ?_
          intro t ht
          have a0 : tget t 0 = .ptr 0 0 := ht 0 _ rfl
          clear ht
          have ex := And.intro @a0 (And.intro @hg (And.intro @takeN (And.intro @hP (And.intro @t2 (And.intro @e2 (And.intro @eS (And.intro @eS2 @nlN)))))))
          repeat' (first
           | (with_reducible refine isO ?_); first | refine mvA (h := ?_) | refine asA (h := ?_) | refine quA (h := ?_) | refine caA (hc := hsp10 _ rfl) (h := ?_) | refine caA (hc := hsp16 _ rfl) (h := ?_) | refine caA (hc := okOf (parse16_64 _ hlen _) h0) (h := ?_) | refine caA (hc := hend _ rfl) (h := ?_)
           | (with_reducible refine isG ?_); first | refine stA (h := ?_) | refine srA (h := ?_) | refine swA (h := ?_) | refine s1A (h := ?_) | refine s0A (h := ?_) | refine sgA (h1 := fun _ => ?_) (h0 := fun _ => ?_) | refine sbA (h1 := fun _ => ?_) (h0 := fun _ => ?_)
           | (with_reducible refine isP ?_); first | refine dqA (h := ?_) | refine dqAG (h := ?_) | refine dcA (i := 9) (l := []) (hc := hasX) (h := ?_) | refine dcA (i := 18) (l := []) (hc := takeR sx _ _ _ _ _ k l hr (by omega) (by omega) (by omega) (by omega)) (h := ?_) | refine dsA (h := ?_) | refine dtA (h := ?_) | refine dgA (h1 := fun _ => ?_) (h0 := fun _ => ?_)
           | (with_reducible refine isC ?_); first | refine ctA (h := ?_) | refine cfA (h := ?_) | refine cdA (h1 := fun _ => ?_) (h0 := fun _ => ?_) | refine cbA (h1 := fun _ => ?_) (h0 := fun _ => ?_)
           | (with_reducible refine isR ?_); first
             | refine Ev.drawn (by decide +kernel) (l := [0, 1, 2, 3, 4, 5, 6, 7, 8, 9, 10, 11, 12, 13, 14, 15]) (by decide +kernel) ?_
             | refine Ev.drawn (by decide +kernel) (l := [0, 1, 2, 3, 4, 5, 6, 7, 8, 9]) (by decide +kernel) ?_
             | refine Ev.drawn (by decide +kernel) (l := [0, 1, 2, 3, 4, 5, 6, 7, 8, 9, 10, 11, 12, 13, 14, 15, 16, 17, 18, 19, 20, 21]) (by decide +kernel) ?_
             | refine Ev.drawn (by decide +kernel) (l := [0, 1, 2, 3, 4, 5, 6, 7, 8, 9, 10, 11, 12, 13]) (by decide +kernel) ?_
             | refine Ev.drawn (by decide +kernel) (l := [0, 1, 2, 3, 4, 5, 6, 7, 8, 9, 10, 11, 12, 13, 14, 15, 16, 17, 18]) (by decide +kernel) ?_
           | with_reducible first | refine Ev.seq ?_ | refine Ev.ops ?_ | refine NxE ?_ | refine BxN ?_ | refine BxX ?_ | refine NxX ?_ | refine NxR ?_ | refine BxR ?_ | refine Ev.block ?_ | refine Ev.skip ?_ | refine Ev.exit ?_ | refine Ev.ret ?_ | refine EvOps.nil ?_ | refine EvPlan.nil ?_
           | (with_reducible refine BxO ?_ ?_; · decide)
           )
          all_goals first
            | (exfalso; omega)
            | refine lsA (rl := [.tmp 2]) rfl (hv := by
      simp only [leaveV, packV, strip, stripAgg, stripCell, hdrop, Nat.reduceLeDiff, List.map_cons, List.map_nil, show cx.grow 50 = false from rfl, show cx.keep 50 = true from rfl, show cx.frz 50 = false from rfl, if_false, if_true, Bool.false_eq_true]
      (first | done | rfl))
      · rw [noR h0, Option.bind_none]
        refine goS Tryz.func50 rfl rfl rfl rfl ?_
        intro t ht
        have a0 : tget t 0 = .ptr 0 0 := ht 0 _ rfl
        clear ht
        have ex := And.intro @a0 (And.intro @hg (And.intro @takeN (And.intro @hP (And.intro @t2 (And.intro @e2 (And.intro @eS (And.intro @eS2 @nlN)))))))
        repeat' (first
         | (with_reducible refine isO ?_); first | refine mvA (h := ?_) | refine asA (h := ?_) | refine quA (h := ?_) | refine caA (hc := hsp10 _ rfl) (h := ?_) | refine caA (hc := hsp16 _ rfl) (h := ?_) | refine caA (hc := noOf (parse16_64 _ hlen _) h0) (h := ?_)
         | (with_reducible refine isG ?_); first | refine stA (h := ?_) | refine srA (h := ?_) | refine swA (h := ?_) | refine s1A (h := ?_) | refine s0A (h := ?_) | refine sgA (h1 := fun _ => ?_) (h0 := fun _ => ?_) | refine sbA (h1 := fun _ => ?_) (h0 := fun _ => ?_)
         | (with_reducible refine isP ?_); first | refine dqA (h := ?_) | refine dqAG (h := ?_) | refine dcA (i := 9) (l := []) (hc := hasX) (h := ?_) | refine dsA (h := ?_) | refine dtA (h := ?_) | refine dgA (h1 := fun _ => ?_) (h0 := fun _ => ?_)
         | (with_reducible refine isC ?_); first | refine ctA (h := ?_) | refine cfA (h := ?_) | refine cdA (h1 := fun _ => ?_) (h0 := fun _ => ?_) | refine cbA (h1 := fun _ => ?_) (h0 := fun _ => ?_)
         | (with_reducible refine isR ?_); first
           | refine Ev.drawn (by decide +kernel) (l := [0, 1, 2, 3, 4, 5, 6, 7, 8, 9, 10, 11, 12, 13, 14, 15]) (by decide +kernel) ?_
           | refine Ev.drawn (by decide +kernel) (l := [0, 1, 2, 3, 4, 5, 6, 7, 8, 9]) (by decide +kernel) ?_
           | refine Ev.drawn (by decide +kernel) (l := [0, 1, 2, 3, 4, 5, 6, 7, 8, 9, 10, 11, 12, 13, 14, 15, 16, 17, 18, 19, 20, 21]) (by decide +kernel) ?_
           | refine Ev.drawn (by decide +kernel) (l := [0, 1, 2, 3, 4, 5, 6, 7, 8, 9, 10, 11, 12, 13]) (by decide +kernel) ?_
           | refine Ev.drawn (by decide +kernel) (l := [0, 1, 2, 3, 4, 5, 6, 7, 8, 9, 10, 11, 12, 13, 14, 15, 16, 17, 18]) (by decide +kernel) ?_
         | with_reducible first | refine Ev.seq ?_ | refine Ev.ops ?_ | refine NxE ?_ | refine BxN ?_ | refine BxX ?_ | refine NxX ?_ | refine NxR ?_ | refine BxR ?_ | refine Ev.block ?_ | refine Ev.skip ?_ | refine Ev.exit ?_ | refine Ev.ret ?_ | refine EvOps.nil ?_ | refine EvPlan.nil ?_
         | (with_reducible refine BxO ?_ ?_; · decide)
         )
        all_goals first
          | (exfalso; omega)
          | refine lsA (rl := [.tmp 2]) rfl (hv := by
      simp only [leaveV, packV, strip, stripAgg, stripCell, hdrop, Nat.reduceLeDiff, List.map_cons, List.map_nil, show cx.grow 50 = false from rfl, show cx.keep 50 = true from rfl, show cx.frz 50 = false from rfl, if_false, if_true, Bool.false_eq_true]
      (first | done | rfl))
  · have h0u : (sx.drop a).getD 0 0 = sx.getD a 0 := by rw [List.getD_eq_getElem?_getD, List.getD_eq_getElem?_getD, List.getElem?_drop]; rfl
    have hF : numT (sx.drop a) = if 1 < spanU digP (sx.drop a) ∧ sx.getD a 0 = 48 then none else (puR 10 18446744073709551615 ((sx.drop a).take (spanU digP (sx.drop a)))).bind fun x => if endsU (sx.drop (a + spanU digP (sx.drop a))) then some (spanU digP (sx.drop a), x) else none := by
      unfold numT
      rw [if_neg hP, h0u, List.drop_drop]
    rw [hF]
    generalize spanU digP (sx.drop a) = N at *
    by_cases hz : 1 < N ∧ sx.getD a 0 = 48
    · rw [if_pos hz]
      have h48 : ((sx.getD a 0).toNat : Int) = 48 := by rw [hz.2]; rfl
      have h1N := hz.1
      refine goS Tryz.func50 rfl rfl rfl rfl ?_
      intro t ht
      have a0 : tget t 0 = .ptr 0 0 := ht 0 _ rfl
      clear ht
      have ex := And.intro @a0 (And.intro @hg (And.intro @takeN (And.intro @hP (And.intro @strAt (And.intro @eN @tN)))))
      repeat' (first
       | (with_reducible refine isO ?_); first | refine mvA (h := ?_) | refine asA (h := ?_) | refine quA (h := ?_) | refine caA (hc := hsp10 _ rfl) (h := ?_) | refine caA (hc := hsp16 _ rfl) (h := ?_)
       | (with_reducible refine isG ?_); first | refine stA (h := ?_) | refine srA (h := ?_) | refine swA (h := ?_) | refine s1A (h := ?_) | refine s0A (h := ?_) | refine sgA (h1 := fun _ => ?_) (h0 := fun _ => ?_) | refine sbA (h1 := fun _ => ?_) (h0 := fun _ => ?_)
       | (with_reducible refine isP ?_); first | refine dqA (h := ?_) | refine dqAG (h := ?_) | refine dcA (i := 9) (l := []) (hc := hasX) (h := ?_) | refine dsA (h := ?_) | refine dtA (h := ?_) | refine dgA (h1 := fun _ => ?_) (h0 := fun _ => ?_)
       | (with_reducible refine isC ?_); first | refine ctA (h := ?_) | refine cfA (h := ?_) | refine cdA (h1 := fun _ => ?_) (h0 := fun _ => ?_) | refine cbA (h1 := fun _ => ?_) (h0 := fun _ => ?_)
       | (with_reducible refine isR ?_); first
         | refine Ev.drawn (by decide +kernel) (l := [0, 1, 2, 3, 4, 5, 6, 7, 8, 9, 10, 11, 12, 13, 14, 15]) (by decide +kernel) ?_
         | refine Ev.drawn (by decide +kernel) (l := [0, 1, 2, 3, 4, 5, 6, 7, 8, 9]) (by decide +kernel) ?_
         | refine Ev.drawn (by decide +kernel) (l := [0, 1, 2, 3, 4, 5, 6, 7, 8, 9, 10, 11, 12, 13, 14, 15, 16, 17, 18, 19, 20, 21]) (by decide +kernel) ?_
         | refine Ev.drawn (by decide +kernel) (l := [0, 1, 2, 3, 4, 5, 6, 7, 8, 9, 10, 11, 12, 13]) (by decide +kernel) ?_
         | refine Ev.drawn (by decide +kernel) (l := [0, 1, 2, 3, 4, 5, 6, 7, 8, 9, 10, 11, 12, 13, 14, 15, 16, 17, 18]) (by decide +kernel) ?_
       | with_reducible first | refine Ev.seq ?_ | refine Ev.ops ?_ | refine NxE ?_ | refine BxN ?_ | refine BxX ?_ | refine NxX ?_ | refine NxR ?_ | refine BxR ?_ | refine Ev.block ?_ | refine Ev.skip ?_ | refine Ev.exit ?_ | refine Ev.ret ?_ | refine EvOps.nil ?_ | refine EvPlan.nil ?_
       | (with_reducible refine BxO ?_ ?_; · decide)
       )
      all_goals first
        | (exfalso; omega)
        | refine lsA (rl := [.tmp 2]) rfl (hv := by
      simp only [leaveV, packV, strip, stripAgg, stripCell, hdrop, Nat.reduceLeDiff, List.map_cons, List.map_nil, show cx.grow 50 = false from rfl, show cx.keep 50 = true from rfl, show cx.frz 50 = false from rfl, if_false, if_true, Bool.false_eq_true]
      (first | done | rfl))
    · rw [if_neg hz]
      have h48 : ¬ (1 < N ∧ ((sx.getD a 0).toNat : Int) = 48) := fun h => hz ⟨h.1, UInt8.toNat_inj.1 (by show (sx.getD a 0).toNat = 48; omega)⟩
      have hlen : ((sx.drop a).take N).length ≤ 1000000 := by rw [List.length_take]; omega
      by_cases h0 : (puE 10 18446744073709551615 ((sx.drop a).take N)).2 = 0
      · rw [okR h0, Option.bind_some]
        cases hE : endsU (sx.drop (a + N)) with
        | false =>
          have hend : ∀ st', st' = (⟨rd sx a k l, k + 1⟩ : St) → FnS cx 75 [.ptr 0 0, .int .i64 ((a : Int) + (N : Int))] st' (.bool false) st' := fun st' e => by
            have := hends (a + N) st' (by omega) e
            rw [hE] at this
            exact this
          refine goS Tryz.func50 rfl rfl rfl rfl ?_
          intro t ht
          have a0 : tget t 0 = .ptr 0 0 := ht 0 _ rfl
          clear ht
          have ex := And.intro @a0 (And.intro @hg (And.intro @takeN (And.intro @hP (And.intro @strAt (And.intro @eN (And.intro @tN @nlN))))))
          repeat' (first
           | (with_reducible refine isO ?_); first | refine mvA (h := ?_) | refine asA (h := ?_) | refine quA (h := ?_) | refine caA (hc := hsp10 _ rfl) (h := ?_) | refine caA (hc := hsp16 _ rfl) (h := ?_) | refine caA (hc := okOf (parse10_64 _ hlen _) h0) (h := ?_) | refine caA (hc := hend _ rfl) (h := ?_)
           | (with_reducible refine isG ?_); first | refine stA (h := ?_) | refine srA (h := ?_) | refine swA (h := ?_) | refine s1A (h := ?_) | refine s0A (h := ?_) | refine sgA (h1 := fun _ => ?_) (h0 := fun _ => ?_) | refine sbA (h1 := fun _ => ?_) (h0 := fun _ => ?_)
           | (with_reducible refine isP ?_); first | refine dqA (h := ?_) | refine dqAG (h := ?_) | refine dcA (i := 9) (l := []) (hc := hasX) (h := ?_) | refine dsA (h := ?_) | refine dtA (h := ?_) | refine dgA (h1 := fun _ => ?_) (h0 := fun _ => ?_)
           | (with_reducible refine isC ?_); first | refine ctA (h := ?_) | refine cfA (h := ?_) | refine cdA (h1 := fun _ => ?_) (h0 := fun _ => ?_) | refine cbA (h1 := fun _ => ?_) (h0 := fun _ => ?_)
           | (with_reducible refine isR ?_); first
             | refine Ev.drawn (by decide +kernel) (l := [0, 1, 2, 3, 4, 5, 6, 7, 8, 9, 10, 11, 12, 13, 14, 15]) (by decide +kernel) ?_
             | refine Ev.drawn (by decide +kernel) (l := [0, 1, 2, 3, 4, 5, 6, 7, 8, 9]) (by decide +kernel) ?_
             | refine Ev.drawn (by decide +kernel) (l := [0, 1, 2, 3, 4, 5, 6, 7, 8, 9, 10, 11, 12, 13, 14, 15, 16, 17, 18, 19, 20, 21]) (by decide +kernel) ?_
             | refine Ev.drawn (by decide +kernel) (l := [0, 1, 2, 3, 4, 5, 6, 7, 8, 9, 10, 11, 12, 13]) (by decide +kernel) ?_
             | refine Ev.drawn (by decide +kernel) (l := [0, 1, 2, 3, 4, 5, 6, 7, 8, 9, 10, 11, 12, 13, 14, 15, 16, 17, 18]) (by decide +kernel) ?_
           | with_reducible first | refine Ev.seq ?_ | refine Ev.ops ?_ | refine NxE ?_ | refine BxN ?_ | refine BxX ?_ | refine NxX ?_ | refine NxR ?_ | refine BxR ?_ | refine Ev.block ?_ | refine Ev.skip ?_ | refine Ev.exit ?_ | refine Ev.ret ?_ | refine EvOps.nil ?_ | refine EvPlan.nil ?_
           | (with_reducible refine BxO ?_ ?_; · decide)
           )
          all_goals first
            | (exfalso; omega)
            | refine lsA (rl := [.tmp 2]) rfl (hv := by
      simp only [leaveV, packV, strip, stripAgg, stripCell, hdrop, Nat.reduceLeDiff, List.map_cons, List.map_nil, show cx.grow 50 = false from rfl, show cx.keep 50 = true from rfl, show cx.frz 50 = false from rfl, if_false, if_true, Bool.false_eq_true]
      (first | done | rfl))
        | true =>
          have hend : ∀ st', st' = (⟨rd sx a k l, k + 1⟩ : St) → FnS cx 75 [.ptr 0 0, .int .i64 ((a : Int) + (N : Int))] st' (.bool true) st' := fun st' e => by
            have := hends (a + N) st' (by omega) e
            rw [hE] at this
            exact this
          refine goS Tryz.func50 rfl rfl rfl rfl ?_
          intro t ht
          have a0 : tget t 0 = .ptr 0 0 := ht 0 _ rfl
          clear ht
          have ex := And.intro @a0 (And.intro @hg (And.intro @takeN (And.intro @hP (And.intro @strAt (And.intro @eN (And.intro @tN @nlN))))))
          repeat' (first
           | (with_reducible refine isO ?_); first | refine mvA (h := ?_) | refine asA (h := ?_) | refine quA (h := ?_) | refine caA (hc := hsp10 _ rfl) (h := ?_) | refine caA (hc := hsp16 _ rfl) (h := ?_) | refine caA (hc := okOf (parse10_64 _ hlen _) h0) (h := ?_) | refine caA (hc := hend _ rfl) (h := ?_)
           | (with_reducible refine isG ?_); first | refine stA (h := ?_) | refine srA (h := ?_) | refine swA (h := ?_) | refine s1A (h := ?_) | refine s0A (h := ?_) | refine sgA (h1 := fun _ => ?_) (h0 := fun _ => ?_) | refine sbA (h1 := fun _ => ?_) (h0 := fun _ => ?_)
           | (with_reducible refine isP ?_); first | refine dqA (h := ?_) | refine dqAG (h := ?_) | refine dcA (i := 9) (l := []) (hc := hasX) (h := ?_) | refine dcA (i := 18) (l := []) (hc := takeR sx _ _ _ _ _ k l hr (by omega) (by omega) (by omega) (by omega)) (h := ?_) | refine dsA (h := ?_) | refine dtA (h := ?_) | refine dgA (h1 := fun _ => ?_) (h0 := fun _ => ?_)
           | (with_reducible refine isC ?_); first | refine ctA (h := ?_) | refine cfA (h := ?_) | refine cdA (h1 := fun _ => ?_) (h0 := fun _ => ?_) | refine cbA (h1 := fun _ => ?_) (h0 := fun _ => ?_)
           | (with_reducible refine isR ?_); first
             | refine Ev.drawn (by decide +kernel) (l := [0, 1, 2, 3, 4, 5, 6, 7, 8, 9, 10, 11, 12, 13, 14, 15]) (by decide +kernel) ?_
             | refine Ev.drawn (by decide +kernel) (l := [0, 1, 2, 3, 4, 5, 6, 7, 8, 9]) (by decide +kernel) ?_
             | refine Ev.drawn (by decide +kernel) (l := [0, 1, 2, 3, 4, 5, 6, 7, 8, 9, 10, 11, 12, 13, 14, 15, 16, 17, 18, 19, 20, 21]) (by decide +kernel) ?_
             | refine Ev.drawn (by decide +kernel) (l := [0, 1, 2, 3, 4, 5, 6, 7, 8, 9, 10, 11, 12, 13]) (by decide +kernel) ?_
             | refine Ev.drawn (by decide +kernel) (l := [0, 1, 2, 3, 4, 5, 6, 7, 8, 9, 10, 11, 12, 13, 14, 15, 16, 17, 18]) (by decide +kernel) ?_
           | with_reducible first | refine Ev.seq ?_ | refine Ev.ops ?_ | refine NxE ?_ | refine BxN ?_ | refine BxX ?_ | refine NxX ?_ | refine NxR ?_ | refine BxR ?_ | refine Ev.block ?_ | refine Ev.skip ?_ | refine Ev.exit ?_ | refine Ev.ret ?_ | refine EvOps.nil ?_ | refine EvPlan.nil ?_
           | (with_reducible refine BxO ?_ ?_; · decide)
           )
          all_goals first
            | (exfalso; omega)
            | refine lsA (rl := [.tmp 2]) rfl (hv := by
      simp only [leaveV, packV, strip, stripAgg, stripCell, hdrop, Nat.reduceLeDiff, List.map_cons, List.map_nil, show cx.grow 50 = false from rfl, show cx.keep 50 = true from rfl, show cx.frz 50 = false from rfl, if_false, if_true, Bool.false_eq_true]
      (first | done | rfl))
      · rw [noR h0, Option.bind_none]
        refine goS Tryz.func50 rfl rfl rfl rfl ?_
        intro t ht
        have a0 : tget t 0 = .ptr 0 0 := ht 0 _ rfl
        clear ht
        have ex := And.intro @a0 (And.intro @hg (And.intro @takeN (And.intro @hP (And.intro @strAt (And.intro @eN (And.intro @tN @nlN))))))
        repeat' (first
         | (with_reducible refine isO ?_); first | refine mvA (h := ?_) | refine asA (h := ?_) | refine quA (h := ?_) | refine caA (hc := hsp10 _ rfl) (h := ?_) | refine caA (hc := hsp16 _ rfl) (h := ?_) | refine caA (hc := noOf (parse10_64 _ hlen _) h0) (h := ?_)
         | (with_reducible refine isG ?_); first | refine stA (h := ?_) | refine srA (h := ?_) | refine swA (h := ?_) | refine s1A (h := ?_) | refine s0A (h := ?_) | refine sgA (h1 := fun _ => ?_) (h0 := fun _ => ?_) | refine sbA (h1 := fun _ => ?_) (h0 := fun _ => ?_)
         | (with_reducible refine isP ?_); first | refine dqA (h := ?_) | refine dqAG (h := ?_) | refine dcA (i := 9) (l := []) (hc := hasX) (h := ?_) | refine dsA (h := ?_) | refine dtA (h := ?_) | refine dgA (h1 := fun _ => ?_) (h0 := fun _ => ?_)
         | (with_reducible refine isC ?_); first | refine ctA (h := ?_) | refine cfA (h := ?_) | refine cdA (h1 := fun _ => ?_) (h0 := fun _ => ?_) | refine cbA (h1 := fun _ => ?_) (h0 := fun _ => ?_)
         | (with_reducible refine isR ?_); first
           | refine Ev.drawn (by decide +kernel) (l := [0, 1, 2, 3, 4, 5, 6, 7, 8, 9, 10, 11, 12, 13, 14, 15]) (by decide +kernel) ?_
           | refine Ev.drawn (by decide +kernel) (l := [0, 1, 2, 3, 4, 5, 6, 7, 8, 9]) (by decide +kernel) ?_
           | refine Ev.drawn (by decide +kernel) (l := [0, 1, 2, 3, 4, 5, 6, 7, 8, 9, 10, 11, 12, 13, 14, 15, 16, 17, 18, 19, 20, 21]) (by decide +kernel) ?_
           | refine Ev.drawn (by decide +kernel) (l := [0, 1, 2, 3, 4, 5, 6, 7, 8, 9, 10, 11, 12, 13]) (by decide +kernel) ?_
           | refine Ev.drawn (by decide +kernel) (l := [0, 1, 2, 3, 4, 5, 6, 7, 8, 9, 10, 11, 12, 13, 14, 15, 16, 17, 18]) (by decide +kernel) ?_
         | with_reducible first | refine Ev.seq ?_ | refine Ev.ops ?_ | refine NxE ?_ | refine BxN ?_ | refine BxX ?_ | refine NxX ?_ | refine NxR ?_ | refine BxR ?_ | refine Ev.block ?_ | refine Ev.skip ?_ | refine Ev.exit ?_ | refine Ev.ret ?_ | refine EvOps.nil ?_ | refine EvPlan.nil ?_
         | (with_reducible refine BxO ?_ ?_; · decide)
         )
        all_goals first
          | (exfalso; omega)
          | refine lsA (rl := [.tmp 2]) rfl (hv := by
      simp only [leaveV, packV, strip, stripAgg, stripCell, hdrop, Nat.reduceLeDiff, List.map_cons, List.map_nil, show cx.grow 50 = false from rfl, show cx.keep 50 = true from rfl, show cx.frz 50 = false from rfl, if_false, if_true, Bool.false_eq_true]
      (first | done | rfl))

end
end Go.Proofs.YtklcmgodhpediaaGreatDoor.L
