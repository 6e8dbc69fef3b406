/- A run: the flow that a State finds. -/
import Derived.Test.YtbgalenfbmaceaaGreatDoorDeV15
set_option linter.unusedSimpArgs false
set_option linter.unusedVariables false
set_option maxRecDepth 1000000
namespace Go.Proofs.YtbgalenfbmaceaaGreatDoor.D
open Go Go.Vm Go.Proofs Go.Proofs.YtbgalenfbmaceaaGreatDoor

theorem luT : ∀ (H : List (Nat × Ob)) (es : List (V × V)) (x : Int) (p : V), hget H 1 = some (.map es) → findV (.int .i64 x) es = some (some p) → lookupV cw H 66 (.map 1) (.int .i64 x) false = some p := fun H es x p h1 h2 => by
  have e : hgetM H 1 = some es := by unfold hgetM; rw [h1]; rfl
  exact luH es x p h2 H e

set_option maxHeartbeats 4000000 in
theorem foundA {H : List (Nat × Ob)} {n c a b p q tp pt tt r : Nat} {i x x1 x2 : Int} {b1 b2 : List V} {S ks : V} {goes over : V} {es : List (V × V)} {tip : Tip} {cs : List V} (hcs : cs.length = 49) (hw : hdrop n H = H) (hr : hget H r = some (.cells [.ptr pt 0, .ptr tt 0, S, goes, over])) (hP : hget H pt = some (.cells [.sl tip [.agg [.int .i64 x1, .int .i64 0, .sl .none [], .sl .none b1], .agg [.int .i64 x2, .int .i64 0, .sl .none [], .sl .none b2]], ks, .map 1])) (h1 : hget H 1 = some (.map es)) (hf : findV (.int .i64 x) es = some (some (.ptr c 0)))
    (hc : hget H c = some (.cells [.map a, .map b])) (ha : hget H a = some (.map [(.str [], .ptr p 0)])) (hp : hget H p = some (.cells [.sl .full [], .map q, .int .i64 i])) (hq : hget H q = some (.map [(.str [], .sl (.own tp) [.agg [.int .i64 0, .sl .none [], .int .i64 1]])]))
    (l0 : 1 < n) (l1 : a < n) (l2 : p < n) (l3 : q < n) (l4 : c < n) (l5 : r < n) (l6 : pt < n) (n1 : p ≠ a) (n2 : q ≠ a) (n3 : c ≠ a) : FnS cw 14 [.ptr r 0, .int .i64 x, .agg cs] ⟨H, n⟩ (.sl .none b1) ⟨H, n + 1 + 1 + 1 + 1 + 1 + 1 + 1 + 1 + 1⟩ := by
  have ht49 : cs.take 49 = cs := List.take_of_length_le (by omega)
  have hl := luT ((n, .cells cs) :: H) es x _ (by simp (disch := omega) only [hpE, h1]) hf
  refine goS Tryz.func14 rfl rfl rfl rfl ?_
  intro t ht
  have a0 : tget t 0 = .ptr r 0 := ht 0 _ rfl
  have a1 : tget t 1 = .int .i64 x := ht 1 _ rfl
  have a2 : tget t 2 = .agg cs := ht 2 _ rfl
  clear ht
  have ex := And.intro @a0 (And.intro @a1 (And.intro @a2 (And.intro @hr (And.intro @hP (And.intro @hl (And.intro @ht49 (And.intro @hpB (And.intro @hpE (And.intro @zvE @z77)))))))))
  repeat' (first
   | (with_reducible refine isO ?_); first | refine mvA (h := ?_) | refine asA (h := ?_) | refine quA (h := ?_)
   | (with_reducible refine isP ?_); first | refine dqA (h := ?_) | refine dcA (i := 10) (l := [14]) (hc := (findS (id := 1) (a := a) (b := b) (p := p) (q := q) (i := i) (tp := tp) hcs (by simp (disch := omega) only [hpW]) (by simp (disch := omega) only [hpE, hc]) (by simp (disch := omega) only [hpE, ha]) (by simp (disch := omega) only [hpE, hp]) (by simp (disch := omega) only [hpE, hq]) (by omega) (by omega) (by omega) (by omega) n1 n2 n3)) (hs := allC (stillA (m := n + 1) (cs := [.int .i64 0, .sl .full [], .int .i64 0]) (by rfl) (by with_reducible exact wN) rfl (by rfl) (by simp only [↓evP, ↓tgP, ↓reduceIte, Nat.reduceEqDiff, reduceCtorEq, List.map_cons, List.map_nil, List.nil_append, List.append_nil, List.toList_toArray, a0]) (by rfl) (by simp (disch := omega) only [hpE])) (by simp only [List.all_nil])) (h := ?_) | refine dnA (i := 15) (l := []) (h := ?_)
   | (with_reducible refine isC ?_); first | refine ctA (h := ?_) | refine cfA (h := ?_) | refine cdA (h1 := fun _ => ?_) (h0 := fun _ => ?_) | refine cbA (h1 := fun _ => ?_) (h0 := fun _ => ?_)
   | (with_reducible refine isR ?_); first
     | refine Ev.drawn (by decide +kernel) (l := [0, 1, 2, 3, 4, 5, 6, 7, 8, 9, 14, 10, 11, 12, 13, 15, 16]) (by decide +kernel) ?_
     | refine Ev.drawn (by decide +kernel) (l := [0, 1, 2, 3, 4, 5, 6, 7, 8, 9, 10, 11, 12, 13]) (by decide +kernel) ?_
   | with_reducible first | refine Ev.seq ?_ | refine Ev.ops ?_ | refine NxE ?_ | refine BxN ?_ | refine BxX ?_ | refine NxX ?_ | refine NxR ?_ | refine BxR ?_ | refine Ev.block ?_ | refine Ev.skip ?_ | refine Ev.exit ?_ | refine Ev.ret ?_ | refine EvOps.nil ?_ | refine EvPlan.nil ?_
   | (with_reducible refine BxO ?_ ?_; · decide)
   )
  all_goals refine lsA (rl := [.tmp 6]) rfl (hv := by
      simp only [leaveV, packV, strip, stripAgg, stripCell, List.map_cons, List.map_nil, show cw.grow 14 = false from rfl, show cw.keep 14 = false from rfl, show cw.frz 14 = false from rfl, if_false, if_true, Bool.false_eq_true]
      (try simp (disch := omega) only [hpW, hpA, hw, hpE])
      first | done | rfl)

set_option maxHeartbeats 4000000 in
theorem foundB {H : List (Nat × Ob)} {n c a b p q tp pt tt r : Nat} {i x x1 x2 : Int} {b1 b2 : List V} {S ks : V} {goes over : V} {es : List (V × V)} {tip : Tip} {cs : List V} (hcs : cs.length = 49) (hw : hdrop n H = H) (hr : hget H r = some (.cells [.ptr pt 0, .ptr tt 0, S, goes, over])) (hP : hget H pt = some (.cells [.sl tip [.agg [.int .i64 x1, .int .i64 0, .sl .none [], .sl .none b1], .agg [.int .i64 x2, .int .i64 0, .sl .none [], .sl .none b2]], ks, .map 1])) (h1 : hget H 1 = some (.map es)) (hf : findV (.int .i64 x) es = some (some (.ptr c 0)))
    (hc : hget H c = some (.cells [.map a, .map b])) (ha : hget H a = some (.map [(.str [], .ptr p 0)])) (hp : hget H p = some (.cells [.sl .full [], .map q, .int .i64 i])) (hq : hget H q = some (.map [(.str [], .sl (.own tp) [.agg [.int .i64 0, .sl .none [], .int .i64 2]])]))
    (l0 : 1 < n) (l1 : a < n) (l2 : p < n) (l3 : q < n) (l4 : c < n) (l5 : r < n) (l6 : pt < n) (n1 : p ≠ a) (n2 : q ≠ a) (n3 : c ≠ a) : FnS cw 14 [.ptr r 0, .int .i64 x, .agg cs] ⟨H, n⟩ (.sl .none b2) ⟨H, n + 1 + 1 + 1 + 1 + 1 + 1 + 1 + 1 + 1⟩ := by
  have ht49 : cs.take 49 = cs := List.take_of_length_le (by omega)
  have hl := luT ((n, .cells cs) :: H) es x _ (by simp (disch := omega) only [hpE, h1]) hf
  refine goS Tryz.func14 rfl rfl rfl rfl ?_
  intro t ht
  have a0 : tget t 0 = .ptr r 0 := ht 0 _ rfl
  have a1 : tget t 1 = .int .i64 x := ht 1 _ rfl
  have a2 : tget t 2 = .agg cs := ht 2 _ rfl
  clear ht
  have ex := And.intro @a0 (And.intro @a1 (And.intro @a2 (And.intro @hr (And.intro @hP (And.intro @hl (And.intro @ht49 (And.intro @hpB (And.intro @hpE (And.intro @zvE @z77)))))))))
  repeat' (first
   | (with_reducible refine isO ?_); first | refine mvA (h := ?_) | refine asA (h := ?_) | refine quA (h := ?_)
   | (with_reducible refine isP ?_); first | refine dqA (h := ?_) | refine dcA (i := 10) (l := [14]) (hc := (findS (id := 2) (a := a) (b := b) (p := p) (q := q) (i := i) (tp := tp) hcs (by simp (disch := omega) only [hpW]) (by simp (disch := omega) only [hpE, hc]) (by simp (disch := omega) only [hpE, ha]) (by simp (disch := omega) only [hpE, hp]) (by simp (disch := omega) only [hpE, hq]) (by omega) (by omega) (by omega) (by omega) n1 n2 n3)) (hs := allC (stillA (m := n + 1) (cs := [.int .i64 0, .sl .full [], .int .i64 0]) (by rfl) (by with_reducible exact wN) rfl (by rfl) (by simp only [↓evP, ↓tgP, ↓reduceIte, Nat.reduceEqDiff, reduceCtorEq, List.map_cons, List.map_nil, List.nil_append, List.append_nil, List.toList_toArray, a0]) (by rfl) (by simp (disch := omega) only [hpE])) (by simp only [List.all_nil])) (h := ?_) | refine dnA (i := 15) (l := []) (h := ?_)
   | (with_reducible refine isC ?_); first | refine ctA (h := ?_) | refine cfA (h := ?_) | refine cdA (h1 := fun _ => ?_) (h0 := fun _ => ?_) | refine cbA (h1 := fun _ => ?_) (h0 := fun _ => ?_)
   | (with_reducible refine isR ?_); first
     | refine Ev.drawn (by decide +kernel) (l := [0, 1, 2, 3, 4, 5, 6, 7, 8, 9, 14, 10, 11, 12, 13, 15, 16]) (by decide +kernel) ?_
     | refine Ev.drawn (by decide +kernel) (l := [0, 1, 2, 3, 4, 5, 6, 7, 8, 9, 10, 11, 12, 13]) (by decide +kernel) ?_
   | with_reducible first | refine Ev.seq ?_ | refine Ev.ops ?_ | refine NxE ?_ | refine BxN ?_ | refine BxX ?_ | refine NxX ?_ | refine NxR ?_ | refine BxR ?_ | refine Ev.block ?_ | refine Ev.skip ?_ | refine Ev.exit ?_ | refine Ev.ret ?_ | refine EvOps.nil ?_ | refine EvPlan.nil ?_
   | (with_reducible refine BxO ?_ ?_; · decide)
   )
  all_goals refine lsA (rl := [.tmp 6]) rfl (hv := by
      simp only [leaveV, packV, strip, stripAgg, stripCell, List.map_cons, List.map_nil, show cw.grow 14 = false from rfl, show cw.keep 14 = false from rfl, show cw.frz 14 = false from rfl, if_false, if_true, Bool.false_eq_true]
      (try simp (disch := omega) only [hpW, hpA, hw, hpE])
      first | done | rfl)
end Go.Proofs.YtbgalenfbmaceaaGreatDoor.D
