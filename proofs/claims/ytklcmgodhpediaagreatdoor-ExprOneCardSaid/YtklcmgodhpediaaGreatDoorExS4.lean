/- Whether an expression may be: the program. -/
import Derived.Test.YtklcmgodhpediaaGreatDoorExS2
set_option linter.unusedSimpArgs false
set_option linter.unusedVariables false
set_option maxRecDepth 100000
namespace Go.Proofs.YtklcmgodhpediaaGreatDoor
open Go Go.Vm Go.Proofs

/-- Bits of a that b has not. -/
def andn (a b : Int) : Int := IntKind.u64.wrap (BitVec.ofInt IntKind.u64.bits a &&& ~~~ BitVec.ofInt IntKind.u64.bits b).toNat
theorem andnE : ∀ a b : Int, intBin .andNot .u64 a b = some (.int .u64 (andn a b)) := fun _ _ => rfl
/-- What is asked of one node. -/
def nodeP (k f o v m : Int) (n : Nat) : Prop :=
  ((k = 1 ∨ k = 2) ∧ (f = 0 ∧ o = 0 ∧ v = 0 ∧ m = 0) ∧ n = 0) ∨ (k = 4 ∧ (f = 0 ∧ o = 0 ∧ v = 0 ∧ m = 0) ∧ n = 1) ∨ ((k = 5 ∨ k = 6) ∧ (f = 0 ∧ o = 0 ∧ v = 0 ∧ m = 0) ∧ 2 ≤ n) ∨
    (k = 3 ∧ n = 0 ∧ 1 ≤ f ∧ f ≤ 28 ∧ 1 ≤ o ∧ o ≤ 6 ∧ 0 < m ∧ m ≤ allN f ∧ andn v m = 0 ∧ (o ≤ 2 ∨ m = allN f))
instance (k f o v m : Int) (n : Nat) : Decidable (nodeP k f o v m n) := by unfold nodeP; infer_instance
mutual
def okE : Int → E → Bool
  | d, .mk k f o v m z ps => decide (d ≤ 64) && (okEs (d + 1) ps && decide (nodeP k f o v m ps.length))
def okEs : Int → List E → Bool
  | _, [] => true
  | d, e :: r => okE d e && okEs d r
end
theorem okEs_drop (d : Int) {ps : List E} {i : Nat} {q : E} (h : ps[i]? = some q) : okEs d (ps.drop i) = (okE d q && okEs d (ps.drop (i + 1))) := by
  obtain ⟨hi, rfl⟩ := List.getElem?_eq_some_iff.1 h
  rw [List.drop_eq_getElem_cons hi, okEs]
theorem hpB : (∀ n : Nat, (n == n) = true) ∧ (∀ a b : Nat, a ≠ b → (a == b) = false) := ⟨fun n => by simp, fun a b h => by simpa using h⟩
/-- The part at a place. -/
theorem part_at {ps : List E} {i : Nat} (h : i < ps.length) : ∃ k f o v m z qs, ps[i]? = some (.mk k f o v m z qs) ∧ (E.cs ps)[i]? = some (.agg [.int .i64 k, .int .i64 f, .int .i64 o, .int .u64 v, .int .u64 m, .sl (tipB z) (E.cs qs)]) ∧ E.mk k f o v m z qs ∈ ps := by
  have hq : ps[i]? = some ps[i] := List.getElem?_eq_getElem h
  cases hp : ps[i] with
  | mk k f o v m z qs =>
    rw [hp] at hq
    exact ⟨k, f, o, v, m, z, qs, hq, by rw [cs_get, hq]; simp only [Option.map_some, E.c], List.mem_of_getElem? hq⟩
theorem szOk_cs (ps : List E) : szOk 6 (E.cs ps) = true := by
  cases ps with
  | nil => rfl
  | cons e r => cases e; simp [E.cs, E.c, szOk, ncells]
theorem unL : (∀ k n, unown (.int k n) = .int k n) ∧ (∀ b, unown (.bool b) = .bool b) := ⟨fun _ _ => rfl, fun _ => rfl⟩
theorem zvE : zeroV cx 25 = some (.agg [.int .i64 0, .int .i64 0, .int .i64 0, .int .u64 0, .int .u64 0, .sl .full []]) ∧ (∀ cs, cellsOf (.agg cs) = some cs) := ⟨by rfl, fun _ => rfl⟩
theorem len_max {n : Nat} (h : n * 64 ≤ 2 ^ 47) : (n : Int) ≤ 2199023255552 := by omega

set_option maxHeartbeats 8000000 in
theorem rightS : ∀ e : E, e.Ok → ∀ d : Int, 0 ≤ d → d ≤ 100 → ∀ st, FnS cx 24 [e.c, .int .i64 d] st (.bool (okE d e)) st := by
  refine E.ind fun k f o v m z ps ih => ?_
  intro hok d hd1 hd2 st
  obtain ⟨hk, hf, ho, hv, hm, hl, hpo⟩ := hok
  have hu := unown_c (.mk k f o v m z ps)
  have hp := E.pure (.mk k f o v m z ps)
  have hcl := cs_len ps
  have hso := szOk_cs ps
  refine goP Tryz.func24 rfl rfl rfl rfl ?_ ?_
  · simp only [List.map_cons, List.map_nil, hu, unL, pureVs, pureV, hp, Bool.and_self]
  intro t ht
  have a0 : tget t 0 = E.c (.mk k f o v m z ps) := ht 0 _ (by simp only [List.map_cons, hu]; rfl)
  have a1 : tget t 1 = .int .i64 d := ht 1 _ rfl
  clear ht
  rw [E.c] at a0
  have ex := And.intro @a0 (And.intro @a1 (And.intro @hcl (And.intro @hpB @hso)))
  repeat' (first
   | (with_reducible refine isO ?_); first
     | refine mvA (h := ?_)
     | refine asA (h := ?_)
     | refine quA (h := ?_)
     | refine wnA (h := ?_)
     | refine caA (hc := bareS _ _ _ _ _ _ _ _) (h := ?_)
   | (with_reducible refine isG ?_); first
     | refine stA (h := ?_)
     | refine srA (h := ?_)
     | refine swA (h := ?_)
     | refine s1A (h := ?_)
     | refine s0A (h := ?_)
     | refine sgA (h1 := fun _ => ?_) (h0 := fun _ => ?_)
     | refine sbA (h1 := fun _ => ?_) (h0 := fun _ => ?_)
   | (with_reducible refine isP ?_); first
     | refine dqA (h := ?_)
     | refine dqAG (h := ?_)
     | refine dcAG (i := 32) (l := [29]) (hc := (allS _ (by omega) (by omega) _)) (h := ?_)
     | refine dcAG (i := 52) (l := [49]) (hc := (allS _ (by omega) (by omega) _)) (h := ?_)
     | refine dsA (h := ?_)
     | refine dtA (h := ?_)
     | refine dgA (h1 := fun _ => ?_) (h0 := fun _ => ?_)
   | (with_reducible refine isC ?_); first
     | refine ctA (h := ?_)
     | refine cfA (h := ?_)
     | refine cdA (h1 := fun _ => ?_) (h0 := fun _ => ?_)
     | refine cbA (h1 := fun _ => ?_) (h0 := fun _ => ?_)
   | (with_reducible refine isR ?_); first
     | refine Ev.drawn (by decide +kernel) (l := [0, 1, 2, 3, 4, 5, 6, 7, 8, 9, 10, 11, 12, 13, 14, 15, 16, 17, 18, 19, 20, 21, 22, 23, 24, 25, 26, 27, 28, 29, 30, 31, 32, 33, 34, 35, 36, 37, 38, 39, 40, 41, 42, 43, 44, 45, 46, 47, 48, 49, 50, 51, 52, 53, 54, 55, 56]) (by decide +kernel) ?_
   | with_reducible refine Ev.seq ?_
   | with_reducible refine Ev.ops ?_
   | with_reducible refine NxE ?_
   | with_reducible refine BxN ?_
   | with_reducible refine BxX ?_
   | with_reducible refine NxX ?_
   | with_reducible refine NxR ?_
   | with_reducible refine BxR ?_
   | with_reducible refine NxG ?_
   | with_reducible refine BxG ?_
   | with_reducible refine GxR ?_
   | with_reducible refine GxN ?_
   | with_reducible refine GxX ?_
   | with_reducible refine Ev.goto ?_
   | with_reducible refine Ev.block ?_
   | with_reducible refine Ev.skip ?_
   | with_reducible refine Ev.exit ?_
   | with_reducible refine Ev.ret ?_
   | with_reducible refine Ev.label ?_
   | with_reducible refine EvOps.nil ?_
   | with_reducible refine EvPlan.nil ?_
   | (with_reducible refine BxO ?_ ?_; · decide)
   )
  · refine lfA (rl := [.tmp 4]) rfl (hv := by
      simp only [packV, strip, stripAgg, stripCell, List.map_cons, List.map_nil]
      rw [okE, decide_eq_false (by omega)]; rfl) (hp := rfl)
  refine loopT (fun r t st => ∃ (i : Nat) (H : List (Nat × Ob)) (n : Nat), r = ps.length - i ∧ i ≤ ps.length ∧ okEs (d + 1) ps = okEs (d + 1) (ps.drop i) ∧ tget t 1 = .int .i64 d ∧ tget t 2 = .ptr 0 0 ∧ tget t 11 = .sl (tipB z) (E.cs ps) ∧ tget t 12 = .int .i64 (ps.length : Nat) ∧ tget t 13 = .int .i64 i ∧ st = ⟨H, n⟩ ∧ hget H 0 = some (.cells [.int .i64 k, .int .i64 f, .int .i64 o, .int .u64 v, .int .u64 m, .sl (tipB z) (E.cs ps)]) ∧ 0 < n) (n := ps.length) ?_ ?_
  · refine ⟨0, _, _, by omega, by omega, rfl, ?_, ?_, ?_, ?_, ?_, rfl, rfl, by omega⟩
    · simp only [↓evP, ↓tgP, ↓reduceIte, Nat.reduceEqDiff, reduceCtorEq, List.map_cons, List.map_nil, List.nil_append, List.append_nil, List.toList_toArray, a1]
    · simp only [↓evP, ↓tgP, ↓reduceIte, Nat.reduceEqDiff, reduceCtorEq, List.map_cons, List.map_nil, List.nil_append, List.append_nil, List.toList_toArray, a0]
    · simp only [↓evP, ↓tgP, ↓reduceIte, Nat.reduceEqDiff, reduceCtorEq, List.map_cons, List.map_nil, List.nil_append, List.append_nil, List.toList_toArray, a0]
    · simp only [↓evP, ↓tgP, ↓reduceIte, Nat.reduceEqDiff, reduceCtorEq, List.map_cons, List.map_nil, List.nil_append, List.append_nil, List.toList_toArray, a0]
    · simp only [↓evP, ↓tgP, ↓reduceIte, Nat.reduceEqDiff, reduceCtorEq, List.map_cons, List.map_nil, List.nil_append, List.append_nil, List.toList_toArray, a0]; rfl
  rintro r t st ⟨i, H, n, rfl, hi, hF, c1, c2, c11, c12, c13, rfl, h0, hn⟩
  rcases Nat.lt_or_ge i ps.length with hlt | hge
  · obtain ⟨qk, qf, qo, qv, qm, qz, qs, hq, hqc, hqm⟩ := part_at hlt
    have hih := ih _ hqm (hpo _ hqm) (d + 1) (by omega) (by omega)
    rw [E.c] at hih
    have ex := And.intro @c1 (And.intro @c2 (And.intro @c11 (And.intro @c12 (And.intro @c13 (And.intro @h0 (And.intro @hcl (And.intro @hso (And.intro @hqc (And.intro @hpB (And.intro @hpE @zvE))))))))))
    repeat' (first
     | (with_reducible refine isO ?_); first
       | refine mvA (h := ?_)
       | refine asA (h := ?_)
       | refine quA (h := ?_)
       | refine wnA (h := ?_)
       | refine caA (hc := hih _) (h := ?_)
     | (with_reducible refine isG ?_); first
       | refine stA (h := ?_)
       | refine srA (h := ?_)
       | refine swA (h := ?_)
       | refine s1A (h := ?_)
       | refine s0A (h := ?_)
       | refine sgA (h1 := fun _ => ?_) (h0 := fun _ => ?_)
       | refine sbA (h1 := fun _ => ?_) (h0 := fun _ => ?_)
     | (with_reducible refine isP ?_); first
       | refine dqA (h := ?_)
       | refine dqAG (h := ?_)
       | refine dsA (h := ?_)
       | refine dtA (h := ?_)
       | refine dgA (h1 := fun _ => ?_) (h0 := fun _ => ?_)
     | (with_reducible refine isC ?_); first
       | refine ctA (h := ?_)
       | refine cfA (h := ?_)
       | refine cdA (h1 := fun _ => ?_) (h0 := fun _ => ?_)
       | refine cbA (h1 := fun _ => ?_) (h0 := fun _ => ?_)
     | (with_reducible refine isR ?_); first
       | refine Ev.drawn (by decide +kernel) (l := [0, 1, 2, 3, 4, 5, 6, 7, 8, 9, 10, 11, 12, 13, 14, 15, 16, 17, 18, 19, 20, 21, 22, 23, 24, 25, 26, 27, 28, 29, 30, 31, 32, 33, 34, 35, 36, 37, 38, 39, 40, 41, 42, 43, 44, 45, 46, 47, 48, 49, 50, 51, 52, 53, 54, 55, 56]) (by decide +kernel) ?_
     | with_reducible refine Ev.seq ?_
     | with_reducible refine Ev.ops ?_
     | with_reducible refine NxE ?_
     | with_reducible refine BxN ?_
     | with_reducible refine BxX ?_
     | with_reducible refine NxX ?_
     | with_reducible refine NxR ?_
     | with_reducible refine BxR ?_
     | with_reducible refine NxG ?_
     | with_reducible refine BxG ?_
     | with_reducible refine GxR ?_
     | with_reducible refine GxN ?_
     | with_reducible refine GxX ?_
     | with_reducible refine Ev.goto ?_
     | with_reducible refine Ev.block ?_
     | with_reducible refine Ev.skip ?_
     | with_reducible refine Ev.exit ?_
     | with_reducible refine Ev.ret ?_
     | with_reducible refine Ev.label ?_
     | with_reducible refine EvOps.nil ?_
     | with_reducible refine EvPlan.nil ?_
     | (with_reducible refine BxO ?_ ?_; · decide)
     )
    · rename_i hb
      rw [Bool.not_eq_true'] at hb
      refine lfA (rl := [.tmp 4]) rfl (hv := by
      simp only [packV, strip, stripAgg, stripCell, List.map_cons, List.map_nil]
      rw [okE, hF, okEs_drop _ hq, hb]; simp) (hp := rfl)
    · rename_i hb
      rw [Bool.not_eq_false'] at hb
      refine ⟨ps.length - (i + 1), by omega, rfl, i + 1, _, _, rfl, by omega, by rw [hF, okEs_drop _ hq, hb, Bool.true_and], ?_, ?_, ?_, ?_, ?_, rfl, ?_, Nat.succ_pos _⟩
      · simp only [↓evP, ↓tgP, ↓reduceIte, Nat.reduceEqDiff, reduceCtorEq, List.map_cons, List.map_nil, List.nil_append, List.append_nil, List.toList_toArray, c1]
      · simp only [↓evP, ↓tgP, ↓reduceIte, Nat.reduceEqDiff, reduceCtorEq, List.map_cons, List.map_nil, List.nil_append, List.append_nil, List.toList_toArray, c2]
      · simp only [↓evP, ↓tgP, ↓reduceIte, Nat.reduceEqDiff, reduceCtorEq, List.map_cons, List.map_nil, List.nil_append, List.append_nil, List.toList_toArray, c11]
      · simp only [↓evP, ↓tgP, ↓reduceIte, Nat.reduceEqDiff, reduceCtorEq, List.map_cons, List.map_nil, List.nil_append, List.append_nil, List.toList_toArray, c12]
      · simp only [↓evP, ↓tgP, ↓reduceIte, Nat.reduceEqDiff, reduceCtorEq, List.map_cons, List.map_nil, List.nil_append, List.append_nil, List.toList_toArray, c13]; rfl
      · simp (disch := omega) only [hpE, h0]
  · obtain rfl : i = ps.length := by omega
    rw [List.drop_length] at hF
    rw [okEs] at hF
    have hbare := bareS k f o v m z ps
    simp only [E.c] at hbare
    have ex := And.intro @c1 (And.intro @c2 (And.intro @c11 (And.intro @c12 (And.intro @c13 (And.intro @h0 (And.intro @hcl (And.intro @hso (And.intro @hpB @hpE))))))))
    have exd := @andnE
    repeat' (first
     | (with_reducible refine isO ?_); first
       | refine mvA (h := ?_)
       | refine asA (h := ?_)
       | refine quA (h := ?_)
       | refine wnA (h := ?_)
       | refine caA (hc := hbare _) (h := ?_)
     | (with_reducible refine isG ?_); first
       | refine stA (h := ?_)
       | refine srA (h := ?_)
       | refine swA (h := ?_)
       | refine s1A (h := ?_)
       | refine s0A (h := ?_)
       | refine sgA (h1 := fun _ => ?_) (h0 := fun _ => ?_)
       | refine sbA (h1 := fun _ => ?_) (h0 := fun _ => ?_)
     | (with_reducible refine isP ?_); first
       | refine dqA (h := ?_)
       | refine dqAG (h := ?_)
       | refine dcAG (i := 32) (l := [29]) (hc := (allS _ (by omega) (by omega) _)) (h := ?_)
       | refine dcAG (i := 52) (l := [49]) (hc := (allS _ (by omega) (by omega) _)) (h := ?_)
       | refine dsA (h := ?_)
       | refine dtA (h := ?_)
       | refine dgA (h1 := fun _ => ?_) (h0 := fun _ => ?_)
     | (with_reducible refine isC ?_); first
       | refine ctA (h := ?_)
       | refine cfA (h := ?_)
       | refine cdA (h1 := fun _ => ?_) (h0 := fun _ => ?_)
       | refine cbA (h1 := fun _ => ?_) (h0 := fun _ => ?_)
     | (with_reducible refine isR ?_); first
       | refine Ev.drawn (by decide +kernel) (l := [0, 1, 2, 3, 4, 5, 6, 7, 8, 9, 10, 11, 12, 13, 14, 15, 16, 17, 18, 19, 20, 21, 22, 23, 24, 25, 26, 27, 28, 29, 30, 31, 32, 33, 34, 35, 36, 37, 38, 39, 40, 41, 42, 43, 44, 45, 46, 47, 48, 49, 50, 51, 52, 53, 54, 55, 56]) (by decide +kernel) ?_
     | with_reducible refine Ev.seq ?_
     | with_reducible refine Ev.ops ?_
     | with_reducible refine NxE ?_
     | with_reducible refine BxN ?_
     | with_reducible refine BxX ?_
     | with_reducible refine NxX ?_
     | with_reducible refine NxR ?_
     | with_reducible refine BxR ?_
     | with_reducible refine NxG ?_
     | with_reducible refine BxG ?_
     | with_reducible refine GxR ?_
     | with_reducible refine GxN ?_
     | with_reducible refine GxX ?_
     | with_reducible refine Ev.goto ?_
     | with_reducible refine Ev.block ?_
     | with_reducible refine Ev.skip ?_
     | with_reducible refine Ev.exit ?_
     | with_reducible refine Ev.ret ?_
     | with_reducible refine Ev.label ?_
     | with_reducible refine EvOps.nil ?_
     | with_reducible refine EvPlan.nil ?_
     | (with_reducible refine BxO ?_ ?_; · decide)
     )
    all_goals
      refine lfA (rl := [.tmp 4]) rfl (hv := by
      simp only [packV, strip, stripAgg, stripCell, List.map_cons, List.map_nil]
      rw [okE, hF, decide_eq_true (show d ≤ 64 by omega), Bool.true_and, Bool.true_and]; unfold nodeP; (first | (exfalso; omega) | (first | done | rfl | exact congrArg V.bool (decide_eq_decide.2 (by omega)) | exact congrArg V.bool (decide_eq_false (by omega)).symm | exact congrArg V.bool (decide_eq_true (by omega)).symm))) (hp := rfl)
end Go.Proofs.YtklcmgodhpediaaGreatDoor
