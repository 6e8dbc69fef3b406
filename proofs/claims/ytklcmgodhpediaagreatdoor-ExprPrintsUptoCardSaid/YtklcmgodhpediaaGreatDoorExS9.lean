/- Whether a State is as an expression says. -/
import Derived.Test.YtklcmgodhpediaaGreatDoorExS6
import Derived.Test.YtklcmgodhpediaaGreatDoorExG1
set_option linter.unusedSimpArgs false
set_option linter.unusedVariables false
set_option maxRecDepth 100000
namespace Go.Proofs.YtklcmgodhpediaaGreatDoor
open Go Go.Vm Go.Proofs

theorem andE : ∀ a b : Int, intBin .and .u64 a b = some (.int .u64 (and64 a b)) := fun _ _ => rfl
theorem neB : ∀ a b : Bool, eqT cx 9 4 (.bool a) (.bool b) = some (a == b) := by
  intro a b
  cases a <;> cases b <;> rfl
def getV (h : Bool) (r : Int) : V := if h then .tup [.int .u64 r, .int .i64 0] else .tup [.int .u64 0, .int .i64 81]
structure StOk (SC : List V) (Hh : Int → Bool) (R : Int → Int) : Prop where
  own : unown (.agg SC) = .agg SC
  pure : pureVs SC = true
  load : partV cx 41 SC 0 = some (.agg SC)
  get : ∀ f, 1 ≤ f → f ≤ 28 → ∀ st, FnS cx 59 [.agg SC, .int .i64 f] st (getV (Hh f) (R f)) st
  getR : ∀ f, 1 ≤ f → f ≤ 28 → ∀ st, FnS cx 61 [.agg SC, .int .i64 f] st (getV (Hh f) (R f)) st
  has : ∀ f, 1 ≤ f → f ≤ 28 → ∀ st, FnS cx 35 [.agg SC, .int .i64 f] st (.bool (Hh f)) st
section
variable (Hh : Int → Bool) (R : Int → Int)
def isL (f o v m : Int) : Bool := Hh f && decide (soP o (and64 (R f) m) v)
mutual
def holdsN : E → Bool
  | .mk k f o v m _ ps => if k = 1 ∨ k = 2 then decide (k = 1) else if k = 3 then isL Hh R f o v m else if allN2 ps (decide (k = 5)) then decide (k = 5) else decide (k = 6)
def allN2 : List E → Bool → Bool
  | [], _ => true
  | e :: r, b => (holdsN e == b) && allN2 r b
end
theorem allN2_drop (b : Bool) {ps : List E} {i : Nat} {q : E} (h : ps[i]? = some q) : allN2 Hh R (ps.drop i) b = ((holdsN Hh R q == b) && allN2 Hh R (ps.drop (i + 1)) b) := by
  obtain ⟨hi, rfl⟩ := List.getElem?_eq_some_iff.1 h
  rw [List.drop_eq_getElem_cons hi, allN2]
end
theorem eq_false_of_bne {x : Bool} (h : (!x) = true) : x = false := by simpa using h
theorem eq_true_of_bne {x : Bool} (h : (!x) = false) : x = true := by simpa using h
theorem getV_t {f : Int} {SC : List V} {k : FuncId} {r : Int} (h : ∀ st, FnS cx k [.agg SC, .int .i64 f] st (getV true r) st) : ∀ st, FnS cx k [.agg SC, .int .i64 f] st (.tup [.int .u64 r, .int .i64 0]) st := h
theorem getV_f {f : Int} {SC : List V} {k : FuncId} {r : Int} (h : ∀ st, FnS cx k [.agg SC, .int .i64 f] st (getV false r) st) : ∀ st, FnS cx k [.agg SC, .int .i64 f] st (.tup [.int .u64 0, .int .i64 81]) st := h
theorem node_is {k f o v m : Int} {n : Nat} (h : nodeP k f o v m n) (h3 : k = 3) : 1 ≤ f ∧ f ≤ 28 ∧ 1 ≤ o ∧ o ≤ 6 := by unfold nodeP at h; omega
set_option maxHeartbeats 16000000 in
theorem holdsS {SC : List V} {Hh : Int → Bool} {R : Int → Int} (hS : StOk SC Hh R) : ∀ e : E, e.Ok → ∀ d : Int, okE d e = true → ∀ st, FnS cx 30 [e.c, .agg SC] st (.bool (holdsN Hh R e)) st := by
  refine E.ind fun k f o v m z ps ih => ?_
  intro hok d hd st
  obtain ⟨hk, hf, ho, hv, hm, hl, hpo⟩ := hok
  obtain ⟨hd64, hnode, hparts⟩ := okE_parts hd
  have hld := hS.load
  have hu := unown_c (.mk k f o v m z ps)
  have hp := E.pure (.mk k f o v m z ps)
  have hcl := cs_len ps
  have hso := szOk_cs ps
  refine goP Tryz.func30 rfl rfl rfl rfl ?_ ?_
  · simp only [List.map_cons, List.map_nil, hu, unL, pureVs, pureV, hp, hS.own, hS.pure, Bool.and_self]
  intro t ht
  have a0 : tget t 0 = E.c (.mk k f o v m z ps) := ht 0 _ (by simp only [List.map_cons, hu]; rfl)
  have a1 : tget t 1 = .agg SC := ht 1 _ (by simp only [List.map_cons, hS.own]; rfl)
  clear ht
  rw [E.c] at a0
  by_cases h3 : k = 3
  · obtain ⟨f1, f2, o1, o2⟩ := node_is hnode h3
    have hg := hS.get f f1 f2
    cases hh : Hh f <;> rw [hh] at hg
    · have hg := getV_f hg
      have ex := And.intro @a0 (And.intro @a1 (And.intro @hcl (And.intro @hpB (And.intro @hpE (And.intro @hso @zvE)))))
      have exd := And.intro @hld @andE
      repeat' (first
       | (with_reducible refine isO ?_); first | refine mvA (h := ?_) | refine asA (h := ?_) | refine quA (h := ?_) | refine wnA (h := ?_) | refine caA (hc := hg _) (h := ?_)
       | (with_reducible refine isG ?_); first | refine stA (h := ?_) | refine srA (h := ?_) | refine swA (h := ?_) | refine s1A (h := ?_) | refine s0A (h := ?_) | refine sgA (h1 := fun _ => ?_) (h0 := fun _ => ?_) | refine sbA (h1 := fun _ => ?_) (h0 := fun _ => ?_)
       | (with_reducible refine isP ?_); first | refine dqA (h := ?_)
       | (with_reducible refine isC ?_); first | refine ctA (h := ?_) | refine cfA (h := ?_) | refine cdA (h1 := fun _ => ?_) (h0 := fun _ => ?_) | refine cbA (h1 := fun _ => ?_) (h0 := fun _ => ?_)
       | (with_reducible refine isR ?_); first
         | refine Ev.drawn (by decide +kernel) (l := [0, 1, 3, 4, 5, 2, 6]) (by decide +kernel) ?_
       | with_reducible first | refine Ev.seq ?_ | refine Ev.ops ?_ | refine NxE ?_ | refine BxN ?_ | refine BxX ?_ | refine NxX ?_ | refine NxR ?_ | refine BxR ?_ | refine Ev.block ?_ | refine Ev.skip ?_ | refine Ev.exit ?_ | refine Ev.ret ?_ | refine EvOps.nil ?_ | refine EvPlan.nil ?_
       | (with_reducible refine BxO ?_ ?_; · decide)
       )
      all_goals refine lfA (rl := [.tmp 4]) rfl (hv := by
      simp only [packV, strip, stripAgg, stripCell, List.map_cons, List.map_nil]
      rw [holdsN, if_neg (by omega), if_pos h3, isL, hh]; rfl) (hp := rfl)
    · have hg := getV_t hg
      have ex := And.intro @a0 (And.intro @a1 (And.intro @hcl (And.intro @hpB (And.intro @hpE (And.intro @hso @zvE)))))
      have exd := And.intro @hld @andE
      repeat' (first
       | (with_reducible refine isO ?_); first | refine mvA (h := ?_) | refine asA (h := ?_) | refine quA (h := ?_) | refine wnA (h := ?_) | refine caA (hc := hg _) (h := ?_) | refine caA (hc := compS _ _ _ o1 o2 _) (h := ?_)
       | (with_reducible refine isG ?_); first | refine stA (h := ?_) | refine srA (h := ?_) | refine swA (h := ?_) | refine s1A (h := ?_) | refine s0A (h := ?_) | refine sgA (h1 := fun _ => ?_) (h0 := fun _ => ?_) | refine sbA (h1 := fun _ => ?_) (h0 := fun _ => ?_)
       | (with_reducible refine isP ?_); first | refine dqA (h := ?_)
       | (with_reducible refine isC ?_); first | refine ctA (h := ?_) | refine cfA (h := ?_) | refine cdA (h1 := fun _ => ?_) (h0 := fun _ => ?_) | refine cbA (h1 := fun _ => ?_) (h0 := fun _ => ?_)
       | (with_reducible refine isR ?_); first
         | refine Ev.drawn (by decide +kernel) (l := [0, 1, 3, 4, 5, 2, 6]) (by decide +kernel) ?_
       | with_reducible first | refine Ev.seq ?_ | refine Ev.ops ?_ | refine NxE ?_ | refine BxN ?_ | refine BxX ?_ | refine NxX ?_ | refine NxR ?_ | refine BxR ?_ | refine Ev.block ?_ | refine Ev.skip ?_ | refine Ev.exit ?_ | refine Ev.ret ?_ | refine EvOps.nil ?_ | refine EvPlan.nil ?_
       | (with_reducible refine BxO ?_ ?_; · decide)
       )
      all_goals refine lfA (rl := [.tmp 4]) rfl (hv := by
      simp only [packV, strip, stripAgg, stripCell, List.map_cons, List.map_nil]
      rw [holdsN, if_neg (by omega), if_pos h3, isL, hh]; rfl) (hp := rfl)
  have ex := And.intro @a0 (And.intro @a1 (And.intro @hcl (And.intro @hpB (And.intro @hpE (And.intro @hso @zvE)))))
  have exd := And.intro @hld @andE
  repeat' (first
   | (with_reducible refine isO ?_); first | refine mvA (h := ?_) | refine asA (h := ?_) | refine quA (h := ?_) | refine wnA (h := ?_)
   | (with_reducible refine isG ?_); first | refine stA (h := ?_) | refine srA (h := ?_) | refine swA (h := ?_) | refine s1A (h := ?_) | refine s0A (h := ?_) | refine sgA (h1 := fun _ => ?_) (h0 := fun _ => ?_) | refine sbA (h1 := fun _ => ?_) (h0 := fun _ => ?_)
   | (with_reducible refine isP ?_); first | refine dqA (h := ?_)
   | (with_reducible refine isC ?_); first | refine ctA (h := ?_) | refine cfA (h := ?_) | refine cdA (h1 := fun _ => ?_) (h0 := fun _ => ?_) | refine cbA (h1 := fun _ => ?_) (h0 := fun _ => ?_)
   | (with_reducible refine isR ?_); first
     | refine Ev.drawn (by decide +kernel) (l := [0, 1, 3, 4, 5, 2, 6]) (by decide +kernel) ?_
   | with_reducible first | refine Ev.seq ?_ | refine Ev.ops ?_ | refine NxE ?_ | refine BxN ?_ | refine BxX ?_ | refine NxX ?_ | refine NxR ?_ | refine BxR ?_ | refine Ev.block ?_ | refine Ev.skip ?_ | refine Ev.exit ?_ | refine Ev.ret ?_ | refine EvOps.nil ?_ | refine EvPlan.nil ?_
   | (with_reducible refine BxO ?_ ?_; · decide)
   )
  · refine lfA (rl := [.tmp 4]) rfl (hv := by
      simp only [packV, strip, stripAgg, stripCell, List.map_cons, List.map_nil]
      rw [holdsN, if_pos (by omega)]; first | done | rfl | exact congrArg V.bool (decide_eq_decide.2 (by omega)) | exact congrArg V.bool (decide_eq_false (by omega)).symm | exact congrArg V.bool (decide_eq_true (by omega)).symm) (hp := rfl)
  · refine lfA (rl := [.tmp 4]) rfl (hv := by
      simp only [packV, strip, stripAgg, stripCell, List.map_cons, List.map_nil]
      rw [holdsN, if_pos (by omega)]; first | done | rfl | exact congrArg V.bool (decide_eq_decide.2 (by omega)) | exact congrArg V.bool (decide_eq_false (by omega)).symm | exact congrArg V.bool (decide_eq_true (by omega)).symm) (hp := rfl)
  have hfin : holdsN Hh R (.mk k f o v m z ps) = if allN2 Hh R ps (decide (k = 5)) then decide (k = 5) else decide (k = 6) := by rw [holdsN, if_neg (by omega), if_neg h3]
  rw [hfin]
  refine loopT (fun r t st => ∃ (i : Nat) (H : List (Nat × Ob)) (n : Nat), r = ps.length - i ∧ i ≤ ps.length ∧ allN2 Hh R ps (decide (k = 5)) = allN2 Hh R (ps.drop i) (decide (k = 5)) ∧ tget t 2 = .ptr 0 0 ∧ tget t 3 = .ptr 1 0 ∧ tget t 40 = .sl (tipB z) (E.cs ps) ∧ tget t 41 = .int .i64 (ps.length : Nat) ∧ tget t 42 = .int .i64 i ∧ st = ⟨H, n⟩ ∧ hget H 0 = some (.cells [.int .i64 k, .int .i64 f, .int .i64 o, .int .u64 v, .int .u64 m, .sl (tipB z) (E.cs ps)]) ∧ hget H 1 = some (.cells SC) ∧ 2 ≤ n) (n := ps.length) ?_ ?_
  · refine ⟨0, _, _, by omega, by omega, rfl, ?_, ?_, ?_, ?_, ?_, rfl, rfl, rfl, by decide⟩
    · simp only [↓evP, ↓tgP, ↓reduceIte, Nat.reduceEqDiff, reduceCtorEq, List.map_cons, List.map_nil, List.nil_append, List.append_nil, List.toList_toArray, a0]
    · simp only [↓evP, ↓tgP, ↓reduceIte, Nat.reduceEqDiff, reduceCtorEq, List.map_cons, List.map_nil, List.nil_append, List.append_nil, List.toList_toArray, a0]
    · simp only [↓evP, ↓tgP, ↓reduceIte, Nat.reduceEqDiff, reduceCtorEq, List.map_cons, List.map_nil, List.nil_append, List.append_nil, List.toList_toArray, a0]
    · simp only [↓evP, ↓tgP, ↓reduceIte, Nat.reduceEqDiff, reduceCtorEq, List.map_cons, List.map_nil, List.nil_append, List.append_nil, List.toList_toArray, a0]
    · simp only [↓evP, ↓tgP, ↓reduceIte, Nat.reduceEqDiff, reduceCtorEq, List.map_cons, List.map_nil, List.nil_append, List.append_nil, List.toList_toArray, a0]; rfl
  rintro r t st ⟨i, H, n, rfl, hi, hF, c2, c3, c40, c41, c42, rfl, h0, h1, hn⟩
  rcases Nat.lt_or_ge i ps.length with hlt | hge
  · obtain ⟨qk, qf, qo, qv, qm, qz, qs, hq, hqc, hqm⟩ := part_at hlt
    have hih := ih _ hqm (hpo _ hqm) (d + 1) (hparts _ hqm)
    rw [E.c] at hih
    have ex := And.intro @c2 (And.intro @c3 (And.intro @c40 (And.intro @c41 (And.intro @c42 (And.intro @h0 (And.intro @h1 (And.intro @hcl (And.intro @hso (And.intro @hqc (And.intro @hpB (And.intro @hpE (And.intro @zvE @neB))))))))))))
    have exd := @hld
    repeat' (first
     | (with_reducible refine isO ?_); first | refine mvA (h := ?_) | refine asA (h := ?_) | refine quA (h := ?_) | refine wnA (h := ?_)
     | (with_reducible refine isG ?_); first | refine stA (h := ?_) | refine srA (h := ?_) | refine swA (h := ?_) | refine s1A (h := ?_) | refine s0A (h := ?_) | refine sgA (h1 := fun _ => ?_) (h0 := fun _ => ?_) | refine sbA (h1 := fun _ => ?_) (h0 := fun _ => ?_)
     | (with_reducible refine isP ?_); first | refine dqA (h := ?_) | refine dcA (i := 2) (l := [4]) (hc := hih _) (h := ?_)
     | (with_reducible refine isC ?_); first | refine ctA (h := ?_) | refine cfA (h := ?_) | refine cdA (h1 := fun _ => ?_) (h0 := fun _ => ?_) | refine cbA (h1 := fun _ => ?_) (h0 := fun _ => ?_)
     | (with_reducible refine isR ?_); first
       | refine Ev.drawn (by decide +kernel) (l := [0, 1, 3, 4, 5, 2, 6]) (by decide +kernel) ?_
     | with_reducible first | refine Ev.seq ?_ | refine Ev.ops ?_ | refine NxE ?_ | refine BxN ?_ | refine BxX ?_ | refine NxX ?_ | refine NxR ?_ | refine BxR ?_ | refine Ev.block ?_ | refine Ev.skip ?_ | refine Ev.exit ?_ | refine Ev.ret ?_ | refine EvOps.nil ?_ | refine EvPlan.nil ?_
     | (with_reducible refine BxO ?_ ?_; · decide)
     )
    · rename_i hb
      have hb := eq_false_of_bne hb
      refine lfA (rl := [.tmp 4]) rfl (hv := by
      simp only [packV, strip, stripAgg, stripCell, List.map_cons, List.map_nil]
      rw [hF, allN2_drop _ _ _ hq, hb]; rfl) (hp := rfl)
    · rename_i hb
      have hb := eq_true_of_bne hb
      refine ⟨ps.length - (i + 1), by omega, rfl, i + 1, _, _, rfl, by omega, by rw [hF, allN2_drop _ _ _ hq, hb, Bool.true_and], ?_, ?_, ?_, ?_, ?_, rfl, ?_, ?_, by omega⟩
      · simp only [↓evP, ↓tgP, ↓reduceIte, Nat.reduceEqDiff, reduceCtorEq, List.map_cons, List.map_nil, List.nil_append, List.append_nil, List.toList_toArray, c2]
      · simp only [↓evP, ↓tgP, ↓reduceIte, Nat.reduceEqDiff, reduceCtorEq, List.map_cons, List.map_nil, List.nil_append, List.append_nil, List.toList_toArray, c3]
      · simp only [↓evP, ↓tgP, ↓reduceIte, Nat.reduceEqDiff, reduceCtorEq, List.map_cons, List.map_nil, List.nil_append, List.append_nil, List.toList_toArray, c40]
      · simp only [↓evP, ↓tgP, ↓reduceIte, Nat.reduceEqDiff, reduceCtorEq, List.map_cons, List.map_nil, List.nil_append, List.append_nil, List.toList_toArray, c41]
      · simp only [↓evP, ↓tgP, ↓reduceIte, Nat.reduceEqDiff, reduceCtorEq, List.map_cons, List.map_nil, List.nil_append, List.append_nil, List.toList_toArray, c42]; rfl
      · simp (disch := omega) only [hpE, h0]
      · simp (disch := omega) only [hpE, h1]
  · obtain rfl : i = ps.length := by omega
    rw [List.drop_length, allN2] at hF
    have ex := And.intro @c2 (And.intro @c3 (And.intro @c40 (And.intro @c41 (And.intro @c42 (And.intro @h0 (And.intro @h1 (And.intro @hcl (And.intro @hso (And.intro @hpB (And.intro @hpE @zvE))))))))))
    repeat' (first
     | (with_reducible refine isO ?_); first | refine mvA (h := ?_) | refine asA (h := ?_) | refine quA (h := ?_) | refine wnA (h := ?_)
     | (with_reducible refine isG ?_); first | refine stA (h := ?_) | refine srA (h := ?_) | refine swA (h := ?_) | refine s1A (h := ?_) | refine s0A (h := ?_) | refine sgA (h1 := fun _ => ?_) (h0 := fun _ => ?_) | refine sbA (h1 := fun _ => ?_) (h0 := fun _ => ?_)
     | (with_reducible refine isP ?_); first | refine dqA (h := ?_)
     | (with_reducible refine isC ?_); first | refine ctA (h := ?_) | refine cfA (h := ?_) | refine cdA (h1 := fun _ => ?_) (h0 := fun _ => ?_) | refine cbA (h1 := fun _ => ?_) (h0 := fun _ => ?_)
     | (with_reducible refine isR ?_); first
       | refine Ev.drawn (by decide +kernel) (l := [0, 1, 3, 4, 5, 2, 6]) (by decide +kernel) ?_
     | with_reducible first | refine Ev.seq ?_ | refine Ev.ops ?_ | refine NxE ?_ | refine BxN ?_ | refine BxX ?_ | refine NxX ?_ | refine NxR ?_ | refine BxR ?_ | refine Ev.block ?_ | refine Ev.skip ?_ | refine Ev.exit ?_ | refine Ev.ret ?_ | refine EvOps.nil ?_ | refine EvPlan.nil ?_
     | (with_reducible refine BxO ?_ ?_; · decide)
     )
    refine lfA (rl := [.tmp 4]) rfl (hv := by
      simp only [packV, strip, stripAgg, stripCell, List.map_cons, List.map_nil]
      rw [hF]; rfl) (hp := rfl)

end Go.Proofs.YtklcmgodhpediaaGreatDoor
