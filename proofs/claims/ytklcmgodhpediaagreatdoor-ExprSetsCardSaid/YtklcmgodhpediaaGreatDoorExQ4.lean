/- The law ExprSets, walked. -/
import Derived.Test.YtklcmgodhpediaaGreatDoorExQ1
import Derived.Test.YtklcmgodhpediaaGreatDoorExL1
set_option linter.unusedSimpArgs false
set_option linter.unusedVariables false
set_option maxRecDepth 100000
namespace Go.Proofs.YtklcmgodhpediaaGreatDoor.K
open Go Go.Vm Go.Proofs Go.Proofs.YtklcmgodhpediaaGreatDoor

section
variable {Hh : Int → Bool} {R : Int → Int}
theorem is_Ok {o : Int} (ho : 1 ≤ o ∧ o ≤ 6) {v : Nat} (hv : v < 4294967296) : (isE 26 o (v : Nat) 4294967295).Ok := .mk (by omega) (by omega) (by omega) (by omega) (by omega) (by simp) fun p hp => by cases hp
theorem set_Ok {o kd : Int} (ho : 1 ≤ o ∧ o ≤ 6) (hk : kd = 5 ∨ kd = 6) {v : Nat} {r : List Nat} (hv : ∀ x ∈ v :: r, x < 4294967296) (hr : r.length ≤ 1000) : (setE o kd v r).Ok := by
  unfold setE
  cases r with
  | nil => exact is_Ok ho (hv v List.mem_cons_self)
  | cons w r =>
    refine .mk (by omega) (by omega) (by omega) (by omega) (by omega) (by simp at hr ⊢; omega) ?_
    intro q hq
    simp only [List.map_cons, List.mem_cons, List.mem_map] at hq
    rcases hq with rfl | rfl | ⟨x, hx, rfl⟩
    · exact is_Ok ho (hv v List.mem_cons_self)
    · exact is_Ok ho (hv w (by simp))
    · exact is_Ok ho (hv x (by simp [hx]))
theorem is_holdsN {o : Int} {v : Nat} (h26 : Hh 26 = true) (h0 : 0 ≤ R 26) (h1 : R 26 < 4294967296) : holdsR Hh R (isE 26 o (v : Nat) 4294967295) true = !decide (soP o (R 26) v) := by
  unfold isE
  rw [holdsR, if_neg (by decide), if_neg (by decide), if_pos rfl, h26, and_all h0 h1]
  cases decide (soP o (R 26) v) <;> rfl
theorem set_holds3 (h26 : Hh 26 = true) (h0 : 0 ≤ R 26) (h1 : R 26 < 4294967296) (v : Nat) (r : List Nat) : holdsR Hh R (setE 1 6 v r) true = !((v :: r).any fun x => decide (R 26 = x)) := by
  have e : ∀ x : Nat, decide (soP 1 (R 26) x) = decide (R 26 = x) := fun x => by unfold soP; simp
  unfold setE
  cases r with
  | nil => simp only [List.map_nil, jr, is_holdsN h26 h0 h1, e, List.any_cons, List.any_nil, Bool.or_false]
  | cons w r =>
    simp only [List.map_cons, jr]
    rw [holdsR, if_neg (by decide), if_neg (by decide), if_neg (by decide), if_neg (by decide)]
    have ha : allR2 Hh R (isE 26 1 (v : Nat) 4294967295 :: isE 26 1 (w : Nat) 4294967295 :: r.map fun x => isE 26 1 (x : Nat) 4294967295) true true = !((v :: w :: r).any fun x => decide (R 26 = x)) := by
      apply bool_iff
      rw [allR2_iff]
      simp only [List.mem_cons, List.mem_map, List.any_cons, Bool.not_eq_true', Bool.or_eq_false_iff, List.any_eq_false, decide_eq_true_eq, decide_eq_false_iff_not]
      constructor
      · intro h
        have h2 := fun x hx => h (isE 26 1 (x : Nat) 4294967295) hx
        simp only [is_holdsN h26 h0 h1, e, Bool.not_eq_true', decide_eq_false_iff_not] at h2
        exact ⟨h2 v (.inl rfl), h2 w (.inr (.inl rfl)), fun x hx => h2 x (.inr (.inr ⟨x, hx, rfl⟩))⟩
      · rintro ⟨ha, hb, hc⟩ q (rfl | rfl | ⟨x, hx, rfl⟩)
        · rw [is_holdsN h26 h0 h1, e]; simpa using ha
        · rw [is_holdsN h26 h0 h1, e]; simpa using hb
        · rw [is_holdsN h26 h0 h1, e]; simpa using hc x hx
    have e6 : (!(decide ((6 : Int) = 5) == true)) = true := by decide
    rw [e6, ha]
    cases (v :: w :: r).any fun x => decide (R 26 = x) <;> rfl
theorem X_set1 (h26 : Hh 26 = true) (h0 : 0 ≤ R 26) (h1 : R 26 < 4294967296) {v : Nat} {r : List Nat} (hv : ∀ x ∈ v :: r, x < 4294967296) : holdsX Hh R (setE 1 6 v r) = (v :: r).any fun x => decide (R 26 = x) := by
  rw [hold_is Hh R (set_ok (by omega) (.inr rfl) hv (by omega)), set_holds1 h26 h0 h1]
theorem X_set2 (h26 : Hh 26 = true) (h0 : 0 ≤ R 26) (h1 : R 26 < 4294967296) {v : Nat} {r : List Nat} (hv : ∀ x ∈ v :: r, x < 4294967296) : holdsX Hh R (setE 2 5 v r) = !((v :: r).any fun x => decide (R 26 = x)) := by
  rw [hold_is Hh R (set_ok (by omega) (.inl rfl) hv (by omega)), set_holds2 h26 h0 h1]
theorem X_set3 (h26 : Hh 26 = true) (h0 : 0 ≤ R 26) (h1 : R 26 < 4294967296) {v : Nat} {r : List Nat} (hv : ∀ x ∈ v :: r, x < 4294967296) : holdsX Hh R (.mk 4 0 0 0 0 false [setE 1 6 v r]) = !((v :: r).any fun x => decide (R 26 = x)) := by
  have hk : okE 1 (.mk 4 0 0 0 0 false [setE 1 6 v r]) = true := okE_mk (by omega) node_not fun q hq => by
    obtain rfl : q = setE 1 6 v r := by simpa using hq
    exact set_ok (by omega) (.inr rfl) hv (by omega)
  rw [hold_is Hh R hk, holdsR_not Hh R rfl, firstR_at Hh R (q := setE 1 6 v r) rfl]
  exact set_holds3 h26 h0 h1 v r
end
theorem hexT_len {v : Nat} (hv : v < 4294967296) : (hexT v).length ≤ 10 := by
  have := L.hexU_length v 7 (by omega)
  simp only [hexT, List.length_cons]; omega
theorem tail_len : ∀ {r : List Nat}, (∀ x ∈ r, x < 4294967296) → (tailT r).length ≤ 12 * r.length
  | [], _ => by simp [tailT]
  | v :: r, hv => by
    have h1 := hexT_len (hv v List.mem_cons_self)
    have h2 := tail_len (r := r) fun x hx => hv x (List.mem_cons_of_mem _ hx)
    simp only [tailT, List.length_cons, List.length_append]; omega
theorem setT_len {r : List Nat} (hv : ∀ x ∈ r, x < 4294967296) : (setT r).length ≤ 12 * r.length := by
  cases r with
  | nil => simp [setT]
  | cons v r =>
    have h1 := hexT_len (hv v List.mem_cons_self)
    have h2 := tail_len (r := r) fun x hx => hv x (List.mem_cons_of_mem _ hx)
    simp only [setT, List.length_cons, List.length_append]; omega
def u32s (vs : List Nat) : List V := vs.map fun v => .int .u32 (v : Nat)
theorem u32s_len (vs : List Nat) : (u32s vs).length = vs.length := by simp [u32s]
theorem u32s_get {vs : List Nat} {i v : Nat} (h : vs[i]? = some v) : (u32s vs)[i]? = some (.int .u32 (v : Nat)) := by simp [u32s, h]
theorem u32s_ok (vs : List Nat) : szOk 1 (u32s vs) = true := by
  cases vs <;> rfl
theorem u32s_pure : ∀ vs : List Nat, pureVs (u32s vs) = true
  | [] => rfl
  | v :: r => by
    have := u32s_pure r
    simp only [u32s, List.map_cons, pureVs, pureV, Bool.true_and]
    exact this
def anyT (rx : Int) (vs : List Nat) : Bool := vs.any fun x => decide (rx = (x : Nat))
theorem any_snoc (rx : Int) (l : List Nat) (v : Nat) : anyT rx (l ++ [v]) = (anyT rx l || decide (rx = v)) := by simp [anyT, List.any_append]
theorem take_snoc {vs : List Nat} {i v : Nat} (h : vs[i]? = some v) : vs.take (i + 1) = vs.take i ++ [v] := by rw [List.take_add_one, h]; rfl
theorem neB : ∀ a b : Bool, Vm.eqT cx 9 4 (.bool a) (.bool b) = some (a == b) := fun a b => by cases a <;> cases b <;> rfl

set_option maxHeartbeats 16000000 in
theorem lawSets {SC : List V} {Hh : Int → Bool} {R : Int → Int} (hS : StOk SC Hh R) (hld : partV cx 41 SC 0 = some (.agg SC)) {rx : Int} (hl1 : partV cx 28 SC 41 = some (.int .u32 rx)) (h26 : Hh 26 = true) (hR : R 26 = rx) (h0 : 0 ≤ rx) (h1 : rx < 4294967296)
    (z : Bool) (vs : List Nat) (hv : ∀ x ∈ vs, x < 4294967296) (hmax : vs.length ≤ 4611686018427387904) (st : St) : FnS cx 4 [.sl (tipB z) (u32s vs), .agg SC] st (.bool true) st := by
  have hlv := fun st => rt (livesS st)
  have hln := u32s_len vs
  have hso := u32s_ok vs
  have hpu := u32s_pure vs
  have huz : unown (.sl (tipB z) (u32s vs)) = .sl (tipB z) (u32s vs) := by cases z <;> rfl
  have hpz : ∀ xs, pureVs xs = true → pureV (.sl (tipB z) xs) = true := fun xs h => by cases z <;> simp [tipB, pureV, h]
  refine goP Tryz.func4 rfl rfl rfl rfl ?_ ?_
  · simp only [List.map_cons, List.map_nil, huz, hS.own]; show (pureV _ && (pureVs SC && true)) = true; rw [hpz _ hpu, hS.pure]; rfl
  intro t ht
  have a0 : tget t 0 = .sl (tipB z) (u32s vs) := ht 0 _ (by simp only [List.map_cons, huz]; rfl)
  have a1 : tget t 1 = .agg SC := ht 1 _ (by simp only [List.map_cons, hS.own]; rfl)
  clear ht
  clear huz hpz hpu
  by_cases hlo : vs.length < 1
  · have q1 : decide ((vs.length : Int) < 1) = true := by simp; omega
    have ex := And.intro @a0 (And.intro @a1 (And.intro @hln (And.intro @hpB (And.intro @hpK (And.intro @zvE @q1)))))
    repeat' (first
     | (with_reducible refine isO ?_); first
       | refine mvA (h := ?_)
       | refine asA (h := ?_)
       | refine quA (h := ?_)
       | refine wnA (h := ?_)
       | refine caA (hc := hlv _) (h := ?_)
     | (with_reducible refine isG ?_); first
       | refine stA (h := ?_)
       | refine srA (h := ?_)
       | refine swA (h := ?_)
       | refine s1A (h := ?_)
       | refine s0A (h := ?_)
       | refine sgA (h1 := fun _ => ?_) (h0 := fun _ => ?_)
       | refine sbA (h1 := fun _ => ?_) (h0 := fun _ => ?_)
     | (with_reducible refine isP ?_); first
       | refine dqA (h := ?_)
       | refine dqAG (h := ?_)
       | refine dlA (i := 11) (l := []) (h := ?_)
       | refine dsA (h := ?_)
       | refine dtA (h := ?_)
       | refine dgA (h1 := fun _ => ?_) (h0 := fun _ => ?_)
     | (with_reducible refine isC ?_); first
       | refine ctA (h := ?_)
       | refine cfA (h := ?_)
       | refine cdA (h1 := fun _ => ?_) (h0 := fun _ => ?_)
       | refine cbA (h1 := fun _ => ?_) (h0 := fun _ => ?_)
     | (with_reducible refine isR ?_); first
       | refine Ev.drawn (by decide +kernel) (l := [0, 1, 2, 3, 4, 5, 6, 7, 8, 9, 10, 11]) (by decide +kernel) ?_
     | with_reducible refine Ev.seq ?_
     | with_reducible refine Ev.ops ?_
     | with_reducible refine NxE ?_
     | with_reducible refine BxN ?_
     | with_reducible refine BxX ?_
     | with_reducible refine NxX ?_
     | with_reducible refine NxR ?_
     | with_reducible refine BxR ?_
     | with_reducible refine NxG ?_
     | with_reducible refine BxG ?_
     | with_reducible refine GxR ?_
     | with_reducible refine GxN ?_
     | with_reducible refine GxX ?_
     | with_reducible refine Ev.goto ?_
     | with_reducible refine Ev.block ?_
     | with_reducible refine Ev.skip ?_
     | with_reducible refine Ev.exit ?_
     | with_reducible refine Ev.ret ?_
     | with_reducible refine Ev.label ?_
     | with_reducible refine EvOps.nil ?_
     | with_reducible refine EvPlan.nil ?_
     | (with_reducible refine BxO ?_ ?_; · decide)
     )
    all_goals refine lfA (rl := [.tmp 4]) rfl (hv := by
      simp only [packV, strip, stripAgg, stripCell, List.map_cons, List.map_nil]
      first | done | rfl) (hp := rfl)
  have q1 : decide ((vs.length : Int) < 1) = false := by simp; omega
  by_cases hhi : vs.length > 100
  · have q2 : decide ((vs.length : Int) > 100) = true := by simp; omega
    have ex := And.intro @a0 (And.intro @a1 (And.intro @hln (And.intro @hpB (And.intro @hpK (And.intro @zvE (And.intro @q1 @q2))))))
    repeat' (first
     | (with_reducible refine isO ?_); first
       | refine mvA (h := ?_)
       | refine asA (h := ?_)
       | refine quA (h := ?_)
       | refine wnA (h := ?_)
       | refine caA (hc := hlv _) (h := ?_)
     | (with_reducible refine isG ?_); first
       | refine stA (h := ?_)
       | refine srA (h := ?_)
       | refine swA (h := ?_)
       | refine s1A (h := ?_)
       | refine s0A (h := ?_)
       | refine sgA (h1 := fun _ => ?_) (h0 := fun _ => ?_)
       | refine sbA (h1 := fun _ => ?_) (h0 := fun _ => ?_)
     | (with_reducible refine isP ?_); first
       | refine dqA (h := ?_)
       | refine dqAG (h := ?_)
       | refine dlA (i := 11) (l := []) (h := ?_)
       | refine dsA (h := ?_)
       | refine dtA (h := ?_)
       | refine dgA (h1 := fun _ => ?_) (h0 := fun _ => ?_)
     | (with_reducible refine isC ?_); first
       | refine ctA (h := ?_)
       | refine cfA (h := ?_)
       | refine cdA (h1 := fun _ => ?_) (h0 := fun _ => ?_)
       | refine cbA (h1 := fun _ => ?_) (h0 := fun _ => ?_)
     | (with_reducible refine isR ?_); first
       | refine Ev.drawn (by decide +kernel) (l := [0, 1, 2, 3, 4, 5, 6, 7, 8, 9, 10, 11]) (by decide +kernel) ?_
     | with_reducible refine Ev.seq ?_
     | with_reducible refine Ev.ops ?_
     | with_reducible refine NxE ?_
     | with_reducible refine BxN ?_
     | with_reducible refine BxX ?_
     | with_reducible refine NxX ?_
     | with_reducible refine NxR ?_
     | with_reducible refine BxR ?_
     | with_reducible refine NxG ?_
     | with_reducible refine BxG ?_
     | with_reducible refine GxR ?_
     | with_reducible refine GxN ?_
     | with_reducible refine GxX ?_
     | with_reducible refine Ev.goto ?_
     | with_reducible refine Ev.block ?_
     | with_reducible refine Ev.skip ?_
     | with_reducible refine Ev.exit ?_
     | with_reducible refine Ev.ret ?_
     | with_reducible refine Ev.label ?_
     | with_reducible refine EvOps.nil ?_
     | with_reducible refine EvPlan.nil ?_
     | (with_reducible refine BxO ?_ ?_; · decide)
     )
    all_goals refine lfA (rl := [.tmp 4]) rfl (hv := by
      simp only [packV, strip, stripAgg, stripCell, List.map_cons, List.map_nil]
      first | done | rfl) (hp := rfl)
  have q2 : decide ((vs.length : Int) > 100) = false := by simp; omega
  have ex := And.intro @a0 (And.intro @a1 (And.intro @hln (And.intro @hpB (And.intro @hpK (And.intro @zvE (And.intro @q1 @q2))))))
  repeat' (first
   | (with_reducible refine isO ?_); first
     | refine mvA (h := ?_)
     | refine asA (h := ?_)
     | refine quA (h := ?_)
     | refine wnA (h := ?_)
     | refine caA (hc := hlv _) (h := ?_)
   | (with_reducible refine isG ?_); first
     | refine stA (h := ?_)
     | refine srA (h := ?_)
     | refine swA (h := ?_)
     | refine s1A (h := ?_)
     | refine s0A (h := ?_)
     | refine sgA (h1 := fun _ => ?_) (h0 := fun _ => ?_)
     | refine sbA (h1 := fun _ => ?_) (h0 := fun _ => ?_)
   | (with_reducible refine isP ?_); first
     | refine dqA (h := ?_)
     | refine dqAG (h := ?_)
     | refine dlA (i := 11) (l := []) (h := ?_)
     | refine dsA (h := ?_)
     | refine dtA (h := ?_)
     | refine dgA (h1 := fun _ => ?_) (h0 := fun _ => ?_)
   | (with_reducible refine isC ?_); first
     | refine ctA (h := ?_)
     | refine cfA (h := ?_)
     | refine cdA (h1 := fun _ => ?_) (h0 := fun _ => ?_)
     | refine cbA (h1 := fun _ => ?_) (h0 := fun _ => ?_)
   | (with_reducible refine isR ?_); first
     | refine Ev.drawn (by decide +kernel) (l := [0, 1, 2, 3, 4, 5, 6, 7, 8, 9, 10, 11]) (by decide +kernel) ?_
   | with_reducible refine Ev.seq ?_
   | with_reducible refine Ev.ops ?_
   | with_reducible refine NxE ?_
   | with_reducible refine BxN ?_
   | with_reducible refine BxX ?_
   | with_reducible refine NxX ?_
   | with_reducible refine NxR ?_
   | with_reducible refine BxR ?_
   | with_reducible refine NxG ?_
   | with_reducible refine BxG ?_
   | with_reducible refine GxR ?_
   | with_reducible refine GxN ?_
   | with_reducible refine GxX ?_
   | with_reducible refine Ev.goto ?_
   | with_reducible refine Ev.block ?_
   | with_reducible refine Ev.skip ?_
   | with_reducible refine Ev.exit ?_
   | with_reducible refine Ev.ret ?_
   | with_reducible refine Ev.label ?_
   | with_reducible refine EvOps.nil ?_
   | with_reducible refine EvPlan.nil ?_
   | (with_reducible refine BxO ?_ ?_; · decide)
   )
  refine loopT (fun r t st => ∃ (i : Nat), r = vs.length - i ∧ i ≤ vs.length ∧ tget t 0 = .sl (tipB z) (u32s vs) ∧ tget t 3 = .ptr 0 0 ∧ tget t 5 = .str (setT (vs.take i)) ∧ tget t 6 = .bool (anyT rx (vs.take i)) ∧ tget t 7 = .int .i64 (i : Nat) ∧ st = ⟨[(0, .cells SC)], 1⟩) (n := vs.length) ?_ ?_
  · refine ⟨0, by omega, by omega, ?_, ?_, ?_, ?_, ?_, rfl⟩
    · simp only [↓evP, ↓tgP, ↓reduceIte, Nat.reduceEqDiff, reduceCtorEq, List.map_cons, List.map_nil, List.nil_append, List.append_nil, List.toList_toArray, a0]
    · simp only [↓evP, ↓tgP, ↓reduceIte, Nat.reduceEqDiff, reduceCtorEq, List.map_cons, List.map_nil, List.nil_append, List.append_nil, List.toList_toArray, a0]
    · simp only [↓evP, ↓tgP, ↓reduceIte, Nat.reduceEqDiff, reduceCtorEq, List.map_cons, List.map_nil, List.nil_append, List.append_nil, List.toList_toArray, a0]; rfl
    · simp only [↓evP, ↓tgP, ↓reduceIte, Nat.reduceEqDiff, reduceCtorEq, List.map_cons, List.map_nil, List.nil_append, List.append_nil, List.toList_toArray, a0]; rfl
    · simp only [↓evP, ↓tgP, ↓reduceIte, Nat.reduceEqDiff, reduceCtorEq, List.map_cons, List.map_nil, List.nil_append, List.append_nil, List.toList_toArray, a0]; rfl
  clear a0 a1
  rintro r t st ⟨i, hr, hi, c0, c3, c5, c6, c7, rfl⟩
  rcases Nat.lt_or_ge i vs.length with hlt | hge
  · have hlt2 : decide ((i : Int) < (vs.length : Int)) = true := by simp; omega
    obtain ⟨v, hq⟩ : ∃ v, vs[i]? = some v := ⟨vs[i], by simp [hlt]⟩
    have hqc := u32s_get hq
    have hvv : v < 4294967296 := hv v (List.mem_of_getElem? hq)
    have hhx := hexS v hvv
    have htk := take_snoc hq
    have hle := setT_len (r := vs.take i) fun x hx => hv x (List.mem_of_mem_take hx)
    have hle2 := hexT_len hvv
    rw [List.length_take] at hle
    have hle3 : (setT (vs.take i)).length ≤ 1200 := by omega
    clear hle
    have hle4 : (setT (vs.take i)).length + 2 + (hexT v).length ≤ 4611686018427387904 := by omega
    have hle5 : (setT (vs.take i)).length + 2 ≤ 4611686018427387904 := by omega
    have hany : anyT rx (vs.take (i + 1)) = (anyT rx (vs.take i) || decide (rx = v)) := by rw [htk, any_snoc]
    have hcm : decide ((v : Int) = rx) = decide (rx = (v : Int)) := by simp [eq_comm]
    rcases Nat.eq_zero_or_pos i with h0i | hpi
    · subst h0i
      have hset : setT (vs.take (0 + 1)) = hexT v := by rw [htk]; simp [setT, tailT]
      have e0 : setT (vs.take 0) = [] := rfl
      have e1 : anyT rx (vs.take 0) = false := rfl
      rw [e0] at c5
      rw [e1] at c6 hany
      rw [Bool.false_or, ← hcm] at hany
      have hgi : decide (((0 : Nat) : Int) > 0) = false := by decide
      generalize hexT v = hx at hhx hle2 hle4 hset
      generalize hdc : decide ((v : Int) = rx) = dc at hany
      have ex := And.intro @c0 (And.intro @c3 (And.intro @c5 (And.intro @c6 (And.intro @c7 (And.intro @hln (And.intro @hso (And.intro @hqc (And.intro @hpB (And.intro @hpK (And.intro @zvE (And.intro @hlt2 (And.intro @hgi @hdc))))))))))))
      have exd := @hl1
      repeat' (first
       | (with_reducible refine isO ?_); first
         | refine mvA (h := ?_)
         | refine asA (h := ?_)
         | refine quA (h := ?_)
         | refine wnA (h := ?_)
         | refine caA (hc := hhx _) (h := ?_)
       | (with_reducible refine isG ?_); first
         | refine stA (h := ?_)
         | refine srA (h := ?_)
         | refine swA (h := ?_)
         | refine s1A (h := ?_)
         | refine s0A (h := ?_)
         | refine sgA (h1 := fun _ => ?_) (h0 := fun _ => ?_)
         | refine sbA (h1 := fun _ => ?_) (h0 := fun _ => ?_)
       | (with_reducible refine isP ?_); first
         | refine dqA (h := ?_)
         | refine dqAG (h := ?_)
         | refine dlA (i := 11) (l := []) (h := ?_)
         | refine dsA (h := ?_)
         | refine dtA (h := ?_)
         | refine dgA (h1 := fun _ => ?_) (h0 := fun _ => ?_)
       | (with_reducible refine isC ?_); first
         | refine ctA (h := ?_)
         | refine cfA (h := ?_)
         | refine cdA (h1 := fun _ => ?_) (h0 := fun _ => ?_)
         | refine cbA (h1 := fun _ => ?_) (h0 := fun _ => ?_)
       | (with_reducible refine isR ?_); first
         | refine Ev.drawn (by decide +kernel) (l := [0, 1, 2, 3, 4, 5, 6, 7, 8, 9, 10, 11]) (by decide +kernel) ?_
       | with_reducible refine Ev.seq ?_
       | with_reducible refine Ev.ops ?_
       | with_reducible refine NxE ?_
       | with_reducible refine BxN ?_
       | with_reducible refine BxX ?_
       | with_reducible refine NxX ?_
       | with_reducible refine NxR ?_
       | with_reducible refine BxR ?_
       | with_reducible refine NxG ?_
       | with_reducible refine BxG ?_
       | with_reducible refine GxR ?_
       | with_reducible refine GxN ?_
       | with_reducible refine GxX ?_
       | with_reducible refine Ev.goto ?_
       | with_reducible refine Ev.block ?_
       | with_reducible refine Ev.skip ?_
       | with_reducible refine Ev.exit ?_
       | with_reducible refine Ev.ret ?_
       | with_reducible refine Ev.label ?_
       | with_reducible refine EvOps.nil ?_
       | with_reducible refine EvPlan.nil ?_
       | (with_reducible refine BxO ?_ ?_; · decide)
       )
      refine ⟨vs.length - (0 + 1), by omega, rfl, 0 + 1, rfl, by omega, ?_, ?_, ?_, ?_, ?_, rfl⟩
      · simp only [↓evP, ↓tgP, ↓reduceIte, Nat.reduceEqDiff, reduceCtorEq, List.map_cons, List.map_nil, List.nil_append, List.append_nil, List.toList_toArray, c0]
      · simp only [↓evP, ↓tgP, ↓reduceIte, Nat.reduceEqDiff, reduceCtorEq, List.map_cons, List.map_nil, List.nil_append, List.append_nil, List.toList_toArray, c3]
      · simp only [↓evP, ↓tgP, ↓reduceIte, Nat.reduceEqDiff, reduceCtorEq, List.map_cons, List.map_nil, List.nil_append, List.append_nil, List.toList_toArray, c5]; rw [hset]
      · simp only [↓evP, ↓tgP, ↓reduceIte, Nat.reduceEqDiff, reduceCtorEq, List.map_cons, List.map_nil, List.nil_append, List.append_nil, List.toList_toArray, c6]; rw [hany]
      · simp only [↓evP, ↓tgP, ↓reduceIte, Nat.reduceEqDiff, reduceCtorEq, List.map_cons, List.map_nil, List.nil_append, List.append_nil, List.toList_toArray, c7]; rfl
    · have hset : setT (vs.take (i + 1)) = setT (vs.take i) ++ [44, 32] ++ hexT v := by
        rw [htk, set_snoc]
        intro hn
        have := congrArg List.length hn
        rw [List.length_take, List.length_nil] at this; omega
      rw [← hcm] at hany
      have hgi : decide ((i : Int) > 0) = true := decide_eq_true (by omega)
      generalize hexT v = hx at hhx hle2 hle4 hset
      generalize hSV : setT (vs.take i) = sv at c5 hle3 hle4 hle5 hset
      generalize hdc : decide ((v : Int) = rx) = dc at hany
      have hq3 : (sv ++ [44, 32]).length + hx.length ≤ 4611686018427387904 := by rw [List.length_append]; simp only [List.length_cons, List.length_nil]; omega
      cases hB : anyT rx (vs.take i)
      · rw [hB] at c6 hany
        rw [Bool.false_or] at hany
        have ex := And.intro @c0 (And.intro @c3 (And.intro @c5 (And.intro @c6 (And.intro @c7 (And.intro @hln (And.intro @hso (And.intro @hqc (And.intro @hpB (And.intro @hpK (And.intro @zvE (And.intro @hlt2 (And.intro @hgi @hdc))))))))))))
        have exd := @hl1
        repeat' (first
         | (with_reducible refine isO ?_); first
           | refine mvA (h := ?_)
           | refine asA (h := ?_)
           | refine quA (h := ?_)
           | refine wnA (h := ?_)
           | refine caA (hc := hhx _) (h := ?_)
         | (with_reducible refine isG ?_); first
           | refine stA (h := ?_)
           | refine srA (h := ?_)
           | refine swA (h := ?_)
           | refine s1A (h := ?_)
           | refine s0A (h := ?_)
           | refine sgA (h1 := fun _ => ?_) (h0 := fun _ => ?_)
           | refine sbA (h1 := fun _ => ?_) (h0 := fun _ => ?_)
         | (with_reducible refine isP ?_); first
           | refine dqA (h := ?_)
           | refine dqAG (h := ?_)
           | refine dlA (i := 11) (l := []) (h := ?_)
           | refine dsA (h := ?_)
           | refine dtA (h := ?_)
           | refine dgA (h1 := fun _ => ?_) (h0 := fun _ => ?_)
         | (with_reducible refine isC ?_); first
           | refine ctA (h := ?_)
           | refine cfA (h := ?_)
           | refine cdA (h1 := fun _ => ?_) (h0 := fun _ => ?_)
           | refine cbA (h1 := fun _ => ?_) (h0 := fun _ => ?_)
         | (with_reducible refine isR ?_); first
           | refine Ev.drawn (by decide +kernel) (l := [0, 1, 2, 3, 4, 5, 6, 7, 8, 9, 10, 11]) (by decide +kernel) ?_
         | with_reducible refine Ev.seq ?_
         | with_reducible refine Ev.ops ?_
         | with_reducible refine NxE ?_
         | with_reducible refine BxN ?_
         | with_reducible refine BxX ?_
         | with_reducible refine NxX ?_
         | with_reducible refine NxR ?_
         | with_reducible refine BxR ?_
         | with_reducible refine NxG ?_
         | with_reducible refine BxG ?_
         | with_reducible refine GxR ?_
         | with_reducible refine GxN ?_
         | with_reducible refine GxX ?_
         | with_reducible refine Ev.goto ?_
         | with_reducible refine Ev.block ?_
         | with_reducible refine Ev.skip ?_
         | with_reducible refine Ev.exit ?_
         | with_reducible refine Ev.ret ?_
         | with_reducible refine Ev.label ?_
         | with_reducible refine EvOps.nil ?_
         | with_reducible refine EvPlan.nil ?_
         | (with_reducible refine BxO ?_ ?_; · decide)
         )
        refine ⟨vs.length - (i + 1), by omega, rfl, i + 1, rfl, by omega, ?_, ?_, ?_, ?_, ?_, rfl⟩
        · simp only [↓evP, ↓tgP, ↓reduceIte, Nat.reduceEqDiff, reduceCtorEq, List.map_cons, List.map_nil, List.nil_append, List.append_nil, List.toList_toArray, c0]
        · simp only [↓evP, ↓tgP, ↓reduceIte, Nat.reduceEqDiff, reduceCtorEq, List.map_cons, List.map_nil, List.nil_append, List.append_nil, List.toList_toArray, c3]
        · simp only [↓evP, ↓tgP, ↓reduceIte, Nat.reduceEqDiff, reduceCtorEq, List.map_cons, List.map_nil, List.nil_append, List.append_nil, List.toList_toArray, c5]; rw [hset]
        · simp only [↓evP, ↓tgP, ↓reduceIte, Nat.reduceEqDiff, reduceCtorEq, List.map_cons, List.map_nil, List.nil_append, List.append_nil, List.toList_toArray, c6]; rw [hany]
        · simp only [↓evP, ↓tgP, ↓reduceIte, Nat.reduceEqDiff, reduceCtorEq, List.map_cons, List.map_nil, List.nil_append, List.append_nil, List.toList_toArray, c7]; rfl
      · rw [hB] at c6 hany
        rw [Bool.true_or] at hany
        have ex := And.intro @c0 (And.intro @c3 (And.intro @c5 (And.intro @c6 (And.intro @c7 (And.intro @hln (And.intro @hso (And.intro @hqc (And.intro @hpB (And.intro @hpK (And.intro @zvE (And.intro @hlt2 (And.intro @hgi @hdc))))))))))))
        have exd := @hl1
        repeat' (first
         | (with_reducible refine isO ?_); first
           | refine mvA (h := ?_)
           | refine asA (h := ?_)
           | refine quA (h := ?_)
           | refine wnA (h := ?_)
           | refine caA (hc := hhx _) (h := ?_)
         | (with_reducible refine isG ?_); first
           | refine stA (h := ?_)
           | refine srA (h := ?_)
           | refine swA (h := ?_)
           | refine s1A (h := ?_)
           | refine s0A (h := ?_)
           | refine sgA (h1 := fun _ => ?_) (h0 := fun _ => ?_)
           | refine sbA (h1 := fun _ => ?_) (h0 := fun _ => ?_)
         | (with_reducible refine isP ?_); first
           | refine dqA (h := ?_)
           | refine dqAG (h := ?_)
           | refine dlA (i := 11) (l := []) (h := ?_)
           | refine dsA (h := ?_)
           | refine dtA (h := ?_)
           | refine dgA (h1 := fun _ => ?_) (h0 := fun _ => ?_)
         | (with_reducible refine isC ?_); first
           | refine ctA (h := ?_)
           | refine cfA (h := ?_)
           | refine cdA (h1 := fun _ => ?_) (h0 := fun _ => ?_)
           | refine cbA (h1 := fun _ => ?_) (h0 := fun _ => ?_)
         | (with_reducible refine isR ?_); first
           | refine Ev.drawn (by decide +kernel) (l := [0, 1, 2, 3, 4, 5, 6, 7, 8, 9, 10, 11]) (by decide +kernel) ?_
         | with_reducible refine Ev.seq ?_
         | with_reducible refine Ev.ops ?_
         | with_reducible refine NxE ?_
         | with_reducible refine BxN ?_
         | with_reducible refine BxX ?_
         | with_reducible refine NxX ?_
         | with_reducible refine NxR ?_
         | with_reducible refine BxR ?_
         | with_reducible refine NxG ?_
         | with_reducible refine BxG ?_
         | with_reducible refine GxR ?_
         | with_reducible refine GxN ?_
         | with_reducible refine GxX ?_
         | with_reducible refine Ev.goto ?_
         | with_reducible refine Ev.block ?_
         | with_reducible refine Ev.skip ?_
         | with_reducible refine Ev.exit ?_
         | with_reducible refine Ev.ret ?_
         | with_reducible refine Ev.label ?_
         | with_reducible refine EvOps.nil ?_
         | with_reducible refine EvPlan.nil ?_
         | (with_reducible refine BxO ?_ ?_; · decide)
         )
        refine ⟨vs.length - (i + 1), by omega, rfl, i + 1, rfl, by omega, ?_, ?_, ?_, ?_, ?_, rfl⟩
        · simp only [↓evP, ↓tgP, ↓reduceIte, Nat.reduceEqDiff, reduceCtorEq, List.map_cons, List.map_nil, List.nil_append, List.append_nil, List.toList_toArray, c0]
        · simp only [↓evP, ↓tgP, ↓reduceIte, Nat.reduceEqDiff, reduceCtorEq, List.map_cons, List.map_nil, List.nil_append, List.append_nil, List.toList_toArray, c3]
        · simp only [↓evP, ↓tgP, ↓reduceIte, Nat.reduceEqDiff, reduceCtorEq, List.map_cons, List.map_nil, List.nil_append, List.append_nil, List.toList_toArray, c5]; rw [hset]
        · simp only [↓evP, ↓tgP, ↓reduceIte, Nat.reduceEqDiff, reduceCtorEq, List.map_cons, List.map_nil, List.nil_append, List.append_nil, List.toList_toArray, c6]; rw [hany]
        · simp only [↓evP, ↓tgP, ↓reduceIte, Nat.reduceEqDiff, reduceCtorEq, List.map_cons, List.map_nil, List.nil_append, List.append_nil, List.toList_toArray, c7]; rfl
  · obtain rfl : i = vs.length := by omega
    have hlt2 : decide ((vs.length : Int) < (vs.length : Int)) = false := by simp
    rw [List.take_length] at c5 c6
    obtain ⟨w, ws, rfl⟩ : ∃ w ws, vs = w :: ws := by
      cases vs with
      | nil => simp at hlo
      | cons w ws => exact ⟨w, ws, rfl⟩
    have hwl : ws.length ≤ 1000 := by simp at hhi; omega
    have hle := setT_len hv
    have hp1 := parse_cmp (o := 1) (.inl rfl) hv (by simp only [cmpT, List.length_append, List.length_cons, List.length_nil, regT, opW, if_pos]; simp at hhi hle ⊢; omega) hwl
    have hp2 := parse_cmp (o := 2) (.inr rfl) hv (by simp only [cmpT, List.length_append, List.length_cons, List.length_nil, regT, opW, if_pos]; simp at hhi hle ⊢; omega) hwl
    have hp3 := parse_not hv (by simp only [cmpT, List.length_append, List.length_cons, List.length_nil, regT, opW, if_pos]; simp at hhi hle ⊢; omega) hwl
    have ho1 := HoldsS hS _ (set_Ok (o := 1) (kd := 6) (by omega) (.inr rfl) hv hwl)
    have ho2 := HoldsS hS _ (set_Ok (o := 2) (kd := 5) (by omega) (.inl rfl) hv hwl)
    have ho3 := HoldsS hS (.mk 4 0 0 0 0 false [setE 1 6 w ws]) (.mk (by omega) (by omega) (by omega) (by omega) (by omega) (by simp) fun q hq => by
      obtain rfl : q = setE 1 6 w ws := by simpa using hq
      exact set_Ok (by omega) (.inr rfl) hv hwl)
    rw [X_set1 h26 (by omega) (by omega) hv] at ho1
    rw [X_set2 h26 (by omega) (by omega) hv] at ho2
    rw [X_set3 h26 (by omega) (by omega) hv] at ho3
    rw [hR] at ho1 ho2 ho3
    rw [show ((w :: ws).any fun x => decide (rx = (x : Nat))) = anyT rx (w :: ws) from rfl] at ho1 ho2 ho3
    have hS1 : (setT (w :: ws)).length ≤ 1200 := by simp only [List.length_cons] at hhi hle ⊢; omega
    generalize hxe1 : setE 1 6 w ws = X1 at ho1 ho3
    rw [show setE ((1 : Nat) : Int) (if 1 = 1 then 6 else 5) w ws = X1 from hxe1] at hp1
    rw [hxe1] at hp3
    generalize hxe2 : setE 2 5 w ws = X2 at ho2
    rw [show setE ((2 : Nat) : Int) (if 2 = 1 then 6 else 5) w ws = X2 from hxe2] at hp2
    generalize E.mk 4 0 0 0 0 false [X1] = X3 at hp3 ho3
    clear hxe1 hxe2
    obtain ⟨x0, x1, x2, x3, x4, x5, hx⟩ := c_six X1
    obtain ⟨y0, y1, y2, y3, y4, y5, hy⟩ := c_six X2
    obtain ⟨z0, z1, z2, z3, z4, z5, hz⟩ := c_six X3
    rw [hx] at hp1 ho1
    rw [hy] at hp2 ho2
    rw [hz] at hp3 ho3
    generalize hsv : setT (w :: ws) = sv at c5 hS1
    have k1 : ∀ st, FnS cx 13 [.str (114 :: 101 :: 103 :: 49 :: 32 :: 61 :: 61 :: 32 :: 123 :: (sv ++ [125])), .sl .full []] st (.tup [.agg [x0, x1, x2, x3, x4, x5], .int .i64 0, .int .i64 0]) st := fun st => by
      have h := rt (hp1 st)
      have e : cmpT 1 (w :: ws) [125] = 114 :: 101 :: 103 :: 49 :: 32 :: 61 :: 61 :: 32 :: 123 :: (sv ++ [125]) := by rw [← hsv]; rfl
      rw [e] at h
      exact h
    have k2 : ∀ st, FnS cx 13 [.str (114 :: 101 :: 103 :: 49 :: 32 :: 33 :: 61 :: 32 :: 123 :: (sv ++ [125])), .sl .full []] st (.tup [.agg [y0, y1, y2, y3, y4, y5], .int .i64 0, .int .i64 0]) st := fun st => by
      have h := rt (hp2 st)
      have e : cmpT 2 (w :: ws) [125] = 114 :: 101 :: 103 :: 49 :: 32 :: 33 :: 61 :: 32 :: 123 :: (sv ++ [125]) := by rw [← hsv]; rfl
      rw [e] at h
      exact h
    have k3 : ∀ st, FnS cx 13 [.str (33 :: 40 :: 114 :: 101 :: 103 :: 49 :: 32 :: 61 :: 61 :: 32 :: 123 :: (sv ++ [125, 41])), .sl .full []] st (.tup [.agg [z0, z1, z2, z3, z4, z5], .int .i64 0, .int .i64 0]) st := fun st => by
      have h := rt (hp3 st)
      have e : 33 :: 40 :: cmpT 1 (w :: ws) [125, 41] = 33 :: 40 :: 114 :: 101 :: 103 :: 49 :: 32 :: 61 :: 61 :: 32 :: 123 :: (sv ++ [125, 41]) := by rw [← hsv]; rfl
      rw [e] at h
      exact h
    have m1 := fun st => rt (ho1 st)
    have m2 := fun st => rt (ho2 st)
    have m3 := fun st => rt (ho3 st)
    clear hp1 hp2 hp3 ho1 ho2 ho3
    generalize anyT rx (w :: ws) = B at c6 m1 m2 m3
    have hq4 : sv.length + 100 ≤ 4611686018427387904 := by omega
    have hq5 : (sv ++ [125]).length ≤ 4611686018427387000 := by rw [List.length_append]; simp only [List.length_cons, List.length_nil]; omega
    cases B
    all_goals
      have ex := And.intro @c0 (And.intro @c3 (And.intro @c5 (And.intro @c6 (And.intro @c7 (And.intro @u32s_len (And.intro @hln (And.intro @hpB (And.intro @hpK (And.intro @zvE (And.intro @hlt2 (And.intro @neB @bbE)))))))))))
      have exd := @hld
      repeat' (first
       | (with_reducible refine isO ?_); first
         | refine mvA (h := ?_)
         | refine asA (h := ?_)
         | refine quA (h := ?_)
         | refine wnA (h := ?_)
         | refine caA (hc := (k1 _)) (h := ?_)
         | refine caA (hc := (k2 _)) (h := ?_)
         | refine caA (hc := (k3 _)) (h := ?_)
         | refine caA (hc := (m1 _)) (h := ?_)
         | refine caA (hc := (m2 _)) (h := ?_)
         | refine caA (hc := (m3 _)) (h := ?_)
       | (with_reducible refine isG ?_); first
         | refine stA (h := ?_)
         | refine srA (h := ?_)
         | refine swA (h := ?_)
         | refine s1A (h := ?_)
         | refine s0A (h := ?_)
         | refine sgA (h1 := fun _ => ?_) (h0 := fun _ => ?_)
         | refine sbA (h1 := fun _ => ?_) (h0 := fun _ => ?_)
       | (with_reducible refine isP ?_); first
         | refine dqA (h := ?_)
         | refine dqAG (h := ?_)
         | refine dlA (i := 11) (l := []) (h := ?_)
         | refine dsA (h := ?_)
         | refine dtA (h := ?_)
         | refine dgA (h1 := fun _ => ?_) (h0 := fun _ => ?_)
       | (with_reducible refine isC ?_); first
         | refine ctA (h := ?_)
         | refine cfA (h := ?_)
         | refine cdA (h1 := fun _ => ?_) (h0 := fun _ => ?_)
         | refine cbA (h1 := fun _ => ?_) (h0 := fun _ => ?_)
       | (with_reducible refine isR ?_); first
         | refine Ev.drawn (by decide +kernel) (l := [0, 1, 2, 3, 4, 5, 6, 7, 8, 9, 10, 11]) (by decide +kernel) ?_
       | with_reducible refine Ev.seq ?_
       | with_reducible refine Ev.ops ?_
       | with_reducible refine NxE ?_
       | with_reducible refine BxN ?_
       | with_reducible refine BxX ?_
       | with_reducible refine NxX ?_
       | with_reducible refine NxR ?_
       | with_reducible refine BxR ?_
       | with_reducible refine NxG ?_
       | with_reducible refine BxG ?_
       | with_reducible refine GxR ?_
       | with_reducible refine GxN ?_
       | with_reducible refine GxX ?_
       | with_reducible refine Ev.goto ?_
       | with_reducible refine Ev.block ?_
       | with_reducible refine Ev.skip ?_
       | with_reducible refine Ev.exit ?_
       | with_reducible refine Ev.ret ?_
       | with_reducible refine Ev.label ?_
       | with_reducible refine EvOps.nil ?_
       | with_reducible refine EvPlan.nil ?_
       | (with_reducible refine BxO ?_ ?_; · decide)
       )
      all_goals refine lfA (rl := [.tmp 4]) rfl (hv := by
      simp only [packV, strip, stripAgg, stripCell, List.map_cons, List.map_nil]
      first | done | rfl) (hp := rfl)
end Go.Proofs.YtklcmgodhpediaaGreatDoor.K
