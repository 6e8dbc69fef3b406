/- Expressions in new memory. -/
import Derived.Test.YtklcmgodhpediaaGreatDoorExS5
set_option linter.unusedSimpArgs false
set_option linter.unusedVariables false
set_option maxRecDepth 100000
namespace Go.Proofs.YtklcmgodhpediaaGreatDoor
open Go Go.Vm Go.Proofs

/-- Are the parts not known to be nil? -/
def E.z : E → Bool | .mk _ _ _ _ _ z _ => z
theorem strip_c {e : E} (h : e.z = false) : stripAgg e.c = e.c := by
  cases e with
  | mk k f o v m z ps => cases z with
    | true => cases h
    | false => rfl
theorem bs23 {e : E} (h : e.z = false) : buildSliceV cx 23 1 [(0, e.c)] = some (.sl .full [e.c]) := by
  cases e with
  | mk k f o v m z ps => cases z with
    | true => cases h
    | false => simp only [E.c]; rfl
theorem hget_hdel_ne : ∀ {H : List (Nat × Ob)} {b c : Nat}, b ≠ c → hget (hdel H b) c = hget H c
  | [], _, _, _ => rfl
  | (i, o) :: r, b, c, h => by
    simp only [hdel]
    split
    · rename_i hi
      have : i = b := by simpa using hi
      have hic : (i == c) = false := by simp; omega
      simp only [hget, hic, Bool.false_eq_true, if_false]
    · simp only [hget, hget_hdel_ne h]
/-- A slice may grow: it is empty, or its room is its own. -/
def okTip (m : Nat) (H : List (Nat × Ob)) (n : Nat) (T : Tip) : Prop := T = .full ∨ ∃ b, T = .own b ∧ hget H b = some (.tip 6) ∧ m ≤ b ∧ b < n
def delT : Tip → List (Nat × Ob) → List (Nat × Ob)
  | .own b, H => hdel H b
  | _, H => H
theorem delT_get {H : List (Nat × Ob)} {n : Nat} {T : Tip} {c m : Nat} (h : okTip m H n T) (hc : c < m) : hget (delT T H) c = hget H c := by
  rcases h with rfl | ⟨b, rfl, _, h3, _⟩
  · rfl
  · exact hget_hdel_ne (by omega)
theorem appT {H : List (Nat × Ob)} {n : Nat} {T : Tip} {xs : List V} {u : Tip} {e : E} {m : Nat} (hT : okTip m H n T) (hz : e.z = false) (hx : szOk 6 xs = true) (hl : (xs.length + 1) * 64 ≤ 2 ^ 47) :
    appendV cx ⟨H, n⟩ 23 (.sl T xs) (.sl u [e.c]) = some (.sl (.own n) (xs ++ [e.c]), ⟨(n, .tip 6) :: delT T H, n + 1⟩) := by
  have hs := strip_c hz
  cases e with
  | mk k f o v m z ps =>
    have e1 : ∀ cs, szOk 6 [V.agg cs] = (cs.length == 6) := fun cs => rfl
    have e2 : szOf cx 25 = some 6 := by decide +kernel
    have e3 : zeroOk cx 25 6 = true := by decide +kernel
    have e4 : byOf cx 25 = 64 := by decide +kernel
    have e5 : cx.mutT 23 = false := rfl
    have hl2 : xs.length + 1 ≤ 2 ^ 47 := by omega
    rcases hT with rfl | ⟨b, rfl, hb, _, _⟩
    · simp only [appendV, addedV, tyE, E.c, e1, e2, e3, e4, e5, hx, List.length_cons, List.length_nil, List.isEmpty_cons, Bool.false_eq_true, if_false, List.map_cons, List.map_nil, delT, Nat.zero_add, Nat.zero_lt_succ, true_and, beq_self_eq_true, if_true, and_self, hl, hl2]
      simp only [E.c] at hs
      rw [hs]
    · simp only [appendV, addedV, tyE, E.c, e1, e2, e3, e4, e5, hx, hb, List.length_cons, List.length_nil, List.isEmpty_cons, Bool.false_eq_true, if_false, List.map_cons, List.map_nil, delT, Nat.zero_add, Nat.zero_lt_succ, true_and, beq_self_eq_true, if_true, and_self, hl, hl2]
      simp only [E.c] at hs
      rw [hs]
mutual
/-- An expression in new memory. -/
def copyE : E → E
  | .mk k f o v m _ ps => .mk k f o v m false (copyEs ps)
def copyEs : List E → List E
  | [] => []
  | e :: r => copyE e :: copyEs r
end
theorem copyEs_map : ∀ ps : List E, copyEs ps = ps.map copyE
  | [] => rfl
  | e :: r => by rw [copyEs, List.map_cons, copyEs_map r]
theorem copy_z (e : E) : (copyE e).z = false := by cases e; rfl
/-- The values of some first parts, and of one more. -/
theorem cs_take (g : E → E) {ps : List E} {i : Nat} {q : E} (h : ps[i]? = some q) : E.cs ((ps.take (i + 1)).map g) = E.cs ((ps.take i).map g) ++ [(g q).c] := by
  rw [List.take_add_one, h]
  simp [E.cs_map]
theorem cs_take_len (g : E → E) {ps : List E} {i : Nat} (h : i ≤ ps.length) : (E.cs ((ps.take i).map g)).length = i := by rw [cs_len]; simp; omega
theorem bool_mul {n i : Nat} (h : n * 64 ≤ 2 ^ 47) (hi : i < n) : (i + 1) * 64 ≤ 2 ^ 47 := by omega

set_option maxHeartbeats 16000000 in
theorem copiedS : ∀ e : E, e.Ok → ∀ st, FnS cx 32 [e.c] st (copyE e).c st := by
  refine E.ind fun k f o v m z ps ih => ?_
  intro hok st
  obtain ⟨hk, hf, ho, hv, hm, hl, hpo⟩ := hok
  have hu := unown_c (.mk k f o v m z ps)
  have hp := E.pure (.mk k f o v m z ps)
  have hcl := cs_len ps
  have hso := szOk_cs ps
  refine goP Tryz.func32 rfl rfl rfl rfl ?_ ?_
  · simp only [List.map_cons, List.map_nil, hu, unL, pureVs, pureV, hp, Bool.and_self]
  intro t ht
  have a0 : tget t 0 = E.c (.mk k f o v m z ps) := ht 0 _ (by simp only [List.map_cons, hu]; rfl)
  clear ht
  rw [E.c] at a0
  have ex := And.intro @a0 (And.intro @hcl (And.intro @hpB (And.intro @hso @zvE)))
  repeat' (first
   | (with_reducible refine isO ?_); first
     | refine mvA (h := ?_)
     | refine asA (h := ?_)
     | refine quA (h := ?_)
     | refine wnA (h := ?_)
   | (with_reducible refine isP ?_); first
     | refine dqA (h := ?_)
     | refine dwA (i := 5) (l := []) (h := ?_)
     | refine dnA (i := 7) (l := []) (h := ?_)
   | (with_reducible refine isC ?_); first
     | refine ctA (h := ?_)
     | refine cfA (h := ?_)
     | refine cdA (h1 := fun _ => ?_) (h0 := fun _ => ?_)
     | refine cbA (h1 := fun _ => ?_) (h0 := fun _ => ?_)
   | (with_reducible refine isR ?_); first
     | refine Ev.drawn (by decide +kernel) (l := [0, 1, 2, 3, 4, 5, 6, 7]) (by decide +kernel) ?_
   | with_reducible refine Ev.seq ?_
   | with_reducible refine Ev.ops ?_
   | with_reducible refine NxE ?_
   | with_reducible refine BxN ?_
   | with_reducible refine BxX ?_
   | with_reducible refine NxX ?_
   | with_reducible refine NxR ?_
   | with_reducible refine BxR ?_
   | with_reducible refine NxG ?_
   | with_reducible refine BxG ?_
   | with_reducible refine GxR ?_
   | with_reducible refine GxN ?_
   | with_reducible refine GxX ?_
   | with_reducible refine Ev.goto ?_
   | with_reducible refine Ev.block ?_
   | with_reducible refine Ev.skip ?_
   | with_reducible refine Ev.exit ?_
   | with_reducible refine Ev.ret ?_
   | with_reducible refine Ev.label ?_
   | with_reducible refine EvOps.nil ?_
   | with_reducible refine EvPlan.nil ?_
   | (with_reducible refine BxO ?_ ?_; · decide)
   )
  refine loopT (fun r t st => ∃ (i : Nat) (H : List (Nat × Ob)) (n : Nat) (T : Tip), r = ps.length - i ∧ i ≤ ps.length ∧ okTip 2 H n T ∧ tget t 1 = .ptr 0 0 ∧ tget t 2 = .ptr 1 0 ∧ tget t 9 = .sl (tipB z) (E.cs ps) ∧ tget t 10 = .int .i64 (ps.length : Nat) ∧ tget t 11 = .int .i64 i ∧ st = ⟨H, n⟩ ∧ hget H 0 = some (.cells [.int .i64 k, .int .i64 f, .int .i64 o, .int .u64 v, .int .u64 m, .sl T (E.cs ((ps.take i).map copyE))]) ∧ (∃ cs, hget H 1 = some (.cells cs) ∧ cs.length = 6) ∧ 2 ≤ n) (n := ps.length) ?_ ?_
  · refine ⟨0, _, _, .full, by omega, by omega, .inl rfl, ?_, ?_, ?_, ?_, ?_, rfl, rfl, ⟨_, rfl, rfl⟩, ?_⟩
    · simp only [↓evP, ↓tgP, ↓reduceIte, Nat.reduceEqDiff, reduceCtorEq, List.map_cons, List.map_nil, List.nil_append, List.append_nil, List.toList_toArray, a0]
    · simp only [↓evP, ↓tgP, ↓reduceIte, Nat.reduceEqDiff, reduceCtorEq, List.map_cons, List.map_nil, List.nil_append, List.append_nil, List.toList_toArray, a0]
    · simp only [↓evP, ↓tgP, ↓reduceIte, Nat.reduceEqDiff, reduceCtorEq, List.map_cons, List.map_nil, List.nil_append, List.append_nil, List.toList_toArray, a0]
    · simp only [↓evP, ↓tgP, ↓reduceIte, Nat.reduceEqDiff, reduceCtorEq, List.map_cons, List.map_nil, List.nil_append, List.append_nil, List.toList_toArray, a0]
    · simp only [↓evP, ↓tgP, ↓reduceIte, Nat.reduceEqDiff, reduceCtorEq, List.map_cons, List.map_nil, List.nil_append, List.append_nil, List.toList_toArray, a0]; rfl
    · decide
  rintro r t st ⟨i, H, n, T, rfl, hi, hT, c1, c2, c9, c10, c11, rfl, h0, ⟨cs1, h1, hl1⟩, hn⟩
  rcases Nat.lt_or_ge i ps.length with hlt | hge
  · obtain ⟨qk, qf, qo, qv, qm, qz, qs, hq, hqc, hqm⟩ := part_at hlt
    have hih := ih _ hqm (hpo _ hqm)
    have hbs := bs23 (copy_z (.mk qk qf qo qv qm qz qs))
    generalize hy : (copyE (.mk qk qf qo qv qm qz qs)).c = y at hih hbs
    rw [E.c] at hih
    have hT2 : okTip 2 ((n, .cells [.int .i64 qk, .int .i64 qf, .int .i64 qo, .int .u64 qv, .int .u64 qm, .sl (tipB qz) (E.cs qs)]) :: H) (n + 1) T := by
      rcases hT with rfl | ⟨b, rfl, hb, hb3, hbn⟩
      · exact .inl rfl
      · exact .inr ⟨b, rfl, by rw [← hb]; exact hpE.2.1 _ _ _ _ (by omega), hb3, by omega⟩
    have hap : ∀ u, appendV cx _ 23 (.sl T (E.cs ((ps.take i).map copyE))) (.sl u [y]) = _ := fun u => hy ▸ appT (u := u) hT2 (copy_z _) (szOk_cs _) (by rw [cs_take_len _ hi]; exact bool_mul hl hlt)
    have hd0 := (delT_get (c := 0) hT2 (by omega)).trans ((hpE.2.1 _ _ _ _ (by omega)).trans h0)
    have hd1 := (delT_get (c := 1) hT2 (by omega)).trans ((hpE.2.1 _ _ _ _ (by omega)).trans h1)
    generalize delT T _ = H2 at hap hd0 hd1
    have ex := And.intro @c1 (And.intro @c2 (And.intro @c9 (And.intro @c10 (And.intro @c11 (And.intro @h0 (And.intro @h1 (And.intro @hcl (And.intro @hso (And.intro @hqc (And.intro @hpB (And.intro @hpE (And.intro @zvE (And.intro @hbs (And.intro @hap (And.intro @hd0 @hd1)))))))))))))))
    repeat' (first
     | (with_reducible refine isO ?_); first
       | refine mvA (h := ?_)
       | refine asA (h := ?_)
       | refine quA (h := ?_)
       | refine wnA (h := ?_)
     | (with_reducible refine isP ?_); first
       | refine dqA (h := ?_)
       | refine dcA (i := 3) (l := [1]) (hc := hih _) (h := ?_)
       | refine dwA (i := 5) (l := []) (h := ?_)
       | refine dnA (i := 7) (l := []) (h := ?_)
     | (with_reducible refine isC ?_); first
       | refine ctA (h := ?_)
       | refine cfA (h := ?_)
       | refine cdA (h1 := fun _ => ?_) (h0 := fun _ => ?_)
       | refine cbA (h1 := fun _ => ?_) (h0 := fun _ => ?_)
     | (with_reducible refine isR ?_); first
       | refine Ev.drawn (by decide +kernel) (l := [0, 1, 2, 3, 4, 5, 6, 7]) (by decide +kernel) ?_
     | with_reducible refine Ev.seq ?_
     | with_reducible refine Ev.ops ?_
     | with_reducible refine NxE ?_
     | with_reducible refine BxN ?_
     | with_reducible refine BxX ?_
     | with_reducible refine NxX ?_
     | with_reducible refine NxR ?_
     | with_reducible refine BxR ?_
     | with_reducible refine NxG ?_
     | with_reducible refine BxG ?_
     | with_reducible refine GxR ?_
     | with_reducible refine GxN ?_
     | with_reducible refine GxX ?_
     | with_reducible refine Ev.goto ?_
     | with_reducible refine Ev.block ?_
     | with_reducible refine Ev.skip ?_
     | with_reducible refine Ev.exit ?_
     | with_reducible refine Ev.ret ?_
     | with_reducible refine Ev.label ?_
     | with_reducible refine EvOps.nil ?_
     | with_reducible refine EvPlan.nil ?_
     | (with_reducible refine BxO ?_ ?_; · decide)
     )
    refine ⟨ps.length - (i + 1), by omega, rfl, i + 1, _, _, .own (n + 1), rfl, by omega, ?_, ?_, ?_, ?_, ?_, ?_, rfl, ?_, ?_, by omega⟩
    · refine .inr ⟨n + 1, rfl, ?_, by omega, by omega⟩
      simp (disch := omega) only [hpE]
    · simp only [↓evP, ↓tgP, ↓reduceIte, Nat.reduceEqDiff, reduceCtorEq, List.map_cons, List.map_nil, List.nil_append, List.append_nil, List.toList_toArray, c1]
    · simp only [↓evP, ↓tgP, ↓reduceIte, Nat.reduceEqDiff, reduceCtorEq, List.map_cons, List.map_nil, List.nil_append, List.append_nil, List.toList_toArray, c2]
    · simp only [↓evP, ↓tgP, ↓reduceIte, Nat.reduceEqDiff, reduceCtorEq, List.map_cons, List.map_nil, List.nil_append, List.append_nil, List.toList_toArray, c9]
    · simp only [↓evP, ↓tgP, ↓reduceIte, Nat.reduceEqDiff, reduceCtorEq, List.map_cons, List.map_nil, List.nil_append, List.append_nil, List.toList_toArray, c10]
    · simp only [↓evP, ↓tgP, ↓reduceIte, Nat.reduceEqDiff, reduceCtorEq, List.map_cons, List.map_nil, List.nil_append, List.append_nil, List.toList_toArray, c11]; rfl
    · simp (disch := omega) only [hpE, hd0, Option.map_some, if_true]
      rw [cs_take copyE hq, hy]
    · simp (disch := omega) only [hpE, hd1]
      rw [if_neg (by omega)]
      exact ⟨_, rfl, hl1⟩
  · obtain rfl : i = ps.length := by omega
    rw [List.take_length] at h0
    have ex := And.intro @c1 (And.intro @c2 (And.intro @c9 (And.intro @c10 (And.intro @c11 (And.intro @h0 (And.intro @h1 (And.intro @hcl (And.intro @hso (And.intro @hpB (And.intro @hpE @zvE))))))))))
    repeat' (first
     | (with_reducible refine isO ?_); first
       | refine mvA (h := ?_)
       | refine asA (h := ?_)
       | refine quA (h := ?_)
       | refine wnA (h := ?_)
     | (with_reducible refine isP ?_); first
       | refine dqA (h := ?_)
       | refine dwA (i := 5) (l := []) (h := ?_)
       | refine dnA (i := 7) (l := []) (h := ?_)
     | (with_reducible refine isC ?_); first
       | refine ctA (h := ?_)
       | refine cfA (h := ?_)
       | refine cdA (h1 := fun _ => ?_) (h0 := fun _ => ?_)
       | refine cbA (h1 := fun _ => ?_) (h0 := fun _ => ?_)
     | (with_reducible refine isR ?_); first
       | refine Ev.drawn (by decide +kernel) (l := [0, 1, 2, 3, 4, 5, 6, 7]) (by decide +kernel) ?_
     | with_reducible refine Ev.seq ?_
     | with_reducible refine Ev.ops ?_
     | with_reducible refine NxE ?_
     | with_reducible refine BxN ?_
     | with_reducible refine BxX ?_
     | with_reducible refine NxX ?_
     | with_reducible refine NxR ?_
     | with_reducible refine BxR ?_
     | with_reducible refine NxG ?_
     | with_reducible refine BxG ?_
     | with_reducible refine GxR ?_
     | with_reducible refine GxN ?_
     | with_reducible refine GxX ?_
     | with_reducible refine Ev.goto ?_
     | with_reducible refine Ev.block ?_
     | with_reducible refine Ev.skip ?_
     | with_reducible refine Ev.exit ?_
     | with_reducible refine Ev.ret ?_
     | with_reducible refine Ev.label ?_
     | with_reducible refine EvOps.nil ?_
     | with_reducible refine EvPlan.nil ?_
     | (with_reducible refine BxO ?_ ?_; · decide)
     )
    refine lfA (rl := [.cell 2 25]) rfl (hv := by
      simp only [packV, strip, stripAgg, stripCell, List.map_cons, List.map_nil]
      rw [copyE, E.c, copyEs_map]; rfl) (hp := (E.pure _))
end Go.Proofs.YtklcmgodhpediaaGreatDoor
