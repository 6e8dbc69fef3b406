/- Are expressions the same, how deep are they, has a State their fields. -/
import Derived.Test.YtklcmgodhpediaaGreatDoorExS9
set_option linter.unusedSimpArgs false
set_option linter.unusedVariables false
set_option maxRecDepth 100000
namespace Go.Proofs.YtklcmgodhpediaaGreatDoor
open Go Go.Vm Go.Proofs

mutual
/-- Two expressions that are the same. -/
def simE : E → E → Prop
  | .mk k f o v m _ ps, .mk k2 f2 o2 v2 m2 _ qs => (k = k2 ∧ f = f2 ∧ o = o2 ∧ v = v2 ∧ m = m2) ∧ simEs ps qs
def simEs : List E → List E → Prop
  | [], [] => True
  | [], _ :: _ => False
  | _ :: _, [] => False
  | e :: r, e2 :: r2 => simE e e2 ∧ simEs r r2
end
theorem simEs_len : ∀ {ps qs : List E}, simEs ps qs → ps.length = qs.length
  | [], [], _ => rfl
  | [], _ :: _, h => h.elim
  | _ :: _, [], h => h.elim
  | e :: r, e2 :: r2, h => by rw [List.length_cons, List.length_cons, simEs_len h.2]
theorem simEs_at : ∀ {ps qs : List E} {i : Nat} {p q : E}, simEs ps qs → ps[i]? = some p → qs[i]? = some q → simE p q
  | [], [], i, p, q, _, h, _ => by simp at h
  | [], _ :: _, i, p, q, h, _, _ => h.elim
  | _ :: _, [], i, p, q, h, _, _ => h.elim
  | e :: r, e2 :: r2, 0, p, q, h, h1, h2 => by simp at h1 h2; subst h1; subst h2; exact h.1
  | e :: r, e2 :: r2, i + 1, p, q, h, h1, h2 => simEs_at h.2 (by simpa using h1) (by simpa using h2)
theorem simEs_of : ∀ (ps : List E) (g : E → E), (∀ q ∈ ps, simE (g q) q) → simEs (ps.map g) ps
  | [], _, _ => trivial
  | e :: r, g, h => ⟨h e (List.mem_cons_self), simEs_of r g fun q hq => h q (List.mem_cons_of_mem _ hq)⟩
theorem sim_refl : ∀ e : E, simE e e := E.ind fun k f o v m z ps ih => ⟨⟨rfl, rfl, rfl, rfl, rfl⟩, by
  have := simEs_of ps (fun q => q) ih
  rwa [List.map_id'] at this⟩
theorem sim_copy : ∀ e : E, simE (copyE e) e := E.ind fun k f o v m z ps ih => by
  rw [copyE, copyEs_map]
  exact ⟨⟨rfl, rfl, rfl, rfl, rfl⟩, simEs_of ps copyE ih⟩
mutual
/-- How deep an expression is. -/
def deepE : E → Int
  | .mk _ _ _ _ _ _ ps => deepEs ps + 1
def deepEs : List E → Int
  | [] => 0
  | e :: r => max (deepE e) (deepEs r)
end
theorem deepEs_snoc : ∀ (l : List E) (q : E), deepEs (l ++ [q]) = max (deepEs l) (max (deepE q) 0)
  | [], q => by simp only [List.nil_append, deepEs]; omega
  | e :: r, q => by simp only [List.cons_append, deepEs, deepEs_snoc r q]; omega
theorem deepEs_take {ps : List E} {i : Nat} {q : E} (h : ps[i]? = some q) : deepEs (ps.take (i + 1)) = max (deepEs (ps.take i)) (max (deepE q) 0) := by
  rw [List.take_add_one, h]
  exact deepEs_snoc _ _
theorem deepEs_ge : ∀ l : List E, 0 ≤ deepEs l
  | [] => Int.le_refl _
  | e :: r => by have := deepEs_ge r; simp only [deepEs]; omega
theorem deepE_ge (e : E) : 1 ≤ deepE e := by cases e with
  | mk k f o v m z ps => have := deepEs_ge ps; simp only [deepE]; omega
theorem deepEs_le {b : Int} (hb : 0 ≤ b) : ∀ {l : List E}, (∀ q ∈ l, deepE q ≤ b) → deepEs l ≤ b
  | [], _ => hb
  | e :: r, h => by
    have h1 := h e (List.mem_cons_self)
    have h2 := deepEs_le hb (l := r) fun q hq => h q (List.mem_cons_of_mem _ hq)
    simp only [deepEs]; omega
theorem deep_ok : ∀ (e : E) (d : Int), okE d e = true → d + deepE e ≤ 65 := E.ind fun k f o v m z ps ih => by
  intro d hd
  obtain ⟨h64, _, hp⟩ := okE_parts hd
  have := deepEs_le (b := 64 - d) (by omega) (l := ps) fun q hq => by
    have := ih q hq (d + 1) (hp q hq)
    omega
  simp only [deepE]; omega
section
variable (Hh : Int → Bool)
mutual
/-- Has a State all fields of an expression? -/
def hasE : E → Bool
  | .mk k f _ _ _ _ ps => (!decide (k = 3) || Hh f) && hasEs ps
def hasEs : List E → Bool
  | [] => true
  | e :: r => hasE e && hasEs r
end
theorem hasEs_drop {ps : List E} {i : Nat} {q : E} (h : ps[i]? = some q) : hasEs Hh (ps.drop i) = (hasE Hh q && hasEs Hh (ps.drop (i + 1))) := by
  obtain ⟨hi, rfl⟩ := List.getElem?_eq_some_iff.1 h
  rw [List.drop_eq_getElem_cons hi, hasEs]
end

set_option maxHeartbeats 16000000 in
theorem sameS : ∀ a : E, a.Ok → ∀ b : E, b.Ok → simE a b → ∀ st, FnS cx 18 [a.c, b.c] st (.bool true) st := by
  refine E.ind fun k f o v m z ps ih => ?_
  intro hok b hok2 hsim st
  obtain ⟨k2, f2, o2, v2, m2, z2, qs⟩ := b
  obtain ⟨⟨e1, e2, e3, e4, e5⟩, hsims⟩ := hsim
  obtain ⟨hk, hf, ho, hv, hm, hl, hpo⟩ := hok
  obtain ⟨hk2, hf2, ho2, hv2, hm2, hl2, hpo2⟩ := hok2
  have hlen := simEs_len hsims
  have hu2 := unown_c (.mk k2 f2 o2 v2 m2 z2 qs)
  have hp2 := E.pure (.mk k2 f2 o2 v2 m2 z2 qs)
  have hcl2 := cs_len qs
  have hso2 := szOk_cs qs
  have n1 : ¬ ¬ k = k2 := fun h => h e1
  have n2 : ¬ ¬ f = f2 := fun h => h e2
  have n3 : ¬ ¬ o = o2 := fun h => h e3
  have n4 : ¬ ¬ v = v2 := fun h => h e4
  have n5 : ¬ ¬ m = m2 := fun h => h e5
  have n6 : ¬ ¬ (ps.length : Int) = (qs.length : Int) := fun h => h (by omega)
  have hu := unown_c (.mk k f o v m z ps)
  have hp := E.pure (.mk k f o v m z ps)
  have hcl := cs_len ps
  have hso := szOk_cs ps
  refine goP Tryz.func18 rfl rfl rfl rfl ?_ ?_
  · simp only [List.map_cons, List.map_nil, hu, unL, pureVs, pureV, hp, hu2, hp2, Bool.and_self]
  intro t ht
  have a0 : tget t 0 = E.c (.mk k f o v m z ps) := ht 0 _ (by simp only [List.map_cons, hu]; rfl)
  have a1 : tget t 1 = E.c (.mk k2 f2 o2 v2 m2 z2 qs) := ht 1 _ (by simp only [List.map_cons, hu, hu2]; rfl)
  clear ht
  rw [E.c] at a0 a1
  have ex := And.intro @a0 (And.intro @a1 (And.intro @hcl (And.intro @hcl2 (And.intro @hpB (And.intro @hpE (And.intro @hso (And.intro @hso2 @zvE)))))))
  repeat' (first
   | (with_reducible refine isO ?_); first
     | refine mvA (h := ?_)
     | refine asA (h := ?_)
     | refine quA (h := ?_)
   | (with_reducible refine isG ?_); first
     | refine stA (h := ?_)
     | refine srA (h := ?_)
     | refine swA (h := ?_)
     | refine s1A (h := ?_)
     | refine s0A (h := ?_)
     | refine sgA (h1 := fun _ => ?_) (h0 := fun _ => ?_)
     | refine sbA (h1 := fun _ => ?_) (h0 := fun _ => ?_)
   | (with_reducible refine isP ?_); first
     | refine dqA (h := ?_)
   | (with_reducible refine isC ?_); first
     | refine ctA (h := ?_)
     | refine cfA (h := ?_)
     | refine cdA (h1 := fun _ => ?_) (h0 := fun _ => ?_)
     | refine cbA (h1 := fun _ => ?_) (h0 := fun _ => ?_)
   | (with_reducible refine isR ?_); first
     | refine Ev.drawn (by decide +kernel) (l := [0, 1, 2, 3, 4, 5, 6, 7, 8, 9, 10, 11]) (by decide +kernel) ?_
   | with_reducible refine Ev.seq ?_
   | with_reducible refine Ev.ops ?_
   | with_reducible refine NxE ?_
   | with_reducible refine BxN ?_
   | with_reducible refine BxX ?_
   | with_reducible refine NxX ?_
   | with_reducible refine NxR ?_
   | with_reducible refine BxR ?_
   | with_reducible refine NxG ?_
   | with_reducible refine BxG ?_
   | with_reducible refine GxR ?_
   | with_reducible refine GxN ?_
   | with_reducible refine GxX ?_
   | with_reducible refine Ev.goto ?_
   | with_reducible refine Ev.block ?_
   | with_reducible refine Ev.skip ?_
   | with_reducible refine Ev.exit ?_
   | with_reducible refine Ev.ret ?_
   | with_reducible refine Ev.label ?_
   | with_reducible refine EvOps.nil ?_
   | with_reducible refine EvPlan.nil ?_
   | (with_reducible refine BxO ?_ ?_; · decide)
   )
  all_goals first
    | (exfalso; omega)
    | skip
  refine loopT (fun r t st => ∃ (i : Nat), r = ps.length - i ∧ i ≤ ps.length ∧ tget t 2 = .ptr 0 0 ∧ tget t 3 = .ptr 1 0 ∧ tget t 5 = .int .i64 i ∧ st = ⟨[(1, .cells [.int .i64 k2, .int .i64 f2, .int .i64 o2, .int .u64 v2, .int .u64 m2, .sl (tipB z2) (E.cs qs)]), (0, .cells [.int .i64 k, .int .i64 f, .int .i64 o, .int .u64 v, .int .u64 m, .sl (tipB z) (E.cs ps)])], 2⟩) (n := ps.length) ?_ ?_
  · refine ⟨0, by omega, by omega, ?_, ?_, ?_, rfl⟩
    · simp only [↓evP, ↓tgP, ↓reduceIte, Nat.reduceEqDiff, reduceCtorEq, List.map_cons, List.map_nil, List.nil_append, List.append_nil, List.toList_toArray, a0]
    · simp only [↓evP, ↓tgP, ↓reduceIte, Nat.reduceEqDiff, reduceCtorEq, List.map_cons, List.map_nil, List.nil_append, List.append_nil, List.toList_toArray, a0]
    · simp only [↓evP, ↓tgP, ↓reduceIte, Nat.reduceEqDiff, reduceCtorEq, List.map_cons, List.map_nil, List.nil_append, List.append_nil, List.toList_toArray, a0]; rfl
  rintro r t st ⟨i, rfl, hi, c2, c3, c5, rfl⟩
  rcases Nat.lt_or_ge i ps.length with hlt | hge
  · obtain ⟨qk, qf, qo, qv, qm, qz, qqs, hq, hqc, hqm⟩ := part_at hlt
    obtain ⟨rk, rf, ro, rv, rm, rz, rqs, hr, hrc, hrm⟩ := part_at (ps := qs) (i := i) (by omega)
    have hih := ih _ hqm (hpo _ hqm) _ (hpo2 _ hrm) (simEs_at hsims hq hr)
    rw [E.c, E.c] at hih
    have ex := And.intro @c2 (And.intro @c3 (And.intro @c5 (And.intro @hcl (And.intro @hcl2 (And.intro @hso (And.intro @hso2 (And.intro @hqc (And.intro @hrc (And.intro @hpB (And.intro @hpE @zvE))))))))))
    repeat' (first
     | (with_reducible refine isO ?_); first
       | refine mvA (h := ?_)
       | refine asA (h := ?_)
       | refine quA (h := ?_)
     | (with_reducible refine isG ?_); first
       | refine stA (h := ?_)
       | refine srA (h := ?_)
       | refine swA (h := ?_)
       | refine s1A (h := ?_)
       | refine s0A (h := ?_)
       | refine sgA (h1 := fun _ => ?_) (h0 := fun _ => ?_)
       | refine sbA (h1 := fun _ => ?_) (h0 := fun _ => ?_)
     | (with_reducible refine isP ?_); first
       | refine dqA (h := ?_)
       | refine dcA (i := 10) (l := []) (hc := hih _) (h := ?_)
     | (with_reducible refine isC ?_); first
       | refine ctA (h := ?_)
       | refine cfA (h := ?_)
       | refine cdA (h1 := fun _ => ?_) (h0 := fun _ => ?_)
       | refine cbA (h1 := fun _ => ?_) (h0 := fun _ => ?_)
     | (with_reducible refine isR ?_); first
       | refine Ev.drawn (by decide +kernel) (l := [0, 1, 2, 3, 4, 5, 6, 7, 8, 9, 10, 11]) (by decide +kernel) ?_
     | with_reducible refine Ev.seq ?_
     | with_reducible refine Ev.ops ?_
     | with_reducible refine NxE ?_
     | with_reducible refine BxN ?_
     | with_reducible refine BxX ?_
     | with_reducible refine NxX ?_
     | with_reducible refine NxR ?_
     | with_reducible refine BxR ?_
     | with_reducible refine NxG ?_
     | with_reducible refine BxG ?_
     | with_reducible refine GxR ?_
     | with_reducible refine GxN ?_
     | with_reducible refine GxX ?_
     | with_reducible refine Ev.goto ?_
     | with_reducible refine Ev.block ?_
     | with_reducible refine Ev.skip ?_
     | with_reducible refine Ev.exit ?_
     | with_reducible refine Ev.ret ?_
     | with_reducible refine Ev.label ?_
     | with_reducible refine EvOps.nil ?_
     | with_reducible refine EvPlan.nil ?_
     | (with_reducible refine BxO ?_ ?_; · decide)
     )
    refine ⟨ps.length - (i + 1), by omega, rfl, i + 1, rfl, by omega, ?_, ?_, ?_, rfl⟩
    · simp only [↓evP, ↓tgP, ↓reduceIte, Nat.reduceEqDiff, reduceCtorEq, List.map_cons, List.map_nil, List.nil_append, List.append_nil, List.toList_toArray, c2]
    · simp only [↓evP, ↓tgP, ↓reduceIte, Nat.reduceEqDiff, reduceCtorEq, List.map_cons, List.map_nil, List.nil_append, List.append_nil, List.toList_toArray, c3]
    · simp only [↓evP, ↓tgP, ↓reduceIte, Nat.reduceEqDiff, reduceCtorEq, List.map_cons, List.map_nil, List.nil_append, List.append_nil, List.toList_toArray, c5]; rfl
  · obtain rfl : i = ps.length := by omega
    have ex := And.intro @c2 (And.intro @c3 (And.intro @c5 (And.intro @hcl (And.intro @hcl2 (And.intro @hso (And.intro @hso2 (And.intro @hpB (And.intro @hpE @zvE))))))))
    repeat' (first
     | (with_reducible refine isO ?_); first
       | refine mvA (h := ?_)
       | refine asA (h := ?_)
       | refine quA (h := ?_)
     | (with_reducible refine isG ?_); first
       | refine stA (h := ?_)
       | refine srA (h := ?_)
       | refine swA (h := ?_)
       | refine s1A (h := ?_)
       | refine s0A (h := ?_)
       | refine sgA (h1 := fun _ => ?_) (h0 := fun _ => ?_)
       | refine sbA (h1 := fun _ => ?_) (h0 := fun _ => ?_)
     | (with_reducible refine isP ?_); first
       | refine dqA (h := ?_)
     | (with_reducible refine isC ?_); first
       | refine ctA (h := ?_)
       | refine cfA (h := ?_)
       | refine cdA (h1 := fun _ => ?_) (h0 := fun _ => ?_)
       | refine cbA (h1 := fun _ => ?_) (h0 := fun _ => ?_)
     | (with_reducible refine isR ?_); first
       | refine Ev.drawn (by decide +kernel) (l := [0, 1, 2, 3, 4, 5, 6, 7, 8, 9, 10, 11]) (by decide +kernel) ?_
     | with_reducible refine Ev.seq ?_
     | with_reducible refine Ev.ops ?_
     | with_reducible refine NxE ?_
     | with_reducible refine BxN ?_
     | with_reducible refine BxX ?_
     | with_reducible refine NxX ?_
     | with_reducible refine NxR ?_
     | with_reducible refine BxR ?_
     | with_reducible refine NxG ?_
     | with_reducible refine BxG ?_
     | with_reducible refine GxR ?_
     | with_reducible refine GxN ?_
     | with_reducible refine GxX ?_
     | with_reducible refine Ev.goto ?_
     | with_reducible refine Ev.block ?_
     | with_reducible refine Ev.skip ?_
     | with_reducible refine Ev.exit ?_
     | with_reducible refine Ev.ret ?_
     | with_reducible refine Ev.label ?_
     | with_reducible refine EvOps.nil ?_
     | with_reducible refine EvPlan.nil ?_
     | (with_reducible refine BxO ?_ ?_; · decide)
     )
    refine lfA (rl := [.tmp 4]) rfl (hv := by
      simp only [packV, strip, stripAgg, stripCell, List.map_cons, List.map_nil]
      first | done | rfl) (hp := rfl)

set_option maxHeartbeats 16000000 in
theorem deepS : ∀ e : E, e.Ok → ∀ d : Int, 0 ≤ d → okE d e = true → ∀ st, FnS cx 12 [e.c] st (.int .i64 (deepE e)) st := by
  refine E.ind fun k f o v m z ps ih => ?_
  intro hok d hd0 hd st
  obtain ⟨hk, hf, ho, hv, hm, hl, hpo⟩ := hok
  obtain ⟨hd64, hnode, hparts⟩ := okE_parts hd
  have hu := unown_c (.mk k f o v m z ps)
  have hp := E.pure (.mk k f o v m z ps)
  have hcl := cs_len ps
  have hso := szOk_cs ps
  refine goP Tryz.func12 rfl rfl rfl rfl ?_ ?_
  · simp only [List.map_cons, List.map_nil, hu, unL, pureVs, pureV, hp, Bool.and_self]
  intro t ht
  have a0 : tget t 0 = E.c (.mk k f o v m z ps) := ht 0 _ (by simp only [List.map_cons, hu]; rfl)
  clear ht
  rw [E.c] at a0
  have ex := And.intro @a0 (And.intro @hcl (And.intro @hpB (And.intro @hpE (And.intro @hso @zvE))))
  repeat' (first
   | (with_reducible refine isO ?_); first
     | refine mvA (h := ?_)
     | refine asA (h := ?_)
     | refine quA (h := ?_)
   | (with_reducible refine isC ?_); first
     | refine ctA (h := ?_)
     | refine cfA (h := ?_)
     | refine cdA (h1 := fun _ => ?_) (h0 := fun _ => ?_)
     | refine cbA (h1 := fun _ => ?_) (h0 := fun _ => ?_)
   | with_reducible refine Ev.seq ?_
   | with_reducible refine Ev.ops ?_
   | with_reducible refine NxE ?_
   | with_reducible refine BxN ?_
   | with_reducible refine BxX ?_
   | with_reducible refine NxX ?_
   | with_reducible refine NxR ?_
   | with_reducible refine BxR ?_
   | with_reducible refine NxG ?_
   | with_reducible refine BxG ?_
   | with_reducible refine GxR ?_
   | with_reducible refine GxN ?_
   | with_reducible refine GxX ?_
   | with_reducible refine Ev.goto ?_
   | with_reducible refine Ev.block ?_
   | with_reducible refine Ev.skip ?_
   | with_reducible refine Ev.exit ?_
   | with_reducible refine Ev.ret ?_
   | with_reducible refine Ev.label ?_
   | with_reducible refine EvOps.nil ?_
   | with_reducible refine EvPlan.nil ?_
   | (with_reducible refine BxO ?_ ?_; · decide)
   )
  refine loopT (fun r t st => ∃ (i : Nat), r = ps.length - i ∧ i ≤ ps.length ∧ tget t 1 = .ptr 0 0 ∧ tget t 3 = .int .i64 (deepEs (ps.take i)) ∧ tget t 4 = .int .i64 i ∧ st = ⟨[(0, .cells [.int .i64 k, .int .i64 f, .int .i64 o, .int .u64 v, .int .u64 m, .sl (tipB z) (E.cs ps)])], 1⟩) (n := ps.length) ?_ ?_
  · refine ⟨0, by omega, by omega, ?_, ?_, ?_, rfl⟩
    · simp only [↓evP, ↓tgP, ↓reduceIte, Nat.reduceEqDiff, reduceCtorEq, List.map_cons, List.map_nil, List.nil_append, List.append_nil, List.toList_toArray, a0]
    · simp only [↓evP, ↓tgP, ↓reduceIte, Nat.reduceEqDiff, reduceCtorEq, List.map_cons, List.map_nil, List.nil_append, List.append_nil, List.toList_toArray, a0]; rfl
    · simp only [↓evP, ↓tgP, ↓reduceIte, Nat.reduceEqDiff, reduceCtorEq, List.map_cons, List.map_nil, List.nil_append, List.append_nil, List.toList_toArray, a0]; rfl
  rintro r t st ⟨i, rfl, hi, c1, c3, c4, rfl⟩
  have hge0 := deepEs_ge (ps.take i)
  rcases Nat.lt_or_ge i ps.length with hlt | hge
  · obtain ⟨qk, qf, qo, qv, qm, qz, qs, hq, hqc, hqm⟩ := part_at hlt
    have hih := ih _ hqm (hpo _ hqm) (d + 1) (by omega) (hparts _ hqm)
    have hdq := deep_ok _ _ (hparts _ hqm)
    have hdg := deepE_ge (.mk qk qf qo qv qm qz qs)
    have htk := deepEs_take hq
    generalize deepE (.mk qk qf qo qv qm qz qs) = dq at hih hdq hdg htk
    rw [E.c] at hih
    have ex := And.intro @c1 (And.intro @c3 (And.intro @c4 (And.intro @hcl (And.intro @hso (And.intro @hqc (And.intro @hpB (And.intro @hpE @zvE)))))))
    repeat' (first
     | (with_reducible refine isO ?_); first
       | refine mvA (h := ?_)
       | refine asA (h := ?_)
       | refine quA (h := ?_)
       | refine caA (hc := hih _) (h := ?_)
     | (with_reducible refine isC ?_); first
       | refine ctA (h := ?_)
       | refine cfA (h := ?_)
       | refine cdA (h1 := fun _ => ?_) (h0 := fun _ => ?_)
       | refine cbA (h1 := fun _ => ?_) (h0 := fun _ => ?_)
     | with_reducible refine Ev.seq ?_
     | with_reducible refine Ev.ops ?_
     | with_reducible refine NxE ?_
     | with_reducible refine BxN ?_
     | with_reducible refine BxX ?_
     | with_reducible refine NxX ?_
     | with_reducible refine NxR ?_
     | with_reducible refine BxR ?_
     | with_reducible refine NxG ?_
     | with_reducible refine BxG ?_
     | with_reducible refine GxR ?_
     | with_reducible refine GxN ?_
     | with_reducible refine GxX ?_
     | with_reducible refine Ev.goto ?_
     | with_reducible refine Ev.block ?_
     | with_reducible refine Ev.skip ?_
     | with_reducible refine Ev.exit ?_
     | with_reducible refine Ev.ret ?_
     | with_reducible refine Ev.label ?_
     | with_reducible refine EvOps.nil ?_
     | with_reducible refine EvPlan.nil ?_
     | (with_reducible refine BxO ?_ ?_; · decide)
     )
    all_goals
      refine ⟨ps.length - (i + 1), by omega, rfl, i + 1, rfl, by omega, ?_, ?_, ?_, rfl⟩
      · simp only [↓evP, ↓tgP, ↓reduceIte, Nat.reduceEqDiff, reduceCtorEq, List.map_cons, List.map_nil, List.nil_append, List.append_nil, List.toList_toArray, c1]
      · simp only [↓evP, ↓tgP, ↓reduceIte, Nat.reduceEqDiff, reduceCtorEq, List.map_cons, List.map_nil, List.nil_append, List.append_nil, List.toList_toArray, c3]
        exact congrArg (V.int .i64) (by omega)
      · simp only [↓evP, ↓tgP, ↓reduceIte, Nat.reduceEqDiff, reduceCtorEq, List.map_cons, List.map_nil, List.nil_append, List.append_nil, List.toList_toArray, c4]; rfl
  · obtain rfl : i = ps.length := by omega
    have hdd := deep_ok _ _ hd
    rw [deepE] at hdd ⊢
    rw [List.take_length] at c3 hge0
    have ex := And.intro @c1 (And.intro @c3 (And.intro @c4 (And.intro @hcl (And.intro @hso (And.intro @hpB (And.intro @hpE @zvE))))))
    repeat' (first
     | (with_reducible refine isO ?_); first
       | refine mvA (h := ?_)
       | refine asA (h := ?_)
       | refine quA (h := ?_)
     | (with_reducible refine isC ?_); first
       | refine ctA (h := ?_)
       | refine cfA (h := ?_)
       | refine cdA (h1 := fun _ => ?_) (h0 := fun _ => ?_)
       | refine cbA (h1 := fun _ => ?_) (h0 := fun _ => ?_)
     | with_reducible refine Ev.seq ?_
     | with_reducible refine Ev.ops ?_
     | with_reducible refine NxE ?_
     | with_reducible refine BxN ?_
     | with_reducible refine BxX ?_
     | with_reducible refine NxX ?_
     | with_reducible refine NxR ?_
     | with_reducible refine BxR ?_
     | with_reducible refine NxG ?_
     | with_reducible refine BxG ?_
     | with_reducible refine GxR ?_
     | with_reducible refine GxN ?_
     | with_reducible refine GxX ?_
     | with_reducible refine Ev.goto ?_
     | with_reducible refine Ev.block ?_
     | with_reducible refine Ev.skip ?_
     | with_reducible refine Ev.exit ?_
     | with_reducible refine Ev.ret ?_
     | with_reducible refine Ev.label ?_
     | with_reducible refine EvOps.nil ?_
     | with_reducible refine EvPlan.nil ?_
     | (with_reducible refine BxO ?_ ?_; · decide)
     )
    refine lfA (rl := [.tmp 2]) rfl (hv := by
      simp only [packV, strip, stripAgg, stripCell, List.map_cons, List.map_nil]
      first | done | rfl) (hp := rfl)

set_option maxHeartbeats 16000000 in
theorem hasFS {SC : List V} {Hh : Int → Bool} {R : Int → Int} (hS : StOk SC Hh R) : ∀ e : E, e.Ok → ∀ d : Int, okE d e = true → ∀ st, FnS cx 21 [e.c, .agg SC] st (.bool (hasE Hh e)) st := by
  refine E.ind fun k f o v m z ps ih => ?_
  intro hok d hd st
  obtain ⟨hk, hf, ho, hv, hm, hl, hpo⟩ := hok
  obtain ⟨hd64, hnode, hparts⟩ := okE_parts hd
  have hld := hS.load
  have hhas : k = 3 → ∀ st, FnS cx 35 [.agg SC, .int .i64 f] st (.bool (Hh f)) st := fun h3 => hS.has f (node_is hnode h3).1 (node_is hnode h3).2.1
  have hu := unown_c (.mk k f o v m z ps)
  have hp := E.pure (.mk k f o v m z ps)
  have hcl := cs_len ps
  have hso := szOk_cs ps
  refine goP Tryz.func21 rfl rfl rfl rfl ?_ ?_
  · simp only [List.map_cons, List.map_nil, hu, unL, pureVs, pureV, hp, hS.own, hS.pure, Bool.and_self]
  intro t ht
  have a0 : tget t 0 = E.c (.mk k f o v m z ps) := ht 0 _ (by simp only [List.map_cons, hu]; rfl)
  have a1 : tget t 1 = .agg SC := ht 1 _ (by simp only [List.map_cons, hS.own]; rfl)
  clear ht
  rw [E.c] at a0
  have ex := And.intro @a0 (And.intro @a1 (And.intro @hcl (And.intro @hpB (And.intro @hpE (And.intro @hso @zvE)))))
  have exd := @hld
  repeat' (first
   | (with_reducible refine isO ?_); first
     | refine mvA (h := ?_)
     | refine asA (h := ?_)
     | refine quA (h := ?_)
     | refine caA (hc := hhas (by omega) _) (h := ?_)
   | (with_reducible refine isG ?_); first
     | refine stA (h := ?_)
     | refine srA (h := ?_)
     | refine swA (h := ?_)
     | refine s1A (h := ?_)
     | refine s0A (h := ?_)
     | refine sgA (h1 := fun _ => ?_) (h0 := fun _ => ?_)
     | refine sbA (h1 := fun _ => ?_) (h0 := fun _ => ?_)
   | (with_reducible refine isP ?_); first
     | refine dqA (h := ?_)
   | (with_reducible refine isC ?_); first
     | refine ctA (h := ?_)
     | refine cfA (h := ?_)
     | refine cdA (h1 := fun _ => ?_) (h0 := fun _ => ?_)
     | refine cbA (h1 := fun _ => ?_) (h0 := fun _ => ?_)
   | (with_reducible refine isR ?_); first
     | refine Ev.drawn (by decide +kernel) (l := [0, 1, 2, 3, 4, 5, 6, 7]) (by decide +kernel) ?_
   | with_reducible refine Ev.seq ?_
   | with_reducible refine Ev.ops ?_
   | with_reducible refine NxE ?_
   | with_reducible refine BxN ?_
   | with_reducible refine BxX ?_
   | with_reducible refine NxX ?_
   | with_reducible refine NxR ?_
   | with_reducible refine BxR ?_
   | with_reducible refine NxG ?_
   | with_reducible refine BxG ?_
   | with_reducible refine GxR ?_
   | with_reducible refine GxN ?_
   | with_reducible refine GxX ?_
   | with_reducible refine Ev.goto ?_
   | with_reducible refine Ev.block ?_
   | with_reducible refine Ev.skip ?_
   | with_reducible refine Ev.exit ?_
   | with_reducible refine Ev.ret ?_
   | with_reducible refine Ev.label ?_
   | with_reducible refine EvOps.nil ?_
   | with_reducible refine EvPlan.nil ?_
   | (with_reducible refine BxO ?_ ?_; · decide)
   )
  all_goals first
    | (exfalso; omega)
    | skip
  · rename_i h3 hh
    have hh : Hh f = false := eq_false_of_bne hh
    refine lfA (rl := [.tmp 4]) rfl (hv := by
      simp only [packV, strip, stripAgg, stripCell, List.map_cons, List.map_nil]
      rw [hasE, hh, decide_eq_true h3]; rfl) (hp := rfl)
  all_goals
    have hnd : (!decide (k = 3) || Hh f) = true := by
      first
        | (rename_i h3 hh; have hh : Hh f = true := eq_true_of_bne hh; rw [hh, Bool.or_true])
        | (rename_i h3; rw [decide_eq_false h3]; rfl)
    have hfin : hasE Hh (.mk k f o v m z ps) = hasEs Hh ps := by rw [hasE, hnd, Bool.true_and]
    rw [hfin]
    refine loopT (fun r t st => ∃ (i : Nat), r = ps.length - i ∧ i ≤ ps.length ∧ hasEs Hh ps = hasEs Hh (ps.drop i) ∧ tget t 2 = .ptr 0 0 ∧ tget t 3 = .ptr 1 0 ∧ tget t 5 = .int .i64 i ∧ st = ⟨[(1, .cells SC), (0, .cells [.int .i64 k, .int .i64 f, .int .i64 o, .int .u64 v, .int .u64 m, .sl (tipB z) (E.cs ps)])], 2⟩) (n := ps.length) ?_ ?_
    · refine ⟨0, by omega, by omega, rfl, ?_, ?_, ?_, rfl⟩
      · simp only [↓evP, ↓tgP, ↓reduceIte, Nat.reduceEqDiff, reduceCtorEq, List.map_cons, List.map_nil, List.nil_append, List.append_nil, List.toList_toArray, a0]
      · simp only [↓evP, ↓tgP, ↓reduceIte, Nat.reduceEqDiff, reduceCtorEq, List.map_cons, List.map_nil, List.nil_append, List.append_nil, List.toList_toArray, a0]
      · simp only [↓evP, ↓tgP, ↓reduceIte, Nat.reduceEqDiff, reduceCtorEq, List.map_cons, List.map_nil, List.nil_append, List.append_nil, List.toList_toArray, a0]; rfl
    rintro r t st ⟨i, rfl, hi, hF, c2, c3, c5, rfl⟩
    rcases Nat.lt_or_ge i ps.length with hlt | hge
    · obtain ⟨qk, qf, qo, qv, qm, qz, qs, hq, hqc, hqm⟩ := part_at hlt
      have hih := ih _ hqm (hpo _ hqm) (d + 1) (hparts _ hqm)
      rw [E.c] at hih
      have ex := And.intro @c2 (And.intro @c3 (And.intro @c5 (And.intro @hcl (And.intro @hso (And.intro @hqc (And.intro @hpB (And.intro @hpE @zvE)))))))
      have exd := @hld
      repeat' (first
       | (with_reducible refine isO ?_); first
         | refine mvA (h := ?_)
         | refine asA (h := ?_)
         | refine quA (h := ?_)
       | (with_reducible refine isG ?_); first
         | refine stA (h := ?_)
         | refine srA (h := ?_)
         | refine swA (h := ?_)
         | refine s1A (h := ?_)
         | refine s0A (h := ?_)
         | refine sgA (h1 := fun _ => ?_) (h0 := fun _ => ?_)
         | refine sbA (h1 := fun _ => ?_) (h0 := fun _ => ?_)
       | (with_reducible refine isP ?_); first
         | refine dqA (h := ?_)
         | refine dcA (i := 6) (l := []) (hc := hih _) (h := ?_)
       | (with_reducible refine isC ?_); first
         | refine ctA (h := ?_)
         | refine cfA (h := ?_)
         | refine cdA (h1 := fun _ => ?_) (h0 := fun _ => ?_)
         | refine cbA (h1 := fun _ => ?_) (h0 := fun _ => ?_)
       | (with_reducible refine isR ?_); first
         | refine Ev.drawn (by decide +kernel) (l := [0, 1, 2, 3, 4, 5, 6, 7]) (by decide +kernel) ?_
       | with_reducible refine Ev.seq ?_
       | with_reducible refine Ev.ops ?_
       | with_reducible refine NxE ?_
       | with_reducible refine BxN ?_
       | with_reducible refine BxX ?_
       | with_reducible refine NxX ?_
       | with_reducible refine NxR ?_
       | with_reducible refine BxR ?_
       | with_reducible refine NxG ?_
       | with_reducible refine BxG ?_
       | with_reducible refine GxR ?_
       | with_reducible refine GxN ?_
       | with_reducible refine GxX ?_
       | with_reducible refine Ev.goto ?_
       | with_reducible refine Ev.block ?_
       | with_reducible refine Ev.skip ?_
       | with_reducible refine Ev.exit ?_
       | with_reducible refine Ev.ret ?_
       | with_reducible refine Ev.label ?_
       | with_reducible refine EvOps.nil ?_
       | with_reducible refine EvPlan.nil ?_
       | (with_reducible refine BxO ?_ ?_; · decide)
       )
      · rename_i hb
        have hb := eq_false_of_bne hb
        refine lfA (rl := [.tmp 4]) rfl (hv := by
      simp only [packV, strip, stripAgg, stripCell, List.map_cons, List.map_nil]
      rw [hF, hasEs_drop _ hq, hb]; rfl) (hp := rfl)
      · rename_i hb
        have hb := eq_true_of_bne hb
        refine ⟨ps.length - (i + 1), by omega, rfl, i + 1, rfl, by omega, by rw [hF, hasEs_drop _ hq, hb, Bool.true_and], ?_, ?_, ?_, rfl⟩
        · simp only [↓evP, ↓tgP, ↓reduceIte, Nat.reduceEqDiff, reduceCtorEq, List.map_cons, List.map_nil, List.nil_append, List.append_nil, List.toList_toArray, c2]
        · simp only [↓evP, ↓tgP, ↓reduceIte, Nat.reduceEqDiff, reduceCtorEq, List.map_cons, List.map_nil, List.nil_append, List.append_nil, List.toList_toArray, c3]
        · simp only [↓evP, ↓tgP, ↓reduceIte, Nat.reduceEqDiff, reduceCtorEq, List.map_cons, List.map_nil, List.nil_append, List.append_nil, List.toList_toArray, c5]; rfl
    · obtain rfl : i = ps.length := by omega
      rw [List.drop_length, hasEs] at hF
      have ex := And.intro @c2 (And.intro @c3 (And.intro @c5 (And.intro @hcl (And.intro @hso (And.intro @hpB (And.intro @hpE @zvE))))))
      repeat' (first
       | (with_reducible refine isO ?_); first
         | refine mvA (h := ?_)
         | refine asA (h := ?_)
         | refine quA (h := ?_)
       | (with_reducible refine isG ?_); first
         | refine stA (h := ?_)
         | refine srA (h := ?_)
         | refine swA (h := ?_)
         | refine s1A (h := ?_)
         | refine s0A (h := ?_)
         | refine sgA (h1 := fun _ => ?_) (h0 := fun _ => ?_)
         | refine sbA (h1 := fun _ => ?_) (h0 := fun _ => ?_)
       | (with_reducible refine isP ?_); first
         | refine dqA (h := ?_)
       | (with_reducible refine isC ?_); first
         | refine ctA (h := ?_)
         | refine cfA (h := ?_)
         | refine cdA (h1 := fun _ => ?_) (h0 := fun _ => ?_)
         | refine cbA (h1 := fun _ => ?_) (h0 := fun _ => ?_)
       | (with_reducible refine isR ?_); first
         | refine Ev.drawn (by decide +kernel) (l := [0, 1, 2, 3, 4, 5, 6, 7]) (by decide +kernel) ?_
       | with_reducible refine Ev.seq ?_
       | with_reducible refine Ev.ops ?_
       | with_reducible refine NxE ?_
       | with_reducible refine BxN ?_
       | with_reducible refine BxX ?_
       | with_reducible refine NxX ?_
       | with_reducible refine NxR ?_
       | with_reducible refine BxR ?_
       | with_reducible refine NxG ?_
       | with_reducible refine BxG ?_
       | with_reducible refine GxR ?_
       | with_reducible refine GxN ?_
       | with_reducible refine GxX ?_
       | with_reducible refine Ev.goto ?_
       | with_reducible refine Ev.block ?_
       | with_reducible refine Ev.skip ?_
       | with_reducible refine Ev.exit ?_
       | with_reducible refine Ev.ret ?_
       | with_reducible refine Ev.label ?_
       | with_reducible refine EvOps.nil ?_
       | with_reducible refine EvPlan.nil ?_
       | (with_reducible refine BxO ?_ ?_; · decide)
       )
      refine lfA (rl := [.tmp 4]) rfl (hv := by
      simp only [packV, strip, stripAgg, stripCell, List.map_cons, List.map_nil]
      rw [hF]) (hp := rfl)
end Go.Proofs.YtklcmgodhpediaaGreatDoor
