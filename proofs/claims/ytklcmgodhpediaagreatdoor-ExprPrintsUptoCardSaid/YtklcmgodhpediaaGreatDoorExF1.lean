/- Are expressions the same, how deep are they, has a State their fields. -/
import Derived.Test.YtklcmgodhpediaaGreatDoorExS9
set_option linter.unusedSimpArgs false
set_option linter.unusedVariables false
set_option maxRecDepth 100000
namespace Go.Proofs.YtklcmgodhpediaaGreatDoor
open Go Go.Vm Go.Proofs

mutual
def deepE : E → Int
  | .mk _ _ _ _ _ _ ps => deepEs ps + 1
def deepEs : List E → Int
  | [] => 0
  | e :: r => max (deepE e) (deepEs r)
end
theorem deepEs_snoc : ∀ (l : List E) (q : E), deepEs (l ++ [q]) = max (deepEs l) (max (deepE q) 0)
  | [], q => by simp only [List.nil_append, deepEs]; omega
  | e :: r, q => by simp only [List.cons_append, deepEs, deepEs_snoc r q]; omega
theorem deepEs_take {ps : List E} {i : Nat} {q : E} (h : ps[i]? = some q) : deepEs (ps.take (i + 1)) = max (deepEs (ps.take i)) (max (deepE q) 0) := by
  rw [List.take_add_one, h]
  exact deepEs_snoc _ _
theorem deepEs_ge : ∀ l : List E, 0 ≤ deepEs l
  | [] => Int.le_refl _
  | e :: r => by have := deepEs_ge r; simp only [deepEs]; omega
theorem deepE_ge (e : E) : 1 ≤ deepE e := by cases e with
  | mk k f o v m z ps => have := deepEs_ge ps; simp only [deepE]; omega
theorem deepEs_le {b : Int} (hb : 0 ≤ b) : ∀ {l : List E}, (∀ q ∈ l, deepE q ≤ b) → deepEs l ≤ b
  | [], _ => hb
  | e :: r, h => by
    have h1 := h e (List.mem_cons_self)
    have h2 := deepEs_le hb (l := r) fun q hq => h q (List.mem_cons_of_mem _ hq)
    simp only [deepEs]; omega
theorem deep_ok : ∀ (e : E) (d : Int), okE d e = true → d + deepE e ≤ 65 := E.ind fun k f o v m z ps ih => by
  intro d hd
  obtain ⟨h64, _, hp⟩ := okE_parts hd
  have := deepEs_le (b := 64 - d) (by omega) (l := ps) fun q hq => by
    have := ih q hq (d + 1) (hp q hq)
    omega
  simp only [deepE]; omega
section
variable (Hh : Int → Bool)
end

set_option maxHeartbeats 16000000 in
theorem deepS : ∀ e : E, e.Ok → ∀ d : Int, 0 ≤ d → okE d e = true → ∀ st, FnS cx 12 [e.c] st (.int .i64 (deepE e)) st := by
  refine E.ind fun k f o v m z ps ih => ?_
  intro hok d hd0 hd st
  obtain ⟨hk, hf, ho, hv, hm, hl, hpo⟩ := hok
  obtain ⟨hd64, hnode, hparts⟩ := okE_parts hd
  have hu := unown_c (.mk k f o v m z ps)
  have hp := E.pure (.mk k f o v m z ps)
  have hcl := cs_len ps
  have hso := szOk_cs ps
  refine goP Tryz.func12 rfl rfl rfl rfl ?_ ?_
  · simp only [List.map_cons, List.map_nil, hu, unL, pureVs, pureV, hp, Bool.and_self]
  intro t ht
  have a0 : tget t 0 = E.c (.mk k f o v m z ps) := ht 0 _ (by simp only [List.map_cons, hu]; rfl)
  clear ht
  rw [E.c] at a0
  have ex := And.intro @a0 (And.intro @hcl (And.intro @hpB (And.intro @hpE (And.intro @hso @zvE))))
  repeat' (first
   | (with_reducible refine isO ?_); first | refine mvA (h := ?_) | refine asA (h := ?_) | refine quA (h := ?_)
   | (with_reducible refine isC ?_); first | refine ctA (h := ?_) | refine cfA (h := ?_) | refine cdA (h1 := fun _ => ?_) (h0 := fun _ => ?_) | refine cbA (h1 := fun _ => ?_) (h0 := fun _ => ?_)
   | with_reducible first | refine Ev.seq ?_ | refine Ev.ops ?_ | refine NxE ?_ | refine BxN ?_ | refine BxX ?_ | refine NxX ?_ | refine NxR ?_ | refine BxR ?_ | refine Ev.block ?_ | refine Ev.skip ?_ | refine Ev.exit ?_ | refine Ev.ret ?_ | refine EvOps.nil ?_ | refine EvPlan.nil ?_
   | (with_reducible refine BxO ?_ ?_; · decide)
   )
  refine loopT (fun r t st => ∃ (i : Nat), r = ps.length - i ∧ i ≤ ps.length ∧ tget t 1 = .ptr 0 0 ∧ tget t 3 = .int .i64 (deepEs (ps.take i)) ∧ tget t 4 = .int .i64 i ∧ st = ⟨[(0, .cells [.int .i64 k, .int .i64 f, .int .i64 o, .int .u64 v, .int .u64 m, .sl (tipB z) (E.cs ps)])], 1⟩) (n := ps.length) ?_ ?_
  · refine ⟨0, by omega, by omega, ?_, ?_, ?_, rfl⟩
    · simp only [↓evP, ↓tgP, ↓reduceIte, Nat.reduceEqDiff, reduceCtorEq, List.map_cons, List.map_nil, List.nil_append, List.append_nil, List.toList_toArray, a0]
    · simp only [↓evP, ↓tgP, ↓reduceIte, Nat.reduceEqDiff, reduceCtorEq, List.map_cons, List.map_nil, List.nil_append, List.append_nil, List.toList_toArray, a0]; rfl
    · simp only [↓evP, ↓tgP, ↓reduceIte, Nat.reduceEqDiff, reduceCtorEq, List.map_cons, List.map_nil, List.nil_append, List.append_nil, List.toList_toArray, a0]; rfl
  rintro r t st ⟨i, rfl, hi, c1, c3, c4, rfl⟩
  have hge0 := deepEs_ge (ps.take i)
  rcases Nat.lt_or_ge i ps.length with hlt | hge
  · obtain ⟨qk, qf, qo, qv, qm, qz, qs, hq, hqc, hqm⟩ := part_at hlt
    have hih := ih _ hqm (hpo _ hqm) (d + 1) (by omega) (hparts _ hqm)
    have hdq := deep_ok _ _ (hparts _ hqm)
    have hdg := deepE_ge (.mk qk qf qo qv qm qz qs)
    have htk := deepEs_take hq
    generalize deepE (.mk qk qf qo qv qm qz qs) = dq at hih hdq hdg htk
    rw [E.c] at hih
    have ex := And.intro @c1 (And.intro @c3 (And.intro @c4 (And.intro @hcl (And.intro @hso (And.intro @hqc (And.intro @hpB (And.intro @hpE @zvE)))))))
    repeat' (first
     | (with_reducible refine isO ?_); first | refine mvA (h := ?_) | refine asA (h := ?_) | refine quA (h := ?_) | refine caA (hc := hih _) (h := ?_)
     | (with_reducible refine isC ?_); first | refine ctA (h := ?_) | refine cfA (h := ?_) | refine cdA (h1 := fun _ => ?_) (h0 := fun _ => ?_) | refine cbA (h1 := fun _ => ?_) (h0 := fun _ => ?_)
     | with_reducible first | refine Ev.seq ?_ | refine Ev.ops ?_ | refine NxE ?_ | refine BxN ?_ | refine BxX ?_ | refine NxX ?_ | refine NxR ?_ | refine BxR ?_ | refine Ev.block ?_ | refine Ev.skip ?_ | refine Ev.exit ?_ | refine Ev.ret ?_ | refine EvOps.nil ?_ | refine EvPlan.nil ?_
     | (with_reducible refine BxO ?_ ?_; · decide)
     )
    all_goals
      refine ⟨ps.length - (i + 1), by omega, rfl, i + 1, rfl, by omega, ?_, ?_, ?_, rfl⟩
      · simp only [↓evP, ↓tgP, ↓reduceIte, Nat.reduceEqDiff, reduceCtorEq, List.map_cons, List.map_nil, List.nil_append, List.append_nil, List.toList_toArray, c1]
      · simp only [↓evP, ↓tgP, ↓reduceIte, Nat.reduceEqDiff, reduceCtorEq, List.map_cons, List.map_nil, List.nil_append, List.append_nil, List.toList_toArray, c3]
        exact congrArg (V.int .i64) (by omega)
      · simp only [↓evP, ↓tgP, ↓reduceIte, Nat.reduceEqDiff, reduceCtorEq, List.map_cons, List.map_nil, List.nil_append, List.append_nil, List.toList_toArray, c4]; rfl
  · obtain rfl : i = ps.length := by omega
    have hdd := deep_ok _ _ hd
    rw [deepE] at hdd ⊢
    rw [List.take_length] at c3 hge0
    have ex := And.intro @c1 (And.intro @c3 (And.intro @c4 (And.intro @hcl (And.intro @hso (And.intro @hpB (And.intro @hpE @zvE))))))
    repeat' (first
     | (with_reducible refine isO ?_); first | refine mvA (h := ?_) | refine asA (h := ?_) | refine quA (h := ?_)
     | (with_reducible refine isC ?_); first | refine ctA (h := ?_) | refine cfA (h := ?_) | refine cdA (h1 := fun _ => ?_) (h0 := fun _ => ?_) | refine cbA (h1 := fun _ => ?_) (h0 := fun _ => ?_)
     | with_reducible first | refine Ev.seq ?_ | refine Ev.ops ?_ | refine NxE ?_ | refine BxN ?_ | refine BxX ?_ | refine NxX ?_ | refine NxR ?_ | refine BxR ?_ | refine Ev.block ?_ | refine Ev.skip ?_ | refine Ev.exit ?_ | refine Ev.ret ?_ | refine EvOps.nil ?_ | refine EvPlan.nil ?_
     | (with_reducible refine BxO ?_ ?_; · decide)
     )
    refine lfA (rl := [.tmp 2]) rfl (hv := by
      simp only [packV, strip, stripAgg, stripCell, List.map_cons, List.map_nil]
      first | done | rfl) (hp := rfl)

end Go.Proofs.YtklcmgodhpediaaGreatDoor
/- What expressions say: in plain words. -/
namespace Go.Proofs.YtklcmgodhpediaaGreatDoor
open Go Go.Vm Go.Proofs

def E.strip : E → E | .mk k f o v m _ ps => .mk k f o v m false ps
theorem negE_of {k f o v m : Int} {z : Bool} {ps : List E} {b : Bool} (h : k ≠ 4) : negE (.mk k f o v m z ps) b = .mk (if b then turnK k else k) f (if b then turnO o else o) v m false (negEs ps b) := by rw [negE, if_neg h]
theorem negE_not {k f o v m : Int} {z : Bool} {ps : List E} {b : Bool} {q : E} (h : k = 4) (hq : ps[0]? = some q) : negE (.mk k f o v m z ps) b = negE q (!b) := by rw [negE, if_pos h, firstN_at hq]
theorem first_of {ps : List E} (h : ps.length = 1) : ∃ q, ps[0]? = some q ∧ q ∈ ps ∧ ps = [q] := by
  match ps, h with
  | [q], _ => exact ⟨q, rfl, List.mem_cons_self, rfl⟩
theorem okEs_iff (d : Int) : ∀ ps : List E, okEs d ps = true ↔ ∀ q ∈ ps, okE d q = true
  | [] => by simp [okEs]
  | e :: r => by rw [okEs, Bool.and_eq_true, okEs_iff d r]; simp
theorem okE_mk {d k f o v m : Int} {z : Bool} {ps : List E} (h : d ≤ 64) (hn : nodeP k f o v m ps.length) (hp : ∀ q ∈ ps, okE (d + 1) q = true) : okE d (.mk k f o v m z ps) = true := by
  rw [okE_ok h hn]; exact (okEs_iff _ _).2 hp
theorem deepEs_mem : ∀ {l : List E} {q : E}, q ∈ l → deepE q ≤ deepEs l
  | e :: r, q, h => by
    simp only [deepEs]
    cases h with
    | head => omega
    | tail _ h => have := deepEs_mem h; omega
theorem ok_deep : ∀ (e : E) (d d2 : Int), okE d e = true → d2 + deepE e ≤ 65 → okE d2 e = true := E.ind fun k f o v m z ps ih => by
  intro d d2 h hd
  obtain ⟨h1, h2, h3⟩ := okE_parts h
  have hg := deepEs_ge ps
  simp only [deepE] at hd
  refine okE_mk (by omega) h2 fun q hq => ih q hq (d + 1) (d2 + 1) (h3 q hq) ?_
  have := deepEs_mem hq
  omega
theorem ok_mono {e : E} {d d2 : Int} (h : okE d e = true) (hd : d2 ≤ d) : okE d2 e = true := ok_deep e d d2 h (by have := deep_ok e d h; omega)
theorem node3 {f o v m : Int} {n : Nat} : nodeP 3 f o v m n ↔ n = 0 ∧ 1 ≤ f ∧ f ≤ 28 ∧ 1 ≤ o ∧ o ≤ 6 ∧ 0 < m ∧ m ≤ allN f ∧ andn v m = 0 ∧ (o ≤ 2 ∨ m = allN f) := by simp [nodeP]
theorem turn_node {k f o v m : Int} {n : Nat} (h : nodeP k f o v m n) (h4 : k ≠ 4) (b : Bool) : nodeP (if b then turnK k else k) f (if b then turnO o else o) v m n := by
  cases b
  · exact h
  · rcases node_kinds h h4 with ⟨rfl, rfl⟩ | ⟨rfl, rfl⟩ | ⟨rfl, rfl⟩ | ⟨rfl, rfl⟩ | ⟨rfl, ho⟩
    · simp [nodeP, turnK, turnO] at h ⊢; exact h
    · simp [nodeP, turnK, turnO] at h ⊢; exact h
    · simp [nodeP, turnK, turnO] at h ⊢; exact h
    · simp [nodeP, turnK, turnO] at h ⊢; exact h
    · rw [node3] at h
      show nodeP 3 f (turnO o) v m n
      rw [node3]
      obtain ⟨a1, a2, a3, a4, a5, a6, a7, a8, a9⟩ := h
      refine ⟨a1, a2, a3, ?_, ?_, a6, a7, a8, ?_⟩
      · rcases ho with rfl | rfl | rfl | rfl | rfl | rfl <;> decide
      · rcases ho with rfl | rfl | rfl | rfl | rfl | rfl <;> decide
      · rcases ho with rfl | rfl | rfl | rfl | rfl | rfl
        · exact .inl (by decide)
        · exact .inl (by decide)
        all_goals
          rcases a9 with h | h
          · exact absurd h (by decide)
          · exact .inr h
theorem turnK_range {k : Int} (h : -9223372036854775808 ≤ k ∧ k ≤ 9223372036854775807) : -9223372036854775808 ≤ turnK k ∧ turnK k ≤ 9223372036854775807 := by
  unfold turnK
  repeat' split
  all_goals omega
theorem turnO_range {k : Int} (h : -9223372036854775808 ≤ k ∧ k ≤ 9223372036854775807) : -9223372036854775808 ≤ turnO k ∧ turnO k ≤ 9223372036854775807 := by
  unfold turnO
  repeat' split
  all_goals omega
theorem neg_ok : ∀ (e : E) (d : Int) (b : Bool), okE d e = true → okE d (negE e b) = true := E.ind fun k f o v m z ps ih => by
  intro d b h
  obtain ⟨h1, h2, h3⟩ := okE_parts h
  by_cases h4 : k = 4
  · obtain ⟨q, hq, hm, _⟩ := first_of (ps := ps) (by unfold nodeP at h2; omega)
    rw [negE_not h4 hq]
    exact ok_mono (ih q hm (d + 1) (!b) (h3 q hm)) (by omega)
  · rw [negE_of h4]
    refine okE_mk h1 ?_ ?_
    · rw [negEs_map, List.length_map]; exact turn_node h2 h4 b
    · intro q hq
      rw [negEs_map] at hq
      obtain ⟨p, hp, rfl⟩ := List.mem_map.1 hq
      exact ih p hp _ _ (h3 p hp)
theorem neg_Ok : ∀ (e : E), e.Ok → ∀ (d : Int) (b : Bool), okE d e = true → (negE e b).Ok := E.ind fun k f o v m z ps ih => by
  intro hok d b h
  obtain ⟨h1, h2, h3⟩ := okE_parts h
  obtain ⟨hk, hf, ho, hv, hm, hl, hpo⟩ := hok
  by_cases h4 : k = 4
  · obtain ⟨q, hq, hm, _⟩ := first_of (ps := ps) (by unfold nodeP at h2; omega)
    rw [negE_not h4 hq]
    exact ih q hm (hpo q hm) (d + 1) _ (h3 q hm)
  · rw [negE_of h4]
    refine .mk ?_ hf ?_ hv hm ?_ ?_
    · cases b
      · exact hk
      · exact turnK_range hk
    · cases b
      · exact ho
      · exact turnO_range ho
    · rw [negEs_map, List.length_map]; exact hl
    · intro q hq
      rw [negEs_map] at hq
      obtain ⟨p, hp, rfl⟩ := List.mem_map.1 hq
      exact ih p hp (hpo p hp) _ _ (h3 p hp)
theorem copy_Ok : ∀ (e : E), e.Ok → (copyE e).Ok := E.ind fun k f o v m z ps ih => by
  intro hok
  obtain ⟨hk, hf, ho, hv, hm, hl, hpo⟩ := hok
  rw [copyE]
  refine .mk hk hf ho hv hm ?_ ?_
  · rw [copyEs_map, List.length_map]; exact hl
  · intro q hq
    rw [copyEs_map] at hq
    obtain ⟨p, hp, rfl⟩ := List.mem_map.1 hq
    exact ih p hp (hpo p hp)
section
variable (Hh : Int → Bool) (R : Int → Int)
theorem bool_iff {a b : Bool} (h : a = true ↔ b = true) : a = b := by cases a <;> cases b <;> simp_all
end
end Go.Proofs.YtklcmgodhpediaaGreatDoor
/- The exported functions. -/
namespace Go.Proofs.YtklcmgodhpediaaGreatDoor
open Go Go.Vm Go.Proofs

def chk (e : E) : Int := if okE 1 e then 0 else 150
def holdsX (Hh : Int → Bool) (R : Int → Int) (e : E) : Bool := okE 1 e && holdsN Hh R (negE e false)
theorem CheckS (e : E) (hok : e.Ok) (st : St) : FnS cx 10 [e.c] st (.int .i64 (chk e)) st := by
  have hr := rightS e hok 1 (by omega) (by omega)
  have hu := unown_c e
  have hp := E.pure e
  obtain ⟨y0, y1, y2, y3, y4, y5, hy⟩ := c_six e
  rw [hy] at hr hu hp ⊢
  unfold chk
  cases h : okE 1 e <;> rw [h] at hr
  all_goals
    refine goP Tryz.func10 rfl rfl rfl rfl ?_ ?_
    · simp only [List.map_cons, List.map_nil, hu, pureVs, hp, Bool.and_self]
    intro t ht
    have a0 : tget t 0 = .agg [y0, y1, y2, y3, y4, y5] := ht 0 _ (by simp only [List.map_cons, hu]; rfl)
    clear ht
    have ex := And.intro @a0 (And.intro @hpB (And.intro @hpE @zvE))
    repeat' (first
     | (with_reducible refine isO ?_); first | refine mvA (h := ?_) | refine asA (h := ?_) | refine quA (h := ?_) | refine caA (hc := hr _) (h := ?_)
     | (with_reducible refine isC ?_); first | refine ctA (h := ?_) | refine cfA (h := ?_) | refine cdA (h1 := fun _ => ?_) (h0 := fun _ => ?_) | refine cbA (h1 := fun _ => ?_) (h0 := fun _ => ?_)
     | with_reducible first | refine Ev.seq ?_ | refine Ev.ops ?_ | refine NxE ?_ | refine BxN ?_ | refine BxX ?_ | refine NxX ?_ | refine NxR ?_ | refine BxR ?_ | refine Ev.block ?_ | refine Ev.skip ?_ | refine Ev.exit ?_ | refine Ev.ret ?_ | refine EvOps.nil ?_ | refine EvPlan.nil ?_
     | (with_reducible refine BxO ?_ ?_; · decide)
     )
    refine lfA (rl := [.tmp 2]) rfl (hv := by
      simp only [packV, strip, stripAgg, stripCell, List.map_cons, List.map_nil]
      rfl) (hp := rfl)

theorem RCheckS (e : E) (hok : e.Ok) (st : St) : FnS cx 11 [e.c] st (.int .i64 (chk e)) st := by
  have hr := checkS e hok 1 (by omega) (by omega)
  have hu := unown_c e
  have hp := E.pure e
  obtain ⟨y0, y1, y2, y3, y4, y5, hy⟩ := c_six e
  rw [hy] at hr hu hp ⊢
  unfold chk
  cases h : okE 1 e <;> rw [h] at hr
  all_goals
    refine goP Tryz.func11 rfl rfl rfl rfl ?_ ?_
    · simp only [List.map_cons, List.map_nil, hu, pureVs, hp, Bool.and_self]
    intro t ht
    have a0 : tget t 0 = .agg [y0, y1, y2, y3, y4, y5] := ht 0 _ (by simp only [List.map_cons, hu]; rfl)
    clear ht
    have ex := And.intro @a0 (And.intro @hpB (And.intro @hpE @zvE))
    repeat' (first
     | (with_reducible refine isO ?_); first | refine mvA (h := ?_) | refine asA (h := ?_) | refine quA (h := ?_) | refine caA (hc := hr _) (h := ?_)
     | (with_reducible refine isC ?_); first | refine ctA (h := ?_) | refine cfA (h := ?_) | refine cdA (h1 := fun _ => ?_) (h0 := fun _ => ?_) | refine cbA (h1 := fun _ => ?_) (h0 := fun _ => ?_)
     | with_reducible first | refine Ev.seq ?_ | refine Ev.ops ?_ | refine NxE ?_ | refine BxN ?_ | refine BxX ?_ | refine NxX ?_ | refine NxR ?_ | refine BxR ?_ | refine Ev.block ?_ | refine Ev.skip ?_ | refine Ev.exit ?_ | refine Ev.ret ?_ | refine EvOps.nil ?_ | refine EvPlan.nil ?_
     | (with_reducible refine BxO ?_ ?_; · decide)
     )
    refine lfA (rl := [.tmp 2]) rfl (hv := by
      simp only [packV, strip, stripAgg, stripCell, List.map_cons, List.map_nil]
      rfl) (hp := rfl)

set_option maxHeartbeats 8000000 in
theorem HoldsS {SC : List V} {Hh : Int → Bool} {R : Int → Int} (hS : StOk SC Hh R) (e : E) (hok : e.Ok) (st : St) : FnS cx 14 [e.c, .agg SC] st (.bool (holdsX Hh R e)) st := by
  have hld := hS.load
  have hc := CheckS e hok
  cases h : okE 1 e
  · unfold chk at hc
    rw [h] at hc
    have hu := unown_c e
    have hp := E.pure e
    obtain ⟨y0, y1, y2, y3, y4, y5, hy⟩ := c_six e
    rw [hy] at hc hu hp ⊢
    refine goP Tryz.func14 rfl rfl rfl rfl ?_ ?_
    · simp only [List.map_cons, List.map_nil, hu, hS.own]; show (pureV (.agg [y0, y1, y2, y3, y4, y5]) && (pureVs SC && true)) = true; rw [hp, hS.pure]; rfl
    intro t ht
    have a0 : tget t 0 = .agg [y0, y1, y2, y3, y4, y5] := ht 0 _ (by simp only [List.map_cons, hu]; rfl)
    have a1 : tget t 1 = .agg SC := ht 1 _ (by simp only [List.map_cons, hS.own]; rfl)
    clear ht
    have ex := And.intro @a0 (And.intro @a1 (And.intro @hpB (And.intro @hpE @zvE)))
    have exd := @hld
    repeat' (first
     | (with_reducible refine isO ?_); first | refine mvA (h := ?_) | refine asA (h := ?_) | refine quA (h := ?_)
     | (with_reducible refine isP ?_); first | refine dqA (h := ?_) | refine dqAG (h := ?_) | refine dcA (i := 1) (l := []) (hc := hc _) (h := ?_) | refine dsA (h := ?_) | refine dtA (h := ?_) | refine dgA (h1 := fun _ => ?_) (h0 := fun _ => ?_)
     | (with_reducible refine isC ?_); first | refine ctA (h := ?_) | refine cfA (h := ?_) | refine cdA (h1 := fun _ => ?_) (h0 := fun _ => ?_) | refine cbA (h1 := fun _ => ?_) (h0 := fun _ => ?_)
     | (with_reducible refine isR ?_); first
       | refine Ev.drawn (by decide +kernel) (l := [0, 1, 2, 3, 4, 6, 5, 7, 8, 9]) (by decide +kernel) ?_
     | with_reducible first | refine Ev.seq ?_ | refine Ev.ops ?_ | refine NxE ?_ | refine BxN ?_ | refine BxX ?_ | refine NxX ?_ | refine NxR ?_ | refine BxR ?_ | refine Ev.block ?_ | refine Ev.skip ?_ | refine Ev.exit ?_ | refine Ev.ret ?_ | refine EvOps.nil ?_ | refine EvPlan.nil ?_
     | (with_reducible refine BxO ?_ ?_; · decide)
     )
    all_goals refine lfA (rl := [.tmp 4]) rfl (hv := by
      simp only [packV, strip, stripAgg, stripCell, List.map_cons, List.map_nil]
      unfold holdsX; rw [h]; rfl) (hp := rfl)
  · unfold chk at hc
    rw [h] at hc
    have hpl := plainS e hok 1 h false
    have hho := holdsS hS (negE e false) (neg_Ok e hok 1 false h) 1 (neg_ok e 1 false h)
    obtain ⟨x0, x1, x2, x3, x4, x5, hx⟩ := c_six (negE e false)
    rw [hx] at hpl hho
    have hu := unown_c e
    have hp := E.pure e
    obtain ⟨y0, y1, y2, y3, y4, y5, hy⟩ := c_six e
    rw [hy] at hc hu hp hpl ⊢
    refine goP Tryz.func14 rfl rfl rfl rfl ?_ ?_
    · simp only [List.map_cons, List.map_nil, hu, hS.own]; show (pureV (.agg [y0, y1, y2, y3, y4, y5]) && (pureVs SC && true)) = true; rw [hp, hS.pure]; rfl
    intro t ht
    have a0 : tget t 0 = .agg [y0, y1, y2, y3, y4, y5] := ht 0 _ (by simp only [List.map_cons, hu]; rfl)
    have a1 : tget t 1 = .agg SC := ht 1 _ (by simp only [List.map_cons, hS.own]; rfl)
    clear ht
    have ex := And.intro @a0 (And.intro @a1 (And.intro @hpB (And.intro @hpE @zvE)))
    have exd := @hld
    repeat' (first
     | (with_reducible refine isO ?_); first | refine mvA (h := ?_) | refine asA (h := ?_) | refine quA (h := ?_)
     | (with_reducible refine isP ?_); first | refine dqA (h := ?_) | refine dqAG (h := ?_) | refine dcA (i := 1) (l := []) (hc := hc _) (h := ?_) | refine dcAG (i := 5) (l := [6]) (hc := hpl _) (h := ?_) | refine dcAG (i := 7) (l := []) (hc := hho _) (h := ?_) | refine dsA (h := ?_) | refine dtA (h := ?_) | refine dgA (h1 := fun _ => ?_) (h0 := fun _ => ?_)
     | (with_reducible refine isC ?_); first | refine ctA (h := ?_) | refine cfA (h := ?_) | refine cdA (h1 := fun _ => ?_) (h0 := fun _ => ?_) | refine cbA (h1 := fun _ => ?_) (h0 := fun _ => ?_)
     | (with_reducible refine isR ?_); first
       | refine Ev.drawn (by decide +kernel) (l := [0, 1, 2, 3, 4, 6, 5, 7, 8, 9]) (by decide +kernel) ?_
     | with_reducible first | refine Ev.seq ?_ | refine Ev.ops ?_ | refine NxE ?_ | refine BxN ?_ | refine BxX ?_ | refine NxX ?_ | refine NxR ?_ | refine BxR ?_ | refine Ev.block ?_ | refine Ev.skip ?_ | refine Ev.exit ?_ | refine Ev.ret ?_ | refine EvOps.nil ?_ | refine EvPlan.nil ?_
     | (with_reducible refine BxO ?_ ?_; · decide)
     )
    all_goals refine lfA (rl := [.tmp 4]) rfl (hv := by
      simp only [packV, strip, stripAgg, stripCell, List.map_cons, List.map_nil]
      unfold holdsX; rw [h]; rfl) (hp := rfl)

end Go.Proofs.YtklcmgodhpediaaGreatDoor
