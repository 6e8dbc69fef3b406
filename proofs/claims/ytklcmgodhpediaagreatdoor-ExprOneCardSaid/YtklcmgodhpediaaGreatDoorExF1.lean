/- What expressions say: in plain words. -/
import Derived.Test.YtklcmgodhpediaaGreatDoorExSA
set_option linter.unusedSimpArgs false
set_option linter.unusedVariables false
set_option maxRecDepth 100000
namespace Go.Proofs.YtklcmgodhpediaaGreatDoor
open Go Go.Vm Go.Proofs

def E.strip : E → E | .mk k f o v m _ ps => .mk k f o v m false ps
theorem strip_z (e : E) : e.strip.z = false := by cases e; rfl
theorem neg_strip (e : E) (b : Bool) : negE e.strip b = negE e b := by cases e; simp only [E.strip, negE]
theorem ok_strip (e : E) (d : Int) : okE d e.strip = okE d e := by cases e; simp only [E.strip, okE]
theorem Ok_strip {e : E} (h : e.Ok) : e.strip.Ok := by cases h; constructor <;> assumption
theorem deep_strip (e : E) : deepE e.strip = deepE e := by cases e; simp only [E.strip, deepE]
theorem sim_copy_strip (e : E) : simE (copyE e) e.strip := by
  have h := sim_copy e
  cases e; exact h
theorem negE_of {k f o v m : Int} {z : Bool} {ps : List E} {b : Bool} (h : k ≠ 4) : negE (.mk k f o v m z ps) b = .mk (if b then turnK k else k) f (if b then turnO o else o) v m false (negEs ps b) := by rw [negE, if_neg h]
theorem negE_not {k f o v m : Int} {z : Bool} {ps : List E} {b : Bool} {q : E} (h : k = 4) (hq : ps[0]? = some q) : negE (.mk k f o v m z ps) b = negE q (!b) := by rw [negE, if_pos h, firstN_at hq]
theorem first_of {ps : List E} (h : ps.length = 1) : ∃ q, ps[0]? = some q ∧ q ∈ ps ∧ ps = [q] := by
  match ps, h with
  | [q], _ => exact ⟨q, rfl, List.mem_cons_self, rfl⟩
theorem okEs_iff (d : Int) : ∀ ps : List E, okEs d ps = true ↔ ∀ q ∈ ps, okE d q = true
  | [] => by simp [okEs]
  | e :: r => by rw [okEs, Bool.and_eq_true, okEs_iff d r]; simp
theorem okE_mk {d k f o v m : Int} {z : Bool} {ps : List E} (h : d ≤ 64) (hn : nodeP k f o v m ps.length) (hp : ∀ q ∈ ps, okE (d + 1) q = true) : okE d (.mk k f o v m z ps) = true := by
  rw [okE_ok h hn]; exact (okEs_iff _ _).2 hp
theorem deepEs_mem : ∀ {l : List E} {q : E}, q ∈ l → deepE q ≤ deepEs l
  | e :: r, q, h => by
    simp only [deepEs]
    cases h with
    | head => omega
    | tail _ h => have := deepEs_mem h; omega
theorem ok_deep : ∀ (e : E) (d d2 : Int), okE d e = true → d2 + deepE e ≤ 65 → okE d2 e = true := E.ind fun k f o v m z ps ih => by
  intro d d2 h hd
  obtain ⟨h1, h2, h3⟩ := okE_parts h
  have hg := deepEs_ge ps
  simp only [deepE] at hd
  refine okE_mk (by omega) h2 fun q hq => ih q hq (d + 1) (d2 + 1) (h3 q hq) ?_
  have := deepEs_mem hq
  omega
theorem ok_mono {e : E} {d d2 : Int} (h : okE d e = true) (hd : d2 ≤ d) : okE d2 e = true := ok_deep e d d2 h (by have := deep_ok e d h; omega)
theorem node3 {f o v m : Int} {n : Nat} : nodeP 3 f o v m n ↔ n = 0 ∧ 1 ≤ f ∧ f ≤ 28 ∧ 1 ≤ o ∧ o ≤ 6 ∧ 0 < m ∧ m ≤ allN f ∧ andn v m = 0 ∧ (o ≤ 2 ∨ m = allN f) := by simp [nodeP]
theorem turn_node {k f o v m : Int} {n : Nat} (h : nodeP k f o v m n) (h4 : k ≠ 4) (b : Bool) : nodeP (if b then turnK k else k) f (if b then turnO o else o) v m n := by
  cases b
  · exact h
  · rcases node_kinds h h4 with ⟨rfl, rfl⟩ | ⟨rfl, rfl⟩ | ⟨rfl, rfl⟩ | ⟨rfl, rfl⟩ | ⟨rfl, ho⟩
    · simp [nodeP, turnK, turnO] at h ⊢; exact h
    · simp [nodeP, turnK, turnO] at h ⊢; exact h
    · simp [nodeP, turnK, turnO] at h ⊢; exact h
    · simp [nodeP, turnK, turnO] at h ⊢; exact h
    · rw [node3] at h
      show nodeP 3 f (turnO o) v m n
      rw [node3]
      obtain ⟨a1, a2, a3, a4, a5, a6, a7, a8, a9⟩ := h
      refine ⟨a1, a2, a3, ?_, ?_, a6, a7, a8, ?_⟩
      · rcases ho with rfl | rfl | rfl | rfl | rfl | rfl <;> decide
      · rcases ho with rfl | rfl | rfl | rfl | rfl | rfl <;> decide
      · rcases ho with rfl | rfl | rfl | rfl | rfl | rfl
        · exact .inl (by decide)
        · exact .inl (by decide)
        all_goals
          rcases a9 with h | h
          · exact absurd h (by decide)
          · exact .inr h
theorem turnK_turnK (k : Int) : turnK (turnK k) = k := by
  by_cases h1 : k = 1
  · subst h1; rfl
  by_cases h2 : k = 2
  · subst h2; rfl
  by_cases h5 : k = 5
  · subst h5; rfl
  by_cases h6 : k = 6
  · subst h6; rfl
  have : turnK k = k := by simp [turnK, h1, h2, h5, h6]
  rw [this, this]
theorem turnO_turnO (o : Int) : turnO (turnO o) = o := by
  by_cases h1 : o = 1
  · subst h1; rfl
  by_cases h2 : o = 2
  · subst h2; rfl
  by_cases h3 : o = 3
  · subst h3; rfl
  by_cases h4 : o = 4
  · subst h4; rfl
  by_cases h5 : o = 5
  · subst h5; rfl
  by_cases h6 : o = 6
  · subst h6; rfl
  have : turnO o = o := by simp [turnO, h1, h2, h3, h4, h5, h6]
  rw [this, this]
theorem turnK_4 {k : Int} (h : k ≠ 4) : turnK k ≠ 4 := by
  intro h2
  have := turnK_turnK k
  rw [h2] at this
  exact h this.symm
theorem turnK_range {k : Int} (h : -9223372036854775808 ≤ k ∧ k ≤ 9223372036854775807) : -9223372036854775808 ≤ turnK k ∧ turnK k ≤ 9223372036854775807 := by
  unfold turnK
  repeat' split
  all_goals omega
theorem turnO_range {k : Int} (h : -9223372036854775808 ≤ k ∧ k ≤ 9223372036854775807) : -9223372036854775808 ≤ turnO k ∧ turnO k ≤ 9223372036854775807 := by
  unfold turnO
  repeat' split
  all_goals omega
theorem neg_ok : ∀ (e : E) (d : Int) (b : Bool), okE d e = true → okE d (negE e b) = true := E.ind fun k f o v m z ps ih => by
  intro d b h
  obtain ⟨h1, h2, h3⟩ := okE_parts h
  by_cases h4 : k = 4
  · obtain ⟨q, hq, hm, _⟩ := first_of (ps := ps) (by unfold nodeP at h2; omega)
    rw [negE_not h4 hq]
    exact ok_mono (ih q hm (d + 1) (!b) (h3 q hm)) (by omega)
  · rw [negE_of h4]
    refine okE_mk h1 ?_ ?_
    · rw [negEs_map, List.length_map]; exact turn_node h2 h4 b
    · intro q hq
      rw [negEs_map] at hq
      obtain ⟨p, hp, rfl⟩ := List.mem_map.1 hq
      exact ih p hp _ _ (h3 p hp)
theorem neg_Ok : ∀ (e : E), e.Ok → ∀ (d : Int) (b : Bool), okE d e = true → (negE e b).Ok := E.ind fun k f o v m z ps ih => by
  intro hok d b h
  obtain ⟨h1, h2, h3⟩ := okE_parts h
  obtain ⟨hk, hf, ho, hv, hm, hl, hpo⟩ := hok
  by_cases h4 : k = 4
  · obtain ⟨q, hq, hm, _⟩ := first_of (ps := ps) (by unfold nodeP at h2; omega)
    rw [negE_not h4 hq]
    exact ih q hm (hpo q hm) (d + 1) _ (h3 q hm)
  · rw [negE_of h4]
    refine .mk ?_ hf ?_ hv hm ?_ ?_
    · cases b
      · exact hk
      · exact turnK_range hk
    · cases b
      · exact ho
      · exact turnO_range ho
    · rw [negEs_map, List.length_map]; exact hl
    · intro q hq
      rw [negEs_map] at hq
      obtain ⟨p, hp, rfl⟩ := List.mem_map.1 hq
      exact ih p hp (hpo p hp) _ _ (h3 p hp)
theorem copy_Ok : ∀ (e : E), e.Ok → (copyE e).Ok := E.ind fun k f o v m z ps ih => by
  intro hok
  obtain ⟨hk, hf, ho, hv, hm, hl, hpo⟩ := hok
  rw [copyE]
  refine .mk hk hf ho hv hm ?_ ?_
  · rw [copyEs_map, List.length_map]; exact hl
  · intro q hq
    rw [copyEs_map] at hq
    obtain ⟨p, hp, rfl⟩ := List.mem_map.1 hq
    exact ih p hp (hpo p hp)
theorem neg_neg : ∀ (e : E) (d : Int) (b c : Bool), okE d e = true → negE (negE e b) c = negE e (b != c) := E.ind fun k f o v m z ps ih => by
  intro d b c h
  obtain ⟨h1, h2, h3⟩ := okE_parts h
  by_cases h4 : k = 4
  · obtain ⟨q, hq, hm, _⟩ := first_of (ps := ps) (by unfold nodeP at h2; omega)
    rw [negE_not h4 hq, negE_not h4 hq, ih q hm (d + 1) _ _ (h3 q hm)]
    cases b <;> cases c <;> rfl
  · have hps : negEs (negEs ps b) c = negEs ps (b != c) := by
      rw [negEs_map, negEs_map, negEs_map, List.map_map]
      exact List.map_congr_left fun q hq => ih q hq (d + 1) b c (h3 q hq)
    rw [negE_of h4, negE_of (by cases b; exact h4; exact turnK_4 h4), negE_of h4, hps]
    cases b <;> cases c <;> simp [turnK_turnK, turnO_turnO]
section
variable (Hh : Int → Bool) (R : Int → Int)
theorem allN2_iff (b : Bool) : ∀ ps : List E, allN2 Hh R ps b = true ↔ ∀ q ∈ ps, holdsN Hh R q = b
  | [] => by simp [allN2]
  | e :: r => by rw [allN2, Bool.and_eq_true, allN2_iff b r]; simp
theorem allR2_iff (d b : Bool) : ∀ ps : List E, allR2 Hh R ps d b = true ↔ ∀ q ∈ ps, holdsR Hh R q d = b
  | [] => by simp [allR2]
  | e :: r => by rw [allR2, Bool.and_eq_true, allR2_iff d b r]; simp
theorem bool_iff {a b : Bool} (h : a = true ↔ b = true) : a = b := by cases a <;> cases b <;> simp_all
theorem so_turn {o a b : Int} (h1 : 1 ≤ o) (h6 : o ≤ 6) : soP (turnO o) a b ↔ ¬ soP o a b := by
  have : o = 1 ∨ o = 2 ∨ o = 3 ∨ o = 4 ∨ o = 5 ∨ o = 6 := by omega
  rcases this with rfl | rfl | rfl | rfl | rfl | rfl <;> simp [turnO, soP] <;> omega
/-- The program's way and the document's way. -/
theorem holds_eq : ∀ (e : E) (d : Int) (b : Bool), okE d e = true → holdsN Hh R (negE e b) = holdsR Hh R e b := E.ind fun k f o v m z ps ih => by
  intro d b h
  obtain ⟨h1, h2, h3⟩ := okE_parts h
  by_cases h4 : k = 4
  · obtain ⟨q, hq, hm, _⟩ := first_of (ps := ps) (by unfold nodeP at h2; omega)
    rw [negE_not h4 hq, holdsR_not _ _ h4, firstR_at _ _ hq]
    exact ih q hm (d + 1) _ (h3 q hm)
  · have hps : ∀ c, allN2 Hh R (negEs ps b) c = allR2 Hh R ps b c := fun c => bool_iff (by
      rw [allN2_iff, allR2_iff, negEs_map]
      constructor
      · intro hh q hq
        rw [← ih q hq (d + 1) b (h3 q hq)]
        exact hh _ (List.mem_map.2 ⟨q, hq, rfl⟩)
      · intro hh q hq
        obtain ⟨p, hp, rfl⟩ := List.mem_map.1 hq
        rw [ih p hp (d + 1) b (h3 p hp)]
        exact hh p hp)
    rw [negE_of h4, holdsN, holdsR, hps]
    rcases node_in h2 with hk | hk
    · have hso : k = 3 → (decide (soP (turnO o) (and64 (R f) m) v)) = !decide (soP o (and64 (R f) m) v) := fun h3 => by
        obtain ⟨_, _, o1, o2⟩ := node_is h2 h3
        have hst := so_turn (a := and64 (R f) m) (b := v) o1 o2
        by_cases hs : soP o (and64 (R f) m) v
        · rw [decide_eq_true hs, decide_eq_false (fun h => hst.1 h hs)]; rfl
        · rw [decide_eq_false hs, decide_eq_true (hst.2 hs)]; rfl
      rcases hk with rfl | rfl | rfl | rfl | rfl <;> cases b <;> simp [turnK, isL]
      rw [hso rfl]
    · exact absurd hk.1 h4
/-- Not both hold; of a State that has all fields one does. -/
theorem one_of : ∀ (e : E) (d : Int), okE d e = true → ¬ (holdsR Hh R e false = true ∧ holdsR Hh R e true = true) ∧ (hasE Hh e = true → holdsR Hh R e false = true ∨ holdsR Hh R e true = true) := E.ind fun k f o v m z ps ih => by
  intro d h
  obtain ⟨h1, h2, h3⟩ := okE_parts h
  have hasp : hasE Hh (.mk k f o v m z ps) = true → (k = 3 → Hh f = true) ∧ ∀ q ∈ ps, hasE Hh q = true := by
    intro hh
    rw [hasE, Bool.and_eq_true, Bool.or_eq_true] at hh
    refine ⟨fun h3 => ?_, ?_⟩
    · rcases hh.1 with h | h
      · simp [h3] at h
      · exact h
    · have : ∀ l : List E, hasEs Hh l = true → ∀ q ∈ l, hasE Hh q = true := by
        intro l
        induction l with
        | nil => intro _ q hq; cases hq
        | cons a l ihl =>
          intro h q hq
          rw [hasEs, Bool.and_eq_true] at h
          cases hq with
          | head => exact h.1
          | tail _ hq => exact ihl h.2 q hq
      exact this ps hh.2
  by_cases h4 : k = 4
  · obtain ⟨q, hq, hm, _⟩ := first_of (ps := ps) (by unfold nodeP at h2; omega)
    rw [holdsR_not _ _ h4, holdsR_not _ _ h4, firstR_at _ _ hq, firstR_at _ _ hq]
    obtain ⟨i1, i2⟩ := ih q hm (d + 1) (h3 q hm)
    exact ⟨fun ⟨a, b⟩ => i1 ⟨b, a⟩, fun hh => (i2 ((hasp hh).2 q hm)).symm⟩
  · have ex : ∀ (x c : Bool), allR2 Hh R ps x c = false → ∃ q ∈ ps, holdsR Hh R q x = !c := fun x c hx => by
      refine Classical.byContradiction fun hn => ?_
      have : allR2 Hh R ps x c = true := (allR2_iff Hh R x c ps).2 fun q hq => by
        have : ¬ holdsR Hh R q x = !c := fun hc => hn ⟨q, hq, hc⟩
        cases hy : holdsR Hh R q x <;> cases c <;> simp_all
      rw [hx] at this; cases this
    rcases node_in h2 with hk | hk
    · rcases hk with rfl | rfl | rfl | rfl | rfl
      · simp [holdsR]
      · simp [holdsR]
      · rw [holdsR, holdsR]
        have := fun hh => (hasp hh).1 rfl
        cases hH : Hh f <;> cases hs : decide (soP o (and64 (R f) m) v) <;> simp_all
      · have e1 : holdsR Hh R (.mk 5 f o v m z ps) false = allR2 Hh R ps false true := by rw [holdsR]; simp
        have e2 : holdsR Hh R (.mk 5 f o v m z ps) true = !allR2 Hh R ps true false := by rw [holdsR]; simp
        rw [e1, e2]
        refine ⟨fun ⟨a, b⟩ => ?_, fun hh => ?_⟩
        · obtain ⟨q, hq, hx⟩ := ex true false (by simpa using b)
          exact (ih q hq (d + 1) (h3 q hq)).1 ⟨(allR2_iff Hh R _ _ ps).1 a q hq, hx⟩
        · cases ha : allR2 Hh R ps false true
          · obtain ⟨q, hq, hx⟩ := ex false true ha
            right
            rcases (ih q hq (d + 1) (h3 q hq)).2 ((hasp hh).2 q hq) with h | h
            · rw [hx] at h; cases h
            · cases hb : allR2 Hh R ps true false
              · rfl
              · have := (allR2_iff Hh R _ _ ps).1 hb q hq
                rw [h] at this; cases this
          · exact .inl rfl
      · have e1 : holdsR Hh R (.mk 6 f o v m z ps) false = !allR2 Hh R ps false false := by rw [holdsR]; simp
        have e2 : holdsR Hh R (.mk 6 f o v m z ps) true = allR2 Hh R ps true true := by rw [holdsR]; simp
        rw [e1, e2]
        refine ⟨fun ⟨a, b⟩ => ?_, fun hh => ?_⟩
        · obtain ⟨q, hq, hx⟩ := ex false false (by simpa using a)
          exact (ih q hq (d + 1) (h3 q hq)).1 ⟨hx, (allR2_iff Hh R _ _ ps).1 b q hq⟩
        · cases ha : allR2 Hh R ps true true
          · obtain ⟨q, hq, hx⟩ := ex true true ha
            left
            rcases (ih q hq (d + 1) (h3 q hq)).2 ((hasp hh).2 q hq) with h | h
            · cases hb : allR2 Hh R ps false false
              · rfl
              · have := (allR2_iff Hh R _ _ ps).1 hb q hq
                rw [h] at this; cases this
            · rw [hx] at h; cases h
          · exact .inr rfl
    · exact absurd hk.1 h4
end
end Go.Proofs.YtklcmgodhpediaaGreatDoor
