/- Are expressions the same, how deep are they, has a State their fields. -/
import Derived.Test.YtklcmgodhpediaaGreatDoorExS9
set_option linter.unusedSimpArgs false
set_option linter.unusedVariables false
set_option maxRecDepth 100000
namespace Go.Proofs.YtklcmgodhpediaaGreatDoor
open Go Go.Vm Go.Proofs

mutual
/-- How deep an expression is. -/
def deepE : E → Int
  | .mk _ _ _ _ _ _ ps => deepEs ps + 1
def deepEs : List E → Int
  | [] => 0
  | e :: r => max (deepE e) (deepEs r)
end
theorem deepEs_ge : ∀ l : List E, 0 ≤ deepEs l
  | [] => Int.le_refl _
  | e :: r => by have := deepEs_ge r; simp only [deepEs]; omega
theorem deepEs_le {b : Int} (hb : 0 ≤ b) : ∀ {l : List E}, (∀ q ∈ l, deepE q ≤ b) → deepEs l ≤ b
  | [], _ => hb
  | e :: r, h => by
    have h1 := h e (List.mem_cons_self)
    have h2 := deepEs_le hb (l := r) fun q hq => h q (List.mem_cons_of_mem _ hq)
    simp only [deepEs]; omega
theorem deep_ok : ∀ (e : E) (d : Int), okE d e = true → d + deepE e ≤ 65 := E.ind fun k f o v m z ps ih => by
  intro d hd
  obtain ⟨h64, _, hp⟩ := okE_parts hd
  have := deepEs_le (b := 64 - d) (by omega) (l := ps) fun q hq => by
    have := ih q hq (d + 1) (hp q hq)
    omega
  simp only [deepE]; omega
section
variable (Hh : Int → Bool)
end

end Go.Proofs.YtklcmgodhpediaaGreatDoor
/- What expressions say: in plain words. -/
set_option linter.unusedSimpArgs false
set_option linter.unusedVariables false
set_option maxRecDepth 100000
namespace Go.Proofs.YtklcmgodhpediaaGreatDoor
open Go Go.Vm Go.Proofs

def E.strip : E → E | .mk k f o v m _ ps => .mk k f o v m false ps
theorem negE_of {k f o v m : Int} {z : Bool} {ps : List E} {b : Bool} (h : k ≠ 4) : negE (.mk k f o v m z ps) b = .mk (if b then turnK k else k) f (if b then turnO o else o) v m false (negEs ps b) := by rw [negE, if_neg h]
theorem negE_not {k f o v m : Int} {z : Bool} {ps : List E} {b : Bool} {q : E} (h : k = 4) (hq : ps[0]? = some q) : negE (.mk k f o v m z ps) b = negE q (!b) := by rw [negE, if_pos h, firstN_at hq]
theorem first_of {ps : List E} (h : ps.length = 1) : ∃ q, ps[0]? = some q ∧ q ∈ ps ∧ ps = [q] := by
  match ps, h with
  | [q], _ => exact ⟨q, rfl, List.mem_cons_self, rfl⟩
theorem okEs_iff (d : Int) : ∀ ps : List E, okEs d ps = true ↔ ∀ q ∈ ps, okE d q = true
  | [] => by simp [okEs]
  | e :: r => by rw [okEs, Bool.and_eq_true, okEs_iff d r]; simp
theorem okE_mk {d k f o v m : Int} {z : Bool} {ps : List E} (h : d ≤ 64) (hn : nodeP k f o v m ps.length) (hp : ∀ q ∈ ps, okE (d + 1) q = true) : okE d (.mk k f o v m z ps) = true := by
  rw [okE_ok h hn]; exact (okEs_iff _ _).2 hp
theorem deepEs_mem : ∀ {l : List E} {q : E}, q ∈ l → deepE q ≤ deepEs l
  | e :: r, q, h => by
    simp only [deepEs]
    cases h with
    | head => omega
    | tail _ h => have := deepEs_mem h; omega
theorem ok_deep : ∀ (e : E) (d d2 : Int), okE d e = true → d2 + deepE e ≤ 65 → okE d2 e = true := E.ind fun k f o v m z ps ih => by
  intro d d2 h hd
  obtain ⟨h1, h2, h3⟩ := okE_parts h
  have hg := deepEs_ge ps
  simp only [deepE] at hd
  refine okE_mk (by omega) h2 fun q hq => ih q hq (d + 1) (d2 + 1) (h3 q hq) ?_
  have := deepEs_mem hq
  omega
theorem ok_mono {e : E} {d d2 : Int} (h : okE d e = true) (hd : d2 ≤ d) : okE d2 e = true := ok_deep e d d2 h (by have := deep_ok e d h; omega)
theorem node3 {f o v m : Int} {n : Nat} : nodeP 3 f o v m n ↔ n = 0 ∧ 1 ≤ f ∧ f ≤ 28 ∧ 1 ≤ o ∧ o ≤ 6 ∧ 0 < m ∧ m ≤ allN f ∧ andn v m = 0 ∧ (o ≤ 2 ∨ m = allN f) := by simp [nodeP]
theorem turn_node {k f o v m : Int} {n : Nat} (h : nodeP k f o v m n) (h4 : k ≠ 4) (b : Bool) : nodeP (if b then turnK k else k) f (if b then turnO o else o) v m n := by
  cases b
  · exact h
  · rcases node_kinds h h4 with ⟨rfl, rfl⟩ | ⟨rfl, rfl⟩ | ⟨rfl, rfl⟩ | ⟨rfl, rfl⟩ | ⟨rfl, ho⟩
    · simp [nodeP, turnK, turnO] at h ⊢; exact h
    · simp [nodeP, turnK, turnO] at h ⊢; exact h
    · simp [nodeP, turnK, turnO] at h ⊢; exact h
    · simp [nodeP, turnK, turnO] at h ⊢; exact h
    · rw [node3] at h
      show nodeP 3 f (turnO o) v m n
      rw [node3]
      obtain ⟨a1, a2, a3, a4, a5, a6, a7, a8, a9⟩ := h
      refine ⟨a1, a2, a3, ?_, ?_, a6, a7, a8, ?_⟩
      · rcases ho with rfl | rfl | rfl | rfl | rfl | rfl <;> decide
      · rcases ho with rfl | rfl | rfl | rfl | rfl | rfl <;> decide
      · rcases ho with rfl | rfl | rfl | rfl | rfl | rfl
        · exact .inl (by decide)
        · exact .inl (by decide)
        all_goals
          rcases a9 with h | h
          · exact absurd h (by decide)
          · exact .inr h
theorem turnK_range {k : Int} (h : -9223372036854775808 ≤ k ∧ k ≤ 9223372036854775807) : -9223372036854775808 ≤ turnK k ∧ turnK k ≤ 9223372036854775807 := by
  unfold turnK
  repeat' split
  all_goals omega
theorem turnO_range {k : Int} (h : -9223372036854775808 ≤ k ∧ k ≤ 9223372036854775807) : -9223372036854775808 ≤ turnO k ∧ turnO k ≤ 9223372036854775807 := by
  unfold turnO
  repeat' split
  all_goals omega
theorem neg_ok : ∀ (e : E) (d : Int) (b : Bool), okE d e = true → okE d (negE e b) = true := E.ind fun k f o v m z ps ih => by
  intro d b h
  obtain ⟨h1, h2, h3⟩ := okE_parts h
  by_cases h4 : k = 4
  · obtain ⟨q, hq, hm, _⟩ := first_of (ps := ps) (by unfold nodeP at h2; omega)
    rw [negE_not h4 hq]
    exact ok_mono (ih q hm (d + 1) (!b) (h3 q hm)) (by omega)
  · rw [negE_of h4]
    refine okE_mk h1 ?_ ?_
    · rw [negEs_map, List.length_map]; exact turn_node h2 h4 b
    · intro q hq
      rw [negEs_map] at hq
      obtain ⟨p, hp, rfl⟩ := List.mem_map.1 hq
      exact ih p hp _ _ (h3 p hp)
theorem neg_Ok : ∀ (e : E), e.Ok → ∀ (d : Int) (b : Bool), okE d e = true → (negE e b).Ok := E.ind fun k f o v m z ps ih => by
  intro hok d b h
  obtain ⟨h1, h2, h3⟩ := okE_parts h
  obtain ⟨hk, hf, ho, hv, hm, hl, hpo⟩ := hok
  by_cases h4 : k = 4
  · obtain ⟨q, hq, hm, _⟩ := first_of (ps := ps) (by unfold nodeP at h2; omega)
    rw [negE_not h4 hq]
    exact ih q hm (hpo q hm) (d + 1) _ (h3 q hm)
  · rw [negE_of h4]
    refine .mk ?_ hf ?_ hv hm ?_ ?_
    · cases b
      · exact hk
      · exact turnK_range hk
    · cases b
      · exact ho
      · exact turnO_range ho
    · rw [negEs_map, List.length_map]; exact hl
    · intro q hq
      rw [negEs_map] at hq
      obtain ⟨p, hp, rfl⟩ := List.mem_map.1 hq
      exact ih p hp (hpo p hp) _ _ (h3 p hp)
section
variable (Hh : Int → Bool) (R : Int → Int)
theorem allN2_iff (b : Bool) : ∀ ps : List E, allN2 Hh R ps b = true ↔ ∀ q ∈ ps, holdsN Hh R q = b
  | [] => by simp [allN2]
  | e :: r => by rw [allN2, Bool.and_eq_true, allN2_iff b r]; simp
theorem allR2_iff (d b : Bool) : ∀ ps : List E, allR2 Hh R ps d b = true ↔ ∀ q ∈ ps, holdsR Hh R q d = b
  | [] => by simp [allR2]
  | e :: r => by rw [allR2, Bool.and_eq_true, allR2_iff d b r]; simp
theorem bool_iff {a b : Bool} (h : a = true ↔ b = true) : a = b := by cases a <;> cases b <;> simp_all
theorem so_turn {o a b : Int} (h1 : 1 ≤ o) (h6 : o ≤ 6) : soP (turnO o) a b ↔ ¬ soP o a b := by
  have : o = 1 ∨ o = 2 ∨ o = 3 ∨ o = 4 ∨ o = 5 ∨ o = 6 := by omega
  rcases this with rfl | rfl | rfl | rfl | rfl | rfl <;> simp [turnO, soP] <;> omega
/-- The program's way and the document's way. -/
theorem holds_eq : ∀ (e : E) (d : Int) (b : Bool), okE d e = true → holdsN Hh R (negE e b) = holdsR Hh R e b := E.ind fun k f o v m z ps ih => by
  intro d b h
  obtain ⟨h1, h2, h3⟩ := okE_parts h
  by_cases h4 : k = 4
  · obtain ⟨q, hq, hm, _⟩ := first_of (ps := ps) (by unfold nodeP at h2; omega)
    rw [negE_not h4 hq, holdsR_not _ _ h4, firstR_at _ _ hq]
    exact ih q hm (d + 1) _ (h3 q hm)
  · have hps : ∀ c, allN2 Hh R (negEs ps b) c = allR2 Hh R ps b c := fun c => bool_iff (by
      rw [allN2_iff, allR2_iff, negEs_map]
      constructor
      · intro hh q hq
        rw [← ih q hq (d + 1) b (h3 q hq)]
        exact hh _ (List.mem_map.2 ⟨q, hq, rfl⟩)
      · intro hh q hq
        obtain ⟨p, hp, rfl⟩ := List.mem_map.1 hq
        rw [ih p hp (d + 1) b (h3 p hp)]
        exact hh p hp)
    rw [negE_of h4, holdsN, holdsR, hps]
    rcases node_in h2 with hk | hk
    · have hso : k = 3 → (decide (soP (turnO o) (and64 (R f) m) v)) = !decide (soP o (and64 (R f) m) v) := fun h3 => by
        obtain ⟨_, _, o1, o2⟩ := node_is h2 h3
        have hst := so_turn (a := and64 (R f) m) (b := v) o1 o2
        by_cases hs : soP o (and64 (R f) m) v
        · rw [decide_eq_true hs, decide_eq_false (fun h => hst.1 h hs)]; rfl
        · rw [decide_eq_false hs, decide_eq_true (hst.2 hs)]; rfl
      rcases hk with rfl | rfl | rfl | rfl | rfl <;> cases b <;> simp [turnK, isL]
      rw [hso rfl]
    · exact absurd hk.1 h4
end
end Go.Proofs.YtklcmgodhpediaaGreatDoor
/- The exported functions. -/
set_option linter.unusedSimpArgs false
set_option linter.unusedVariables false
set_option maxRecDepth 100000
namespace Go.Proofs.YtklcmgodhpediaaGreatDoor
open Go Go.Vm Go.Proofs

def chk (e : E) : Int := if okE 1 e then 0 else 150
def holdsX (Hh : Int → Bool) (R : Int → Int) (e : E) : Bool := okE 1 e && holdsN Hh R (negE e false)
theorem CheckS (e : E) (hok : e.Ok) (st : St) : FnS cx 10 [e.c] st (.int .i64 (chk e)) st := by
  have hr := rightS e hok 1 (by omega) (by omega)
  have hu := unown_c e
  have hp := E.pure e
  obtain ⟨y0, y1, y2, y3, y4, y5, hy⟩ := c_six e
  rw [hy] at hr hu hp ⊢
  unfold chk
  cases h : okE 1 e <;> rw [h] at hr
  all_goals
    refine goP Tryz.func10 rfl rfl rfl rfl ?_ ?_
    · simp only [List.map_cons, List.map_nil, hu, pureVs, hp, Bool.and_self]
    intro t ht
    have a0 : tget t 0 = .agg [y0, y1, y2, y3, y4, y5] := ht 0 _ (by simp only [List.map_cons, hu]; rfl)
    clear ht
    have ex := And.intro @a0 (And.intro @hpB (And.intro @hpE @zvE))
    repeat' (first
     | (with_reducible refine isO ?_); first
       | refine mvA (h := ?_)
       | refine asA (h := ?_)
       | refine quA (h := ?_)
       | refine caA (hc := hr _) (h := ?_)
     | (with_reducible refine isC ?_); first
       | refine ctA (h := ?_)
       | refine cfA (h := ?_)
       | refine cdA (h1 := fun _ => ?_) (h0 := fun _ => ?_)
       | refine cbA (h1 := fun _ => ?_) (h0 := fun _ => ?_)
     | with_reducible refine Ev.seq ?_
     | with_reducible refine Ev.ops ?_
     | with_reducible refine NxE ?_
     | with_reducible refine BxN ?_
     | with_reducible refine BxX ?_
     | with_reducible refine NxX ?_
     | with_reducible refine NxR ?_
     | with_reducible refine BxR ?_
     | with_reducible refine NxG ?_
     | with_reducible refine BxG ?_
     | with_reducible refine GxR ?_
     | with_reducible refine GxN ?_
     | with_reducible refine GxX ?_
     | with_reducible refine Ev.goto ?_
     | with_reducible refine Ev.block ?_
     | with_reducible refine Ev.skip ?_
     | with_reducible refine Ev.exit ?_
     | with_reducible refine Ev.ret ?_
     | with_reducible refine Ev.label ?_
     | with_reducible refine EvOps.nil ?_
     | with_reducible refine EvPlan.nil ?_
     | (with_reducible refine BxO ?_ ?_; · decide)
     )
    refine lfA (rl := [.tmp 2]) rfl (hv := by
      simp only [packV, strip, stripAgg, stripCell, List.map_cons, List.map_nil]
      rfl) (hp := rfl)

set_option maxHeartbeats 8000000 in
theorem HoldsS {SC : List V} {Hh : Int → Bool} {R : Int → Int} (hS : StOk SC Hh R) (e : E) (hok : e.Ok) (st : St) : FnS cx 14 [e.c, .agg SC] st (.bool (holdsX Hh R e)) st := by
  have hld := hS.load
  have hc := CheckS e hok
  cases h : okE 1 e
  · unfold chk at hc
    rw [h] at hc
    have hu := unown_c e
    have hp := E.pure e
    obtain ⟨y0, y1, y2, y3, y4, y5, hy⟩ := c_six e
    rw [hy] at hc hu hp ⊢
    refine goP Tryz.func14 rfl rfl rfl rfl ?_ ?_
    · simp only [List.map_cons, List.map_nil, hu, hS.own]; show (pureV (.agg [y0, y1, y2, y3, y4, y5]) && (pureVs SC && true)) = true; rw [hp, hS.pure]; rfl
    intro t ht
    have a0 : tget t 0 = .agg [y0, y1, y2, y3, y4, y5] := ht 0 _ (by simp only [List.map_cons, hu]; rfl)
    have a1 : tget t 1 = .agg SC := ht 1 _ (by simp only [List.map_cons, hS.own]; rfl)
    clear ht
    have ex := And.intro @a0 (And.intro @a1 (And.intro @hpB (And.intro @hpE @zvE)))
    have exd := @hld
    repeat' (first
     | (with_reducible refine isO ?_); first
       | refine mvA (h := ?_)
       | refine asA (h := ?_)
       | refine quA (h := ?_)
     | (with_reducible refine isP ?_); first
       | refine dqA (h := ?_)
       | refine dqAG (h := ?_)
       | refine dcA (i := 1) (l := []) (hc := hc _) (h := ?_)
       | refine dsA (h := ?_)
       | refine dtA (h := ?_)
       | refine dgA (h1 := fun _ => ?_) (h0 := fun _ => ?_)
     | (with_reducible refine isC ?_); first
       | refine ctA (h := ?_)
       | refine cfA (h := ?_)
       | refine cdA (h1 := fun _ => ?_) (h0 := fun _ => ?_)
       | refine cbA (h1 := fun _ => ?_) (h0 := fun _ => ?_)
     | (with_reducible refine isR ?_); first
       | refine Ev.drawn (by decide +kernel) (l := [0, 1, 2, 3, 4, 6, 5, 7, 8, 9]) (by decide +kernel) ?_
     | with_reducible refine Ev.seq ?_
     | with_reducible refine Ev.ops ?_
     | with_reducible refine NxE ?_
     | with_reducible refine BxN ?_
     | with_reducible refine BxX ?_
     | with_reducible refine NxX ?_
     | with_reducible refine NxR ?_
     | with_reducible refine BxR ?_
     | with_reducible refine NxG ?_
     | with_reducible refine BxG ?_
     | with_reducible refine GxR ?_
     | with_reducible refine GxN ?_
     | with_reducible refine GxX ?_
     | with_reducible refine Ev.goto ?_
     | with_reducible refine Ev.block ?_
     | with_reducible refine Ev.skip ?_
     | with_reducible refine Ev.exit ?_
     | with_reducible refine Ev.ret ?_
     | with_reducible refine Ev.label ?_
     | with_reducible refine EvOps.nil ?_
     | with_reducible refine EvPlan.nil ?_
     | (with_reducible refine BxO ?_ ?_; · decide)
     )
    all_goals refine lfA (rl := [.tmp 4]) rfl (hv := by
      simp only [packV, strip, stripAgg, stripCell, List.map_cons, List.map_nil]
      unfold holdsX; rw [h]; rfl) (hp := rfl)
  · unfold chk at hc
    rw [h] at hc
    have hpl := plainS e hok 1 h false
    have hho := holdsS hS (negE e false) (neg_Ok e hok 1 false h) 1 (neg_ok e 1 false h)
    obtain ⟨x0, x1, x2, x3, x4, x5, hx⟩ := c_six (negE e false)
    rw [hx] at hpl hho
    have hu := unown_c e
    have hp := E.pure e
    obtain ⟨y0, y1, y2, y3, y4, y5, hy⟩ := c_six e
    rw [hy] at hc hu hp hpl ⊢
    refine goP Tryz.func14 rfl rfl rfl rfl ?_ ?_
    · simp only [List.map_cons, List.map_nil, hu, hS.own]; show (pureV (.agg [y0, y1, y2, y3, y4, y5]) && (pureVs SC && true)) = true; rw [hp, hS.pure]; rfl
    intro t ht
    have a0 : tget t 0 = .agg [y0, y1, y2, y3, y4, y5] := ht 0 _ (by simp only [List.map_cons, hu]; rfl)
    have a1 : tget t 1 = .agg SC := ht 1 _ (by simp only [List.map_cons, hS.own]; rfl)
    clear ht
    have ex := And.intro @a0 (And.intro @a1 (And.intro @hpB (And.intro @hpE @zvE)))
    have exd := @hld
    repeat' (first
     | (with_reducible refine isO ?_); first
       | refine mvA (h := ?_)
       | refine asA (h := ?_)
       | refine quA (h := ?_)
     | (with_reducible refine isP ?_); first
       | refine dqA (h := ?_)
       | refine dqAG (h := ?_)
       | refine dcA (i := 1) (l := []) (hc := hc _) (h := ?_)
       | refine dcAG (i := 5) (l := [6]) (hc := hpl _) (h := ?_)
       | refine dcAG (i := 7) (l := []) (hc := hho _) (h := ?_)
       | refine dsA (h := ?_)
       | refine dtA (h := ?_)
       | refine dgA (h1 := fun _ => ?_) (h0 := fun _ => ?_)
     | (with_reducible refine isC ?_); first
       | refine ctA (h := ?_)
       | refine cfA (h := ?_)
       | refine cdA (h1 := fun _ => ?_) (h0 := fun _ => ?_)
       | refine cbA (h1 := fun _ => ?_) (h0 := fun _ => ?_)
     | (with_reducible refine isR ?_); first
       | refine Ev.drawn (by decide +kernel) (l := [0, 1, 2, 3, 4, 6, 5, 7, 8, 9]) (by decide +kernel) ?_
     | with_reducible refine Ev.seq ?_
     | with_reducible refine Ev.ops ?_
     | with_reducible refine NxE ?_
     | with_reducible refine BxN ?_
     | with_reducible refine BxX ?_
     | with_reducible refine NxX ?_
     | with_reducible refine NxR ?_
     | with_reducible refine BxR ?_
     | with_reducible refine NxG ?_
     | with_reducible refine BxG ?_
     | with_reducible refine GxR ?_
     | with_reducible refine GxN ?_
     | with_reducible refine GxX ?_
     | with_reducible refine Ev.goto ?_
     | with_reducible refine Ev.block ?_
     | with_reducible refine Ev.skip ?_
     | with_reducible refine Ev.exit ?_
     | with_reducible refine Ev.ret ?_
     | with_reducible refine Ev.label ?_
     | with_reducible refine EvOps.nil ?_
     | with_reducible refine EvPlan.nil ?_
     | (with_reducible refine BxO ?_ ?_; · decide)
     )
    all_goals refine lfA (rl := [.tmp 4]) rfl (hv := by
      simp only [packV, strip, stripAgg, stripCell, List.map_cons, List.map_nil]
      unfold holdsX; rw [h]; rfl) (hp := rfl)

end Go.Proofs.YtklcmgodhpediaaGreatDoor
