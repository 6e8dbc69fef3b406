/- Tokens that are read again. -/
import Derived.Test.YtklcmgodhpediaaGreatDoorExLP3
set_option linter.unusedSimpArgs false
set_option linter.unusedVariables false
namespace Go.Proofs.YtklcmgodhpediaaGreatDoor.L
open Go Go.Vm Go.Proofs Go.Proofs.YtklcmgodhpediaaGreatDoor

def stepL : List UInt8 → Tk
  | [] => .bad
  | c :: r => stepU c r
def Sep (r : List UInt8) : Prop := r = [] ∨ ∃ d v, r = d :: v ∧ (d = 32 ∨ d = 44 ∨ d = 47 ∨ d = 41 ∨ d = 125) ∧ v.head? ≠ some 58
theorem Sep.ends {r : List UInt8} (h : Sep r) : endsU r = true := by
  rcases h with rfl | ⟨d, v, rfl, hd, _⟩
  · rfl
  · have e : endsU (d :: v) = !decide (letP d.toNat ∨ digP d.toNat) := rfl
    rw [e]
    clear e
    rcases hd with rfl | rfl | rfl | rfl | rfl <;> decide
theorem Sep.head {r : List UInt8} (h : Sep r) {p : Int → Prop} (h1 : ¬ p 32) (h2 : ¬ p 44) (h3 : ¬ p 47) (h4 : ¬ p 41) (h5 : ¬ p 125) : ∀ c, r.head? = some c → ¬ p c.toNat := by
  rcases h with rfl | ⟨d, v, rfl, hd, _⟩
  · intro c hc; cases hc
  · intro c hc
    cases hc
    rcases hd with rfl | rfl | rfl | rfl | rfl
    · exact h1
    · exact h2
    · exact h3
    · exact h4
    · exact h5
theorem Sep.third {r : List UInt8} (h : Sep r) {w : List UInt8} (hw : ∀ c ∈ w, c ≠ 58) (h0 : w ≠ []) : (w ++ r)[2]? ≠ some 58 := by
  match w, h0 with
  | [a], _ =>
    rcases h with rfl | ⟨d, v, rfl, hd, hv⟩
    · simp
    · have : ([a] ++ d :: v)[2]? = v.head? := by cases v <;> rfl
      rw [this]; exact hv
  | [a, b], _ =>
    rcases h with rfl | ⟨d, v, rfl, hd, hv⟩
    · simp
    · have : ([a, b] ++ d :: v)[2]? = some d := rfl
      rw [this]
      rcases hd with rfl | rfl | rfl | rfl | rfl <;> decide
  | a :: b :: c :: w, _ =>
    have : ((a :: b :: c :: w) ++ r)[2]? = some c := rfl
    rw [this]
    intro e
    cases e
    exact hw 58 (by simp) rfl

theorem macT_no3 {u : List UInt8} (h : u[2]? ≠ some 58) : macT u = none := by
  cases hm : macT u with
  | none => rfl
  | some m =>
    obtain ⟨h1, h2, _⟩ := macT_len hm
    have hs := macR_some h2
    obtain ⟨a, b, c, d, e, f, g, h', i, j, k, l, _, _, _, e'⟩ := macText_eq m
    rw [e'] at hs
    have := congrArg (·[2]?) hs
    simp only [List.getElem?_take] at this
    simp at this
    exact absurd this h
theorem macT_no1 {c : UInt8} {r : List UInt8} (h : ¬ hexP c.toNat) : macT (c :: r) = none := by
  cases hm : macT (c :: r) with
  | none => rfl
  | some m =>
    obtain ⟨h1, h2, _⟩ := macT_len hm
    have hs := macR_some h2
    obtain ⟨a, b, c', d, e, f, g, h', i, j, k, l, ha, _, _, e'⟩ := macText_eq m
    rw [e'] at hs
    simp only [List.take_succ_cons, List.cons.injEq] at hs
    exact absurd (hs.1 ▸ hexD_hexP ha) h
theorem addrF_no {u : List UInt8} : ∀ k, (46 : UInt8) ∉ u.take k → addrF u k = none
  | 0, _ => rfl
  | k + 1, h => by
    unfold addrF
    have hk : (46 : UInt8) ∉ u.take k := fun x => h (List.IsPrefix.subset (List.take_prefix_take_left (by omega)) x)
    cases ha : addrR (u.take (k + 1)) with
    | none => exact addrF_no k hk
    | some a => rw [addrR_some ha] at h; exact absurd (addrText_dot a) h
theorem addrT_no0 {c : UInt8} {r : List UInt8} (h : ¬ dotP c.toNat) : addrT (c :: r) = none := by
  unfold addrT; rw [spanU_no h]; rfl

theorem nameP_blank {c : UInt8} (h : nameP c.toNat) : ¬ (c = 32 ∨ c = 9 ∨ c = 10 ∨ c = 13) ∧ c ≠ 35 ∧ c ≠ 58 := by
  refine ⟨?_, ?_, ?_⟩
  · rintro (rfl | rfl | rfl | rfl) <;> exact absurd h (by decide)
  · rintro rfl; exact absurd h (by decide)
  · rintro rfl; exact absurd h (by decide)
theorem dot_name {c : Int} (h : dotP c) : nameP c := by
  rcases h with h | h
  · exact .inl (.inr h)
  · exact .inr h

theorem hex_again {w : List UInt8} {x : Nat} {r : List UInt8} (hw : ∀ c ∈ w, hexP c.toNat) (hl : w.length ≤ 16) (hx : puR 16 18446744073709551615 w = some x) (hr : Sep r) : stepL (48 :: 120 :: w ++ r) = .tok 2 (w.length + 2) (48 :: 120 :: w) x := by
  have h0 : w ≠ [] := by rintro rfl; simp [puR, puE] at hx
  have hm : macT (48 :: 120 :: w ++ r) = none := by
    apply macT_no3
    cases w with
    | nil => exact absurd rfl h0
    | cons c w =>
      have : (48 :: 120 :: (c :: w) ++ r)[2]? = some c := rfl
      rw [this]
      intro e
      cases e
      exact absurd (hw 58 (by simp)) (by decide)
  have ha : addrT (48 :: 120 :: w ++ r) = none := by
    unfold addrT
    have : spanU dotP (48 :: 120 :: w ++ r) = 1 := by
      have e : (48 :: 120 :: w ++ r : List UInt8) = 48 :: (120 :: (w ++ r)) := rfl
      rw [e, spanU_yes (by decide), spanU_no (by decide)]
    rw [this]
    exact addrF_no 1 (by simp)
  have hn : numT (48 :: 120 :: w ++ r) = some (w.length + 2, x) := by
    unfold numT
    rw [if_pos (by simp [List.isPrefixOf])]
    have e : (48 :: 120 :: w ++ r).drop 2 = w ++ r := rfl
    have hsp : spanU hexP (w ++ r) = w.length := spanU_all (hr.head (by decide) (by decide) (by decide) (by decide) (by decide)) w hw
    have ht : (w ++ r).take w.length = w := List.take_left
    have hd : (48 :: 120 :: w ++ r).drop (w.length + 2) = r := by
      have : (48 :: 120 :: w).length = w.length + 2 := rfl
      rw [← this]; exact List.drop_left
    rw [e, hsp, if_neg (by omega), ht, hx, hd, hr.ends]; rfl
  have ht : (48 :: 120 :: w ++ r).take (w.length + 2) = 48 :: 120 :: w := by
    have : (48 :: 120 :: w).length = w.length + 2 := rfl
    rw [← this]; exact List.take_left
  show stepU 48 (120 :: w ++ r) = _
  have e : (48 : UInt8) :: (120 :: w ++ r) = 48 :: 120 :: w ++ r := rfl
  unfold stepU
  rw [if_neg (by decide), if_neg (by decide), e, hm]
  dsimp only
  rw [ha]
  dsimp only
  rw [if_pos (by decide), hn]
  dsimp only
  rw [ht]
theorem dec_again {w : List UInt8} {x : Nat} {r : List UInt8} (hw : ∀ c ∈ w, digP c.toNat) (hl : ¬ (1 < w.length ∧ w.getD 0 0 = 48)) (hx : puR 10 18446744073709551615 w = some x) (hr : Sep r) : stepL (w ++ r) = .tok 2 w.length w x := by
  have h0 : w ≠ [] := by rintro rfl; simp [puR, puE] at hx
  have hne : ∀ c ∈ w, ∀ d : UInt8, ¬ digP d.toNat → c ≠ d := fun c hc d hd e => hd (e ▸ hw c hc)
  have hm : macT (w ++ r) = none := macT_no3 (hr.third (fun c hc => hne c hc 58 (by decide)) h0)
  have hsp : spanU dotP (w ++ r) = w.length := spanU_all (hr.head (by decide) (by decide) (by decide) (by decide) (by decide)) w (fun c hc => .inl (hw c hc))
  have hsd : spanU digP (w ++ r) = w.length := spanU_all (hr.head (by decide) (by decide) (by decide) (by decide) (by decide)) w hw
  have ht : (w ++ r).take w.length = w := List.take_left
  have hd : (w ++ r).drop w.length = r := List.drop_left
  have ha : addrT (w ++ r) = none := by
    unfold addrT
    rw [hsp]
    refine addrF_no _ ?_
    rw [ht]
    intro h46
    exact absurd (hw _ h46) (by decide)
  have hn : numT (w ++ r) = some (w.length, x) := by
    unfold numT
    have hp : ¬ [48, 120].isPrefixOf (w ++ r) = true := by
      intro hp
      match w, h0 with
      | [a], _ =>
        rcases hr with rfl | ⟨d, v, rfl, hd, _⟩
        · simp [List.isPrefixOf] at hp
        · rcases hd with rfl | rfl | rfl | rfl | rfl <;> simp [List.isPrefixOf] at hp
      | a :: b :: w, _ =>
        simp [List.isPrefixOf] at hp
        exact absurd (hw b (by simp)) (by rw [← hp.2]; decide)
    rw [if_neg hp, hsd, if_neg (by
      rintro ⟨h1, h2⟩
      apply hl
      refine ⟨h1, ?_⟩
      cases w with
      | nil => exact absurd rfl h0
      | cons c w => exact h2), ht, hx, hd, hr.ends]; rfl
  cases w with
  | nil => exact absurd rfl h0
  | cons c w =>
    have hdg : digP c.toNat := hw c (by simp)
    have hb := nameP_blank (dot_name (.inl hdg))
    show stepU c (w ++ r) = _
    have e : c :: (w ++ r) = (c :: w) ++ r := rfl
    unfold stepU
    rw [if_neg hb.1, if_neg hb.2.1, e, hm]
    dsimp only
    rw [ha]
    dsimp only
    rw [if_pos hdg, hn]
    dsimp only
    rw [ht]
theorem name_again {c : UInt8} {w r : List UInt8} (hc : letP c.toNat) (hw : ∀ d ∈ w, nameP d.toNat) (hr : Sep r) : stepL (c :: w ++ r) = .tok 1 (w.length + 1) (c :: w) 0 := by
  have hcn : nameP c.toNat := .inl (.inl hc)
  have hall : ∀ d ∈ c :: w, nameP d.toNat := fun d hd => by rcases List.mem_cons.1 hd with rfl | hd; exact hcn; exact hw d hd
  have hm : macT (c :: w ++ r) = none := macT_no3 (hr.third (fun d hd e => by subst e; exact absurd (hall _ hd) (by decide)) (by simp))
  have hnd : ¬ dotP c.toNat := by unfold letP at hc; unfold dotP digP; omega
  have ha : addrT (c :: w ++ r) = none := addrT_no0 hnd
  have hsp : spanU nameP (c :: w ++ r) = (c :: w).length := spanU_all (hr.head (by decide) (by decide) (by decide) (by decide) (by decide)) (c :: w) hall
  have ht : (c :: w ++ r).take (c :: w).length = c :: w := List.take_left
  have hb := nameP_blank hcn
  show stepU c (w ++ r) = _
  have e : c :: (w ++ r) = (c :: w) ++ r := rfl
  unfold stepU
  rw [if_neg hb.1, if_neg hb.2.1, e, hm]
  dsimp only
  rw [ha]
  dsimp only
  rw [if_neg (fun x => hnd (.inl x)), if_pos hc, hsp, ht]; rfl
theorem step_op {c : UInt8} {r o : List UInt8} (hb : ¬ (c = 32 ∨ c = 9 ∨ c = 10 ∨ c = 13)) (h35 : c ≠ 35) (hx : ¬ hexP c.toNat) (ha : addrT (c :: r) = none) (hl : ¬ letP c.toNat) (h34 : c ≠ 34) (ho : opT (c :: r) = some o) : stepL (c :: r) = .tok 5 o.length o 0 := by
  show stepU c r = _
  unfold stepU
  rw [if_neg hb, if_neg h35, macT_no1 hx]
  dsimp only
  rw [ha]
  dsimp only
  rw [if_neg (fun x => hx (.inl x)), if_neg hl, if_neg h34, ho]
theorem op_again {o r : List UInt8} (ho : o ∈ opsL) (hr : Sep r) : stepL (o ++ r) = .tok 5 o.length o 0 := by
  have key : ∀ (c : UInt8) (w : List UInt8), ¬ (c = 32 ∨ c = 9 ∨ c = 10 ∨ c = 13) → c ≠ 35 → ¬ hexP c.toNat → ¬ dotP c.toNat → ¬ letP c.toNat → c ≠ 34 → opT (c :: (w ++ r)) = some (c :: w) → stepL (c :: w ++ r) = .tok 5 (c :: w).length (c :: w) 0 :=
    fun c w h1 h2 h3 h4 h5 h6 h7 => step_op h1 h2 h3 (addrT_no0 h4) h5 h6 h7
  have hop : ∀ o ∈ opsL, opT (o ++ r) = some o := by
    rcases hr with rfl | ⟨d, v, rfl, hd, _⟩
    · decide
    · intro o ho
      simp only [opsL, List.mem_cons, List.not_mem_nil, or_false] at ho
      rcases hd with rfl | rfl | rfl | rfl | rfl <;> rcases ho with rfl | rfl | rfl | rfl | rfl | rfl | rfl | rfl | rfl | rfl | rfl | rfl | rfl | rfl | rfl | rfl <;> rfl
  have h7 := hop o ho
  simp only [opsL, List.mem_cons, List.not_mem_nil, or_false] at ho
  rcases ho with rfl | rfl | rfl | rfl | rfl | rfl | rfl | rfl | rfl | rfl | rfl | rfl | rfl | rfl | rfl | rfl
  case inr.inr.inr.inr.inr.inr.inl =>
    refine step_op (c := 46) (r := 46 :: r) (o := [46, 46]) (by decide) (by decide) (by decide) ?_ (by decide) (by decide) h7
    unfold addrT
    have : spanU dotP (46 :: 46 :: r) = 2 := spanU_all (p := dotP) (hr.head (by decide) (by decide) (by decide) (by decide) (by decide)) [46, 46] (by decide)
    rw [this]
    have e1 : addrR ((46 :: 46 :: r).take 2) = none := by
      have : addrR [46, 46] = none := by decide +kernel
      exact this
    have e2 : addrR ((46 :: 46 :: r).take 1) = none := by
      have : addrR [46] = none := by decide +kernel
      exact this
    simp only [addrF, e1, e2]
  all_goals exact key _ _ (by decide) (by decide) (by decide) (by decide) (by decide) (by decide) h7
end Go.Proofs.YtklcmgodhpediaaGreatDoor.L
/- Tokens joined and read again; the tokens of numbers. -/
namespace Go.Proofs.YtklcmgodhpediaaGreatDoor.L
open Go Go.Vm Go.Proofs Go.Proofs.YtklcmgodhpediaaGreatDoor

def Tok.w (t : Tok) : List UInt8 := if t.kind = 6 then 34 :: (t.text ++ [34]) else t.text
structure Good (t : Tok) (k x n : Nat) : Prop where
  kind : t.kind = k
  num : t.num = x
  n1 : 1 ≤ n
  len : t.w.length = n
  k6 : k ≤ 6
  again : ∀ r, Sep r → stepL (t.w ++ r) = .tok k n t.text x
  colon : t.w.head? ≠ some 58

inductive Goods : List Tok → Prop where
  | nil : Goods []
  | cons {t : Tok} {k x n : Nat} {l : List Tok} : Good t k x n → Goods l → Goods (t :: l)
theorem stepU_sp (r : List UInt8) : stepU 32 r = .skip 1 := rfl
/-! The tokens of numbers and addresses. -/
theorem hex_tok (u : Nat) (hu : u < 18446744073709551616) {r : List UInt8} (hr : Sep r) : stepL (48 :: 120 :: hexDigits u ++ r) = .tok 2 ((hexDigits u).length + 2) (48 :: 120 :: hexDigits u) u :=
  hex_again (hexU_hexP u) (hexU_length u 15 (by simpa using hu)) (puR_hex (by omega)) hr

theorem lexR_step {w r t : List UInt8} {k x : Nat} (h0 : w ≠ []) (h : stepL (w ++ r) = .tok k w.length t x) (f a : Nat) : lexR (f + 1) (w ++ r) a = match lexR f r (a + w.length) with | .inl l => .inl (⟨k, t, x, a⟩ :: l) | .inr e => .inr e := by
  cases w with
  | nil => exact absurd rfl h0
  | cons c w =>
    have hs : stepU c (w ++ r) = .tok k (c :: w).length t x := h
    simp only [List.cons_append, lexR, hs]
    have : (c :: (w ++ r)).drop (c :: w).length = r := List.drop_left (l₁ := c :: w)
    rw [this]
    cases lexR f r (a + (c :: w).length) <;> rfl

end Go.Proofs.YtklcmgodhpediaaGreatDoor.L
