/- Tokens: sizes, places, and a blank behind. -/
import Derived.Test.YtklcmgodhpediaaGreatDoorExLP1
set_option linter.unusedSimpArgs false
set_option linter.unusedVariables false
namespace Go.Proofs.YtklcmgodhpediaaGreatDoor.L
open Go Go.Vm Go.Proofs Go.Proofs.YtklcmgodhpediaaGreatDoor

section
variable {p : Int → Prop} [DecidablePred p]
theorem spanU_yes {c : UInt8} {r : List UInt8} (h : p c.toNat) : spanU p (c :: r) = spanU p r + 1 := by
  unfold spanU; rw [List.takeWhile_cons, if_pos (by simpa using h)]; rfl
theorem spanU_no {c : UInt8} {r : List UInt8} (h : ¬ p c.toNat) : spanU p (c :: r) = 0 := by
  unfold spanU; rw [List.takeWhile_cons, if_neg (by simpa using h)]; rfl
theorem spanU_le : ∀ (u : List UInt8), spanU p u ≤ u.length
  | [] => Nat.le_refl _
  | c :: r => by
    by_cases h : p c.toNat
    · rw [spanU_yes h]; have := spanU_le r; simp; omega
    · rw [spanU_no h]; simp
theorem spanU_all {r : List UInt8} (hr : ∀ c, r.head? = some c → ¬ p c.toNat) : ∀ (w : List UInt8), (∀ c ∈ w, p c.toNat) → spanU p (w ++ r) = w.length
  | [], _ => by
    cases r with
    | nil => rfl
    | cons c r => exact spanU_no (hr c rfl)
  | c :: w, h => by
    rw [List.cons_append, spanU_yes (h c (by simp)), spanU_all hr w (fun d hd => h d (by simp [hd]))]; rfl
end

/-! Sizes. -/
theorem macT_len {u : List UInt8} {m : Nat} (h : macT u = some m) : 17 ≤ u.length ∧ macR (u.take 17) = some m ∧ endsU (u.drop 17) = true := by
  unfold macT at h
  split at h
  · cases h
  · rw [Option.bind_eq_some_iff] at h
    obtain ⟨y, hy, h⟩ := h
    split at h
    · cases h; exact ⟨by omega, hy, by assumption⟩
    · cases h
theorem addrF_len {u : List UInt8} {n a : Nat} : ∀ {k : Nat}, addrF u k = some (n, a) → 1 ≤ n ∧ n ≤ k ∧ addrR (u.take n) = some a ∧ endsU (u.drop n) = true
  | 0, h => by simp [addrF] at h
  | k + 1, h => by
    unfold addrF at h
    split at h
    · rename_i b hb
      split at h
      · simp only [Option.some.injEq, Prod.mk.injEq] at h
        obtain ⟨rfl, rfl⟩ := h
        exact ⟨by omega, Nat.le_refl _, hb, by assumption⟩
      · have := addrF_len h; exact ⟨this.1, by omega, this.2.2⟩
    · have := addrF_len h; exact ⟨this.1, by omega, this.2.2⟩
theorem addrT_len {u : List UInt8} {n a : Nat} (h : addrT u = some (n, a)) : 1 ≤ n ∧ n ≤ u.length ∧ addrR (u.take n) = some a ∧ endsU (u.drop n) = true := by
  have := addrF_len h
  exact ⟨this.1, Nat.le_trans this.2.1 (spanU_le _), this.2.2⟩
theorem numT_len {u : List UInt8} {n x : Nat} (h : numT u = some (n, x)) : 1 ≤ n ∧ n ≤ u.length := by
  unfold numT at h
  split at h
  · rename_i hp
    split at h
    · cases h
    · simp only [Option.bind_eq_some_iff] at h
      obtain ⟨y, _, h⟩ := h
      split at h
      · simp only [Option.some.injEq, Prod.mk.injEq] at h
        have hl := spanU_le (p := hexP) (u.drop 2)
        have : 2 ≤ u.length := by
          cases u with
          | nil => simp [List.isPrefixOf] at hp
          | cons c r =>
            cases r with
            | nil => simp [List.isPrefixOf] at hp
            | cons d r => simp
        simp only [List.length_drop] at hl
        omega
      · cases h
  · split at h
    · cases h
    · simp only [Option.bind_eq_some_iff] at h
      obtain ⟨y, hy, h⟩ := h
      split at h
      · simp only [Option.some.injEq, Prod.mk.injEq] at h
        have hl := spanU_le (p := digP) u
        have h0 : spanU digP u ≠ 0 := by
          intro e
          rw [e, List.take_zero] at hy
          simp [puR, puE] at hy
        omega
      · cases h
theorem quoT_len {c : UInt8} {r : List UInt8} {n : Nat} (h : quoT (c :: r) = some n) : n = spanU textP r ∧ n ≤ 64 ∧ r[n]? = some 34 ∧ n < r.length := by
  unfold quoT at h
  have e : (c :: r).drop 1 = r := rfl
  rw [e] at h
  split at h
  · cases h
  · rename_i hc
    cases h
    have h2 : r[spanU textP r]? = some 34 := Classical.not_not.1 fun x => hc (.inr x)
    exact ⟨rfl, by omega, h2, (List.getElem?_eq_some_iff.1 h2).1⟩
theorem prefix_take : ∀ {o u : List UInt8}, o.isPrefixOf u = true → o = u.take o.length ∧ o.length ≤ u.length
  | [], u, _ => by simp
  | b :: o, [], h => by simp [List.isPrefixOf] at h
  | b :: o, c :: u, h => by
    simp only [List.isPrefixOf, Bool.and_eq_true, beq_iff_eq] at h
    obtain ⟨rfl, h⟩ := h
    have := prefix_take h
    refine ⟨?_, by simpa using this.2⟩
    rw [List.length_cons, List.take_succ_cons, ← this.1]
theorem opT_len {u o : List UInt8} (h : opT u = some o) : o ∈ opsL ∧ o = u.take o.length ∧ o.length ≤ u.length ∧ 1 ≤ o.length := by
  have h1 := List.mem_of_find?_eq_some h
  have h2 := prefix_take (by simpa using List.find?_some h : o.isPrefixOf u = true)
  refine ⟨h1, h2.1, h2.2, ?_⟩
  revert h1
  clear h h2
  revert o
  decide

theorem stepU_tok {c : UInt8} {r : List UInt8} {k n : Nat} {t : List UInt8} {x : Nat} (h : stepU c r = .tok k n t x) : 1 ≤ n ∧ n ≤ r.length + 1 ∧ ((k ≠ 6 ∧ t.length = n ∧ t = (c :: r).take n) ∨ (k = 6 ∧ n = t.length + 2 ∧ t = r.take t.length)) ∧ 1 ≤ k ∧ k ≤ 6 := by
  unfold stepU at h
  split at h
  · cases h
  split at h
  · cases h
  split at h
  · rename_i m hm
    have := (macT_len hm).1
    simp only [Tk.tok.injEq] at h
    obtain ⟨rfl, rfl, rfl, rfl⟩ := h
    have e : (c :: r).length = r.length + 1 := rfl
    exact ⟨by omega, by omega, .inl ⟨by omega, by rw [List.length_take]; omega, rfl⟩, by omega, by omega⟩
  split at h
  · rename_i n' a ha
    have := addrT_len ha
    simp only [Tk.tok.injEq] at h
    obtain ⟨rfl, rfl, rfl, rfl⟩ := h
    have e : (c :: r).length = r.length + 1 := rfl
    exact ⟨by omega, by omega, .inl ⟨by omega, by rw [List.length_take]; omega, rfl⟩, by omega, by omega⟩
  split at h
  · split at h
    · rename_i n' a ha
      have := numT_len ha
      simp only [Tk.tok.injEq] at h
      obtain ⟨rfl, rfl, rfl, rfl⟩ := h
      have e : (c :: r).length = r.length + 1 := rfl
      exact ⟨by omega, by omega, .inl ⟨by omega, by rw [List.length_take]; omega, rfl⟩, by omega, by omega⟩
    · cases h
  split at h
  · rename_i hl
    simp only [Tk.tok.injEq] at h
    obtain ⟨rfl, rfl, rfl, rfl⟩ := h
    have h1 : spanU nameP (c :: r) = spanU nameP r + 1 := spanU_yes (.inl (.inl hl))
    have h2 := spanU_le (p := nameP) (c :: r)
    have e : (c :: r).length = r.length + 1 := rfl
    exact ⟨by omega, by omega, .inl ⟨by omega, by rw [List.length_take]; omega, rfl⟩, by omega, by omega⟩
  split at h
  · split at h
    · rename_i n' hn
      have := quoT_len hn
      simp only [Tk.tok.injEq] at h
      obtain ⟨rfl, rfl, rfl, rfl⟩ := h
      have e : (r.take n').length = n' := by rw [List.length_take]; omega
      exact ⟨by omega, by omega, .inr ⟨rfl, by omega, by rw [e]⟩, by omega, by omega⟩
    · cases h
  split at h
  · rename_i o ho
    have := opT_len ho
    simp only [Tk.tok.injEq] at h
    obtain ⟨rfl, rfl, rfl, rfl⟩ := h
    have e : (c :: r).length = r.length + 1 := rfl
    exact ⟨this.2.2.2, by omega, .inl ⟨by omega, rfl, this.2.1⟩, by omega, by omega⟩
  · cases h
theorem stepU_skip {c : UInt8} {r : List UInt8} {n : Nat} (h : stepU c r = .skip n) : 1 ≤ n ∧ n ≤ r.length + 1 ∧ (c = 35 → n = spanU lineP (c :: r)) := by
  unfold stepU at h
  split at h
  · rename_i hc
    simp only [Tk.skip.injEq] at h
    subst h
    exact ⟨Nat.le_refl _, by omega, fun e => by subst e; exact absurd hc (by decide)⟩
  split at h
  · rename_i hc
    subst hc
    simp only [Tk.skip.injEq] at h
    subst h
    have h1 : spanU lineP ((35 : UInt8) :: r) = spanU lineP r + 1 := spanU_yes (by decide)
    have h2 := spanU_le (p := lineP) r
    exact ⟨by omega, by omega, fun _ => rfl⟩
  split at h
  · cases h
  split at h
  · cases h
  split at h
  · split at h <;> cases h
  split at h
  · cases h
  split at h
  · split at h <;> cases h
  split at h <;> cases h

/-! The tokens of a text with a blank behind. -/
def sameK (x y : Tok) : Prop := x.kind = y.kind ∧ x.text = y.text ∧ x.num = y.num
inductive Same : List Tok → List Tok → Prop where
  | nil : Same [] []
  | cons {x y : Tok} {l m : List Tok} : sameK x y → Same l m → Same (x :: l) (y :: m)
theorem Same.length {l m : List Tok} (h : Same l m) : l.length = m.length := by
  induction h with
  | nil => rfl
  | cons _ _ ih => simp [ih]
/-! Places. -/
end Go.Proofs.YtklcmgodhpediaaGreatDoor.L
