/- Tokens: sizes, places, and a blank behind. -/
import Derived.Test.YtmdiieignlidhaaDoorLexP2
set_option linter.unusedSimpArgs false
set_option linter.unusedVariables false
namespace Go.Proofs.YtmdiieignlidhaaDoor
open Go Go.Vm Go.Proofs

section
variable {p : Int → Prop} [DecidablePred p]
theorem spanU_nil : spanU p [] = 0 := rfl
theorem spanU_yes {c : UInt8} {r : List UInt8} (h : p c.toNat) : spanU p (c :: r) = spanU p r + 1 := by
  unfold spanU; rw [List.takeWhile_cons, if_pos (by simpa using h)]; rfl
theorem spanU_no {c : UInt8} {r : List UInt8} (h : ¬ p c.toNat) : spanU p (c :: r) = 0 := by
  unfold spanU; rw [List.takeWhile_cons, if_neg (by simpa using h)]; rfl
theorem spanU_le : ∀ (u : List UInt8), spanU p u ≤ u.length
  | [] => Nat.le_refl _
  | c :: r => by
    by_cases h : p c.toNat
    · rw [spanU_yes h]; have := spanU_le r; simp; omega
    · rw [spanU_no h]; simp
theorem spanU_lt_at : ∀ (u : List UInt8) (i : Nat), i < spanU p u → ∃ c, u[i]? = some c ∧ p c.toNat
  | [], i, h => by simp [spanU_nil] at h
  | c :: r, i, h => by
    by_cases hc : p c.toNat
    · rw [spanU_yes hc] at h
      cases i with
      | zero => exact ⟨c, rfl, hc⟩
      | succ i => obtain ⟨d, h1, h2⟩ := spanU_lt_at r i (by omega); exact ⟨d, by simpa using h1, h2⟩
    · rw [spanU_no hc] at h; omega
theorem spanU_all {r : List UInt8} (hr : ∀ c, r.head? = some c → ¬ p c.toNat) : ∀ (w : List UInt8), (∀ c ∈ w, p c.toNat) → spanU p (w ++ r) = w.length
  | [], _ => by
    cases r with
    | nil => rfl
    | cons c r => exact spanU_no (hr c rfl)
  | c :: w, h => by
    rw [List.cons_append, spanU_yes (h c (by simp)), spanU_all hr w (fun d hd => h d (by simp [hd]))]; rfl
theorem spanU_stop (h32 : ¬ p 32) (u : List UInt8) : spanU p (u ++ [32]) = spanU p u := by
  induction u with
  | nil => exact spanU_no h32
  | cons c r ih =>
    by_cases hc : p c.toNat
    · rw [List.cons_append, spanU_yes hc, spanU_yes hc, ih]
    · rw [List.cons_append, spanU_no hc, spanU_no hc]
theorem spanU_early (u v : List UInt8) : spanU p u < u.length → spanU p (u ++ v) = spanU p u := by
  induction u with
  | nil => simp
  | cons c r ih =>
    intro h
    by_cases hc : p c.toNat
    · rw [spanU_yes hc] at h
      rw [List.cons_append, spanU_yes hc, spanU_yes hc, ih (by simpa using h)]
    · rw [List.cons_append, spanU_no hc, spanU_no hc]
theorem spanU_full (h32 : p 32) (u : List UInt8) : spanU p u = u.length → spanU p (u ++ [32]) = u.length + 1 := by
  induction u with
  | nil => intro _; exact spanU_yes h32
  | cons c r ih =>
    intro h
    by_cases hc : p c.toNat
    · rw [spanU_yes hc] at h
      rw [List.cons_append, spanU_yes hc, ih (by simpa using h)]; rfl
    · rw [spanU_no hc] at h; simp at h
end

theorem endsU_app (v : List UInt8) : endsU (v ++ [32]) = endsU v := by
  cases v with
  | nil => decide
  | cons c r => rfl

theorem macT_blank (u : List UInt8) : macT (u ++ [32]) = macT u := by
  unfold macT
  by_cases h : u.length < 17
  · rw [if_pos h]
    by_cases h16 : u.length < 16
    · rw [if_pos (by simp; omega)]
    · rw [if_neg (by simp; omega)]
      have e : (u ++ [32]).take 17 = u ++ [32] := List.take_of_length_le (by simp; omega)
      rw [e]
      cases hm : macR (u ++ [32]) with
      | none => rfl
      | some m =>
        have hs := macR_some hm
        obtain ⟨a, b, c, d, e, f, g, h, i, j, k, l, _, _, hl, e⟩ := macText_eq m
        rw [e] at hs
        have := congrArg List.getLast? hs
        rw [List.getLast?_append] at this
        simp at this
        exact absurd this.symm (hexD_ne hl (by decide))
  · rw [if_neg h, if_neg (by simp; omega), List.take_append_of_le_length (by omega), List.drop_append_of_le_length (by omega), endsU_app]
theorem addrF_blank (u : List UInt8) : ∀ n, n ≤ u.length → addrF (u ++ [32]) n = addrF u n
  | 0, _ => rfl
  | n + 1, h => by
    unfold addrF
    rw [List.take_append_of_le_length h, List.drop_append_of_le_length h, endsU_app, addrF_blank u n (by omega)]
theorem addrT_blank (u : List UInt8) : addrT (u ++ [32]) = addrT u := by
  unfold addrT
  rw [spanU_stop (by decide), addrF_blank _ _ (spanU_le u)]
theorem prefix_blank : ∀ (o u : List UInt8), (∀ b ∈ o, b ≠ 32) → o.isPrefixOf (u ++ [32]) = o.isPrefixOf u
  | [], u, _ => by simp [List.isPrefixOf]
  | b :: o, [], h => by
    have hb : (b == 32) = false := by simpa using h b (by simp)
    simp [List.isPrefixOf, hb]
  | b :: o, c :: u, h => by
    have := prefix_blank o u (fun d hd => h d (by simp [hd]))
    simp [List.isPrefixOf, this]
theorem numT_blank (c : UInt8) (r : List UInt8) : numT (c :: r ++ [32]) = numT (c :: r) := by
  unfold numT
  rw [prefix_blank _ _ (by decide)]
  by_cases hp : [48, 120].isPrefixOf (c :: r) = true
  · rw [if_pos hp, if_pos hp]
    cases r with
    | nil => simp [List.isPrefixOf] at hp
    | cons d r =>
      have e : (c :: d :: r ++ [32]).drop 2 = r ++ [32] := rfl
      have e2 : (c :: d :: r).drop 2 = r := rfl
      have hl := spanU_le (p := hexP) r
      rw [e, e2, spanU_stop (by decide), List.take_append_of_le_length hl]
      have e3 : (c :: d :: r ++ [32]).drop (spanU hexP r + 2) = (c :: d :: r).drop (spanU hexP r + 2) ++ [32] := List.drop_append_of_le_length (by simp; omega)
      rw [e3, endsU_app]
  · rw [if_neg hp, if_neg hp]
    have hl := spanU_le (p := digP) (c :: r)
    rw [spanU_stop (by decide), List.take_append_of_le_length hl, List.drop_append_of_le_length hl, endsU_app]
    rfl
theorem quoT_blank (c : UInt8) (r : List UInt8) : quoT (c :: r ++ [32]) = quoT (c :: r) := by
  unfold quoT
  have e : (c :: r ++ [32]).drop 1 = r ++ [32] := rfl
  have e2 : (c :: r).drop 1 = r := rfl
  rw [e, e2]
  have hl := spanU_le (p := textP) r
  by_cases h : spanU textP r < r.length
  · rw [spanU_early _ _ h, List.getElem?_append_left h]
  · have h : spanU textP r = r.length := by omega
    rw [spanU_full (by decide) _ h, h]
    rw [if_pos (.inr (by simp)), if_pos (.inr (by simp))]
theorem find_congr {α : Type} {p q : α → Bool} : ∀ (l : List α), (∀ x ∈ l, p x = q x) → l.find? p = l.find? q
  | [], _ => rfl
  | x :: l, h => by
    simp only [List.find?, h x (by simp)]
    rw [find_congr l (fun y hy => h y (by simp [hy]))]
theorem opT_blank (u : List UInt8) : opT (u ++ [32]) = opT u := by
  unfold opT
  refine find_congr _ fun o ho => prefix_blank o u ?_
  revert o; decide

/-! Sizes. -/
theorem macT_len {u : List UInt8} {m : Nat} (h : macT u = some m) : 17 ≤ u.length ∧ macR (u.take 17) = some m ∧ endsU (u.drop 17) = true := by
  unfold macT at h
  split at h
  · cases h
  · rw [Option.bind_eq_some_iff] at h
    obtain ⟨y, hy, h⟩ := h
    split at h
    · cases h; exact ⟨by omega, hy, by assumption⟩
    · cases h
theorem addrF_len {u : List UInt8} {n a : Nat} : ∀ {k : Nat}, addrF u k = some (n, a) → 1 ≤ n ∧ n ≤ k ∧ addrR (u.take n) = some a ∧ endsU (u.drop n) = true
  | 0, h => by simp [addrF] at h
  | k + 1, h => by
    unfold addrF at h
    split at h
    · rename_i b hb
      split at h
      · simp only [Option.some.injEq, Prod.mk.injEq] at h
        obtain ⟨rfl, rfl⟩ := h
        exact ⟨by omega, Nat.le_refl _, hb, by assumption⟩
      · have := addrF_len h; exact ⟨this.1, by omega, this.2.2⟩
    · have := addrF_len h; exact ⟨this.1, by omega, this.2.2⟩
theorem addrT_len {u : List UInt8} {n a : Nat} (h : addrT u = some (n, a)) : 1 ≤ n ∧ n ≤ u.length ∧ addrR (u.take n) = some a ∧ endsU (u.drop n) = true := by
  have := addrF_len h
  exact ⟨this.1, Nat.le_trans this.2.1 (spanU_le _), this.2.2⟩
theorem numT_len {u : List UInt8} {n x : Nat} (h : numT u = some (n, x)) : 1 ≤ n ∧ n ≤ u.length := by
  unfold numT at h
  split at h
  · rename_i hp
    split at h
    · cases h
    · simp only [Option.bind_eq_some_iff] at h
      obtain ⟨y, _, h⟩ := h
      split at h
      · simp only [Option.some.injEq, Prod.mk.injEq] at h
        have hl := spanU_le (p := hexP) (u.drop 2)
        have : 2 ≤ u.length := by
          cases u with
          | nil => simp [List.isPrefixOf] at hp
          | cons c r =>
            cases r with
            | nil => simp [List.isPrefixOf] at hp
            | cons d r => simp
        simp only [List.length_drop] at hl
        omega
      · cases h
  · split at h
    · cases h
    · simp only [Option.bind_eq_some_iff] at h
      obtain ⟨y, hy, h⟩ := h
      split at h
      · simp only [Option.some.injEq, Prod.mk.injEq] at h
        have hl := spanU_le (p := digP) u
        have h0 : spanU digP u ≠ 0 := by
          intro e
          rw [e, List.take_zero] at hy
          simp [puR, puE] at hy
        omega
      · cases h
theorem quoT_len {c : UInt8} {r : List UInt8} {n : Nat} (h : quoT (c :: r) = some n) : n = spanU textP r ∧ n ≤ 64 ∧ r[n]? = some 34 ∧ n < r.length := by
  unfold quoT at h
  have e : (c :: r).drop 1 = r := rfl
  rw [e] at h
  split at h
  · cases h
  · rename_i hc
    cases h
    have h2 : r[spanU textP r]? = some 34 := Classical.not_not.1 fun x => hc (.inr x)
    exact ⟨rfl, by omega, h2, (List.getElem?_eq_some_iff.1 h2).1⟩
theorem prefix_take : ∀ {o u : List UInt8}, o.isPrefixOf u = true → o = u.take o.length ∧ o.length ≤ u.length
  | [], u, _ => by simp
  | b :: o, [], h => by simp [List.isPrefixOf] at h
  | b :: o, c :: u, h => by
    simp only [List.isPrefixOf, Bool.and_eq_true, beq_iff_eq] at h
    obtain ⟨rfl, h⟩ := h
    have := prefix_take h
    refine ⟨?_, by simpa using this.2⟩
    rw [List.length_cons, List.take_succ_cons, ← this.1]
theorem opT_len {u o : List UInt8} (h : opT u = some o) : o ∈ opsL ∧ o = u.take o.length ∧ o.length ≤ u.length ∧ 1 ≤ o.length := by
  have h1 := List.mem_of_find?_eq_some h
  have h2 := prefix_take (by simpa using List.find?_some h : o.isPrefixOf u = true)
  refine ⟨h1, h2.1, h2.2, ?_⟩
  revert h1
  clear h h2
  revert o
  decide

theorem stepU_blank (c : UInt8) (r : List UInt8) (h : c ≠ 35) : stepU c (r ++ [32]) = stepU c r := by
  unfold stepU
  have e : c :: (r ++ [32]) = (c :: r) ++ [32] := rfl
  rw [e, macT_blank, addrT_blank, numT_blank, quoT_blank, opT_blank]
  by_cases h1 : c = 32 ∨ c = 9 ∨ c = 10 ∨ c = 13
  · rw [if_pos h1, if_pos h1]
  rw [if_neg h1, if_neg h1, if_neg h, if_neg h]
  cases hm : macT (c :: r) with
  | some m =>
    dsimp only
    rw [List.take_append_of_le_length (macT_len hm).1]
  | none =>
    dsimp only
    cases ha : addrT (c :: r) with
    | some na =>
      obtain ⟨n, a⟩ := na
      dsimp only
      rw [List.take_append_of_le_length (addrT_len ha).2.1]
    | none =>
      dsimp only
      by_cases hd : digP c.toNat
      · rw [if_pos hd, if_pos hd]
        cases hn : numT (c :: r) with
        | none => rfl
        | some nx =>
          obtain ⟨n, x⟩ := nx
          dsimp only
          rw [List.take_append_of_le_length (numT_len hn).2]
      · rw [if_neg hd, if_neg hd]
        by_cases hl : letP c.toNat
        · rw [if_pos hl, if_pos hl]
          rw [spanU_stop (by decide), List.take_append_of_le_length (spanU_le _)]
        · rw [if_neg hl, if_neg hl]
          by_cases hq : c = 34
          · rw [if_pos hq, if_pos hq]
            cases hn : quoT (c :: r) with
            | none => rfl
            | some n =>
              dsimp only
              rw [List.take_append_of_le_length (Nat.le_of_lt (quoT_len hn).2.2.2)]
          · rw [if_neg hq, if_neg hq]

/-- What a token ahead is. -/
theorem stepU_tok {c : UInt8} {r : List UInt8} {k n : Nat} {t : List UInt8} {x : Nat} (h : stepU c r = .tok k n t x) : 1 ≤ n ∧ n ≤ r.length + 1 ∧ ((k ≠ 6 ∧ t.length = n ∧ t = (c :: r).take n) ∨ (k = 6 ∧ n = t.length + 2 ∧ t = r.take t.length)) ∧ 1 ≤ k ∧ k ≤ 6 := by
  unfold stepU at h
  split at h
  · cases h
  split at h
  · cases h
  split at h
  · rename_i m hm
    have := (macT_len hm).1
    simp only [Tk.tok.injEq] at h
    obtain ⟨rfl, rfl, rfl, rfl⟩ := h
    have e : (c :: r).length = r.length + 1 := rfl
    exact ⟨by omega, by omega, .inl ⟨by omega, by rw [List.length_take]; omega, rfl⟩, by omega, by omega⟩
  split at h
  · rename_i n' a ha
    have := addrT_len ha
    simp only [Tk.tok.injEq] at h
    obtain ⟨rfl, rfl, rfl, rfl⟩ := h
    have e : (c :: r).length = r.length + 1 := rfl
    exact ⟨by omega, by omega, .inl ⟨by omega, by rw [List.length_take]; omega, rfl⟩, by omega, by omega⟩
  split at h
  · split at h
    · rename_i n' a ha
      have := numT_len ha
      simp only [Tk.tok.injEq] at h
      obtain ⟨rfl, rfl, rfl, rfl⟩ := h
      have e : (c :: r).length = r.length + 1 := rfl
      exact ⟨by omega, by omega, .inl ⟨by omega, by rw [List.length_take]; omega, rfl⟩, by omega, by omega⟩
    · cases h
  split at h
  · rename_i hl
    simp only [Tk.tok.injEq] at h
    obtain ⟨rfl, rfl, rfl, rfl⟩ := h
    have h1 : spanU nameP (c :: r) = spanU nameP r + 1 := spanU_yes (.inl (.inl hl))
    have h2 := spanU_le (p := nameP) (c :: r)
    have e : (c :: r).length = r.length + 1 := rfl
    exact ⟨by omega, by omega, .inl ⟨by omega, by rw [List.length_take]; omega, rfl⟩, by omega, by omega⟩
  split at h
  · split at h
    · rename_i n' hn
      have := quoT_len hn
      simp only [Tk.tok.injEq] at h
      obtain ⟨rfl, rfl, rfl, rfl⟩ := h
      have e : (r.take n').length = n' := by rw [List.length_take]; omega
      exact ⟨by omega, by omega, .inr ⟨rfl, by omega, by rw [e]⟩, by omega, by omega⟩
    · cases h
  split at h
  · rename_i o ho
    have := opT_len ho
    simp only [Tk.tok.injEq] at h
    obtain ⟨rfl, rfl, rfl, rfl⟩ := h
    have e : (c :: r).length = r.length + 1 := rfl
    exact ⟨this.2.2.2, by omega, .inl ⟨by omega, rfl, this.2.1⟩, by omega, by omega⟩
  · cases h
theorem stepU_skip {c : UInt8} {r : List UInt8} {n : Nat} (h : stepU c r = .skip n) : 1 ≤ n ∧ n ≤ r.length + 1 ∧ (c = 35 → n = spanU lineP (c :: r)) := by
  unfold stepU at h
  split at h
  · rename_i hc
    simp only [Tk.skip.injEq] at h
    subst h
    exact ⟨Nat.le_refl _, by omega, fun e => by subst e; exact absurd hc (by decide)⟩
  split at h
  · rename_i hc
    subst hc
    simp only [Tk.skip.injEq] at h
    subst h
    have h1 : spanU lineP ((35 : UInt8) :: r) = spanU lineP r + 1 := spanU_yes (by decide)
    have h2 := spanU_le (p := lineP) r
    exact ⟨by omega, by omega, fun _ => rfl⟩
  split at h
  · cases h
  split at h
  · cases h
  split at h
  · split at h <;> cases h
  split at h
  · cases h
  split at h
  · split at h <;> cases h
  split at h <;> cases h

/-! The tokens of a text with a blank behind. -/
def sameK (x y : Tok) : Prop := x.kind = y.kind ∧ x.text = y.text ∧ x.num = y.num
inductive Same : List Tok → List Tok → Prop where
  | nil : Same [] []
  | cons {x y : Tok} {l m : List Tok} : sameK x y → Same l m → Same (x :: l) (y :: m)
theorem Same.length {l m : List Tok} (h : Same l m) : l.length = m.length := by
  induction h with
  | nil => rfl
  | cons _ _ ih => simp [ih]
theorem lexR_nil (f a : Nat) : lexR (f + 1) [] a = .inl [endTok a] := rfl
theorem lexR_blank : ∀ (f : Nat) (u : List UInt8) (a f' a' : Nat), u.length < f → u.length + 1 < f' →
    match lexR f u a with
    | .inl l => ∃ m, lexR f' (u ++ [32]) a' = .inl (m ++ [endTok (a' + u.length + 1)]) ∧ Same l (m ++ [endTok (a' + u.length + 1)])
    | .inr _ => ∃ b, lexR f' (u ++ [32]) a' = .inr b ∧ a' ≤ b := by
  intro f
  induction f with
  | zero => intro u a f' a' h _; omega
  | succ f ih =>
    intro u a f' a' h1 h2
    obtain ⟨f', rfl⟩ : ∃ g, f' = g + 1 := ⟨f' - 1, by omega⟩
    cases u with
    | nil =>
      obtain ⟨f', rfl⟩ : ∃ g, f' = g + 1 := ⟨f' - 1, by simp at h2; omega⟩
      exact ⟨[], rfl, .cons ⟨rfl, rfl, rfl⟩ .nil⟩
    | cons c r =>
      simp only [List.length_cons] at h1 h2
      have skips : ∀ n, 1 ≤ n → n ≤ r.length + 1 → match lexR f ((c :: r).drop n) (a + n) with
          | .inl l => ∃ m, lexR f' ((c :: r ++ [32]).drop n) (a' + n) = .inl (m ++ [endTok (a' + (r.length + 1) + 1)]) ∧ Same l (m ++ [endTok (a' + (r.length + 1) + 1)])
          | .inr _ => ∃ b, lexR f' ((c :: r ++ [32]).drop n) (a' + n) = .inr b ∧ a' ≤ b := by
        intro n hn1 hn2
        have := ih ((c :: r).drop n) (a + n) f' (a' + n) (by simp; omega) (by simp; omega)
        have e0 : (c :: r ++ [32]).drop n = (c :: r).drop n ++ [32] := List.drop_append_of_le_length (by simpa using hn2)
        rw [e0]
        have e : a' + n + ((c :: r).drop n).length + 1 = a' + (r.length + 1) + 1 := by simp; omega
        rw [e] at this
        split at this
        · exact this
        · obtain ⟨b, h1, h2⟩ := this
          exact ⟨b, h1, by omega⟩
      by_cases h35 : c = 35
      · subst h35
        have e1 : stepU 35 r = .skip (spanU lineP (35 :: r)) := rfl
        have e2 : stepU 35 (r ++ [32]) = .skip (spanU lineP (35 :: r ++ [32])) := rfl
        have hs1 : spanU lineP ((35 : UInt8) :: r) = spanU lineP r + 1 := spanU_yes (by decide)
        simp only [List.cons_append, lexR, e1, e2]
        rw [← List.cons_append]
        by_cases hl : spanU lineP (35 :: r) < (35 :: r).length
        · rw [spanU_early _ _ hl]
          exact skips _ (by omega) (by simp only [List.length_cons] at hl; omega)
        · have hl : spanU lineP (35 :: r) = (35 :: r).length := by have := spanU_le (p := lineP) (35 :: r); omega
          rw [spanU_full (by decide) _ hl, hl]
          have d1 : (35 :: r).drop (35 :: r).length = [] := List.drop_length
          have d2 : (35 :: r ++ [32]).drop ((35 :: r).length + 1) = [] := List.drop_of_length_le (by simp)
          rw [d1, d2]
          obtain ⟨f', rfl⟩ : ∃ g, f' = g + 1 := ⟨f' - 1, by omega⟩
          obtain ⟨f, rfl⟩ : ∃ g, f = g + 1 := ⟨f - 1, by omega⟩
          refine ⟨[], ?_, .cons ⟨rfl, rfl, rfl⟩ .nil⟩
          rw [lexR_nil]
          have : a' + ((35 :: r).length + 1) = a' + (35 :: r).length + 1 := by omega
          rw [this]; rfl
      · have hb := stepU_blank c r h35
        simp only [List.cons_append, lexR, hb]
        cases hs : stepU c r with
        | bad => exact ⟨a', rfl, Nat.le_refl _⟩
        | skip n =>
          have := stepU_skip hs
          exact skips n this.1 this.2.1
        | tok k n t x =>
          have hh := stepU_tok hs
          have := skips n hh.1 hh.2.1
          dsimp only
          split at this
          · rename_i l hl
            obtain ⟨m, hm, hsm⟩ := this
            rw [hl]
            dsimp only
            have hm : lexR f' ((c :: (r ++ [32])).drop n) (a' + n) = .inl (m ++ [endTok (a' + (r.length + 1) + 1)]) := hm
            rw [hm]
            exact ⟨⟨k, t, x, a'⟩ :: m, rfl, .cons ⟨rfl, rfl, rfl⟩ hsm⟩
          · rename_i b hb
            obtain ⟨b', hm, hle⟩ := this
            rw [hb]
            dsimp only
            have hm : lexR f' ((c :: (r ++ [32])).drop n) (a' + n) = .inr b' := hm
            rw [hm]
            exact ⟨b', rfl, hle⟩
/-- A line of a comment and blanks ahead. -/
theorem lexR_skips : ∀ (w : List UInt8), (∀ c ∈ w, c = 32 ∨ c = 9 ∨ c = 10 ∨ c = 13) → ∀ (v : List UInt8) (f a : Nat), lexR (f + w.length) (w ++ v) a = lexR f v (a + w.length)
  | [], _, v, f, a => rfl
  | c :: w, h, v, f, a => by
    have hs : ∀ r, stepU c r = .skip 1 := fun r => by unfold stepU; rw [if_pos (h c (by simp))]
    have := lexR_skips w (fun d hd => h d (by simp [hd])) v f (a + 1)
    rw [show f + (c :: w).length = (f + w.length) + 1 by simp; omega]
    simp only [List.cons_append, lexR, hs, List.drop_succ_cons, List.drop_zero]
    rw [this]
    congr 1
    simp; omega
theorem lexR_note (note w v : List UInt8) (hn : ∀ c ∈ note, c ≠ 10) (hw : ∀ c ∈ w, c = 32 ∨ c = 9 ∨ c = 10 ∨ c = 13) (f a : Nat) : lexR (f + w.length + 2) (35 :: note ++ 10 :: w ++ v) a = lexR f v (a + note.length + 2 + w.length) := by
  have hs : ∀ r, stepU 35 r = .skip (spanU lineP (35 :: r)) := fun r => rfl
  have hp : spanU lineP (35 :: (note ++ 10 :: (w ++ v))) = note.length + 1 := by
    have := spanU_all (p := lineP) (r := 10 :: (w ++ v)) (fun c hc => by cases hc; decide) (35 :: note) (fun c hc => by
      rcases List.mem_cons.1 hc with rfl | hc
      · decide
      · have := hn c hc
        unfold lineP
        intro e
        apply this
        have e : c.toNat = 10 := by omega
        exact UInt8.toNat_inj.1 e)
    simpa using this
  have e : (35 :: note ++ 10 :: w ++ v : List UInt8) = 35 :: (note ++ 10 :: (w ++ v)) := by simp
  rw [e]
  simp only [lexR, hs, hp]
  have d : (35 :: (note ++ 10 :: (w ++ v))).drop (note.length + 1) = 10 :: w ++ v := by
    rw [List.drop_succ_cons, List.drop_left]; rfl
  rw [d, show f + w.length + 1 = f + (10 :: w).length by rfl, lexR_skips (10 :: w) (fun c hc => by rcases List.mem_cons.1 hc with rfl | hc; exact .inr (.inr (.inl rfl)); exact hw c hc)]
  congr 1
  simp; omega

/-! Places. -/
def atOf (t : Tok) : Int := if t.kind = 6 then t.place + 1 else t.place
def okPl (s : List UInt8) : Int → List Tok → Prop
  | _, [] => True
  | e, t :: l => e ≤ t.place ∧ 0 ≤ t.place ∧ t.place ≤ s.length ∧ atOf t + t.text.length ≤ s.length ∧ (s.drop (atOf t).toNat).take t.text.length = t.text ∧ okPl s (atOf t + t.text.length) l
theorem okPl_mono {s : List UInt8} {e e' : Int} {l : List Tok} (h : okPl s e l) (he : e' ≤ e) : okPl s e' l := by
  cases l with
  | nil => trivial
  | cons t l => exact ⟨Int.le_trans he h.1, h.2⟩
theorem lexR_places (s : List UInt8) : ∀ (f a : Nat) (l : List Tok), a ≤ s.length → lexR f (s.drop a) a = .inl l → okPl s a l ∧ ∃ m, l = m ++ [endTok s.length] ∧ m.length ≤ s.length - a := by
  intro f
  induction f with
  | zero => intro a l _ h; cases h
  | succ f ih =>
    intro a l ha h
    cases hu : s.drop a with
    | nil =>
      rw [hu, lexR_nil] at h
      cases h
      have : s.length ≤ a := List.drop_eq_nil_iff.1 hu
      obtain rfl : a = s.length := by omega
      have e : atOf (endTok s.length) = s.length := rfl
      have e1 : (endTok s.length).place = s.length := rfl
      have e2 : (endTok s.length).text = [] := rfl
      exact ⟨⟨Int.le_refl _, by omega, by omega, by rw [e, e2]; simp, by rw [e2]; simp, trivial⟩, [], rfl, by simp⟩
    | cons c r =>
      rw [hu] at h
      have hlen : r.length + 1 = s.length - a := by
        have := congrArg List.length hu
        simpa using this.symm
      have hd : ∀ n, (c :: r).drop n = s.drop (a + n) := fun n => by rw [← hu, List.drop_drop]
      simp only [lexR, hd] at h
      cases hs : stepU c r with
      | bad => rw [hs] at h; cases h
      | skip n =>
        rw [hs] at h
        have hn := stepU_skip hs
        obtain ⟨h1, m, h2, h3⟩ := ih (a + n) l (by omega) h
        exact ⟨okPl_mono h1 (by omega), m, h2, by omega⟩
      | tok k n t x =>
        rw [hs] at h
        have hn := stepU_tok hs
        dsimp only at h
        cases hl : lexR f (s.drop (a + n)) (a + n) with
        | inr b => rw [hl] at h; cases h
        | inl l' =>
          rw [hl] at h
          cases h
          obtain ⟨h1, m, h2, h3⟩ := ih (a + n) l' (by omega) hl
          refine ⟨?_, ⟨k, t, x, a⟩ :: m, by rw [h2]; rfl, by simp; omega⟩
          rcases hn.2.2.1 with ⟨hk, ht, ht2⟩ | ⟨hk, ht, ht2⟩
          · have ek : atOf ⟨k, t, x, a⟩ = a := by unfold atOf; rw [if_neg (by simp; omega)]
            refine ⟨Int.le_refl _, by simp, by simp; omega, ?_, ?_, ?_⟩
            · rw [ek]; simp; omega
            · rw [ek]
              simp only [Int.toNat_natCast]
              rw [hu, ht, ← ht2]
            · rw [ek]; exact okPl_mono h1 (by simp; omega)
          · have ek : atOf ⟨k, t, x, a⟩ = a + 1 := by unfold atOf; rw [if_pos (by simp; omega)]
            refine ⟨Int.le_refl _, by simp, by simp; omega, ?_, ?_, ?_⟩
            · rw [ek]; simp; omega
            · rw [ek]
              have : ((a : Int) + 1).toNat = a + 1 := by omega
              simp only [this]
              have e : s.drop (a + 1) = r := by rw [← hd 1]; rfl
              rw [e, ← ht2]
            · rw [ek]; exact okPl_mono h1 (by simp; omega)
end Go.Proofs.YtmdiieignlidhaaDoor
