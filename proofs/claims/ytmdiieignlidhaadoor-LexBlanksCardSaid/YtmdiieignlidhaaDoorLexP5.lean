/- Tokens joined and read again; the tokens of numbers. -/
import Derived.Test.YtmdiieignlidhaaDoorLexP4
set_option linter.unusedSimpArgs false
set_option linter.unusedVariables false
namespace Go.Proofs.YtmdiieignlidhaaDoor
open Go Go.Vm Go.Proofs

/-- A token as it stands. -/
def Tok.w (t : Tok) : List UInt8 := if t.kind = 6 then 34 :: (t.text ++ [34]) else t.text
/-- A token that is read again wherever it stands. -/
structure Good (t : Tok) (k x n : Nat) : Prop where
  kind : t.kind = k
  num : t.num = x
  n1 : 1 ≤ n
  len : t.w.length = n
  k6 : k ≤ 6
  again : ∀ r, Sep r → stepL (t.w ++ r) = .tok k n t.text x
  colon : t.w.head? ≠ some 58

theorem takeWhile_all {p : Int → Prop} [DecidablePred p] {u : List UInt8} : ∀ c ∈ u.take (spanU p u), p c.toNat := by
  intro c hc
  obtain ⟨i, hi⟩ := List.mem_iff_getElem?.1 hc
  rw [List.getElem?_take] at hi
  split at hi
  · rename_i h
    obtain ⟨d, h1, h2⟩ := spanU_lt_at u i h
    rw [h1] at hi; cases hi; exact h2
  · cases hi

theorem good_step {c : UInt8} {r : List UInt8} {k n x : Nat} {t : List UInt8} (h : stepU c r = .tok k n t x) (a : Nat) : Good ⟨k, t, x, a⟩ k x n := by
  have hh := stepU_tok h
  have hw : k ≠ 6 → (Tok.mk k t x a).w = t := fun hk => by unfold Tok.w; rw [if_neg (by simp; omega)]
  have mk : k ≠ 6 → (∀ r', Sep r' → stepL (t ++ r') = .tok k n t x) → t.head? ≠ some 58 → Good ⟨k, t, x, a⟩ k x n := by
    intro hk h1 h2
    refine ⟨rfl, rfl, hh.1, ?_, hh.2.2.2.2, ?_, ?_⟩
    · rw [hw hk]
      rcases hh.2.2.1 with hx | hx
      · exact hx.2.1
      · exact absurd hx.1 hk
    · rw [hw hk]; exact h1
    · rw [hw hk]; exact h2
  unfold stepU at h
  split at h
  · cases h
  split at h
  · cases h
  split at h
  · rename_i m hm
    have h1 := macT_len hm
    simp only [Tk.tok.injEq] at h
    obtain ⟨rfl, rfl, rfl, rfl⟩ := h
    have hs := macR_some h1.2.1
    rw [hs] at h1 mk ⊢
    refine mk (by omega) (fun r' hr => mac_again h1.2.1 hr) ?_
    obtain ⟨a, b, c, d, e, f, g, h', i, j, k, l, ha, _, _, e'⟩ := macText_eq m
    rw [e']
    simp only [List.head?_cons, ne_eq, Option.some.injEq]
    exact hexD_ne ha (by decide)
  split at h
  · rename_i n' a' ha
    have h1 := addrT_len ha
    simp only [Tk.tok.injEq] at h
    obtain ⟨rfl, rfl, rfl, rfl⟩ := h
    have hlen : ((c :: r).take n').length = n' := by rw [List.length_take]; omega
    refine mk (by omega) (fun r' hr => by have := addr_again h1.2.2.1 hr; rw [hlen] at this; exact this) ?_
    have hs := addrR_some h1.2.2.1
    intro h58
    have : (58 : UInt8) ∈ (c :: r).take n' := List.mem_of_mem_head? h58
    rw [hs] at this
    exact absurd (addrText_dotP _ _ this) (by decide)
  split at h
  · rename_i hd
    split at h
    · rename_i n' x' hn
      simp only [Tk.tok.injEq] at h
      obtain ⟨rfl, rfl, rfl, rfl⟩ := h
      have h58 : ((c :: r).take n').head? ≠ some 58 := by
        obtain ⟨k, rfl⟩ : ∃ k, n' = k + 1 := ⟨n' - 1, by have := hh.1; omega⟩
        simp only [List.take_succ_cons, List.head?_cons, ne_eq, Option.some.injEq]
        rintro rfl
        exact absurd hd (by decide)
      refine mk (by omega) (fun r' hr => ?_) h58
      unfold numT at hn
      split at hn
      · rename_i hp
        split at hn
        · cases hn
        · rename_i h16
          simp only [Option.bind_eq_some_iff] at hn
          obtain ⟨y, hy, hn⟩ := hn
          split at hn
          · simp only [Option.some.injEq, Prod.mk.injEq] at hn
            obtain ⟨rfl, rfl⟩ := hn
            cases r with
            | nil => simp [List.isPrefixOf] at hp
            | cons d v =>
              simp only [List.isPrefixOf, Bool.and_true, Bool.and_eq_true, beq_iff_eq] at hp
              obtain ⟨rfl, rfl⟩ := hp
              have e : (48 :: 120 :: v : List UInt8).drop 2 = v := rfl
              rw [e] at h16 hy ⊢
              have hl : (v.take (spanU hexP v)).length = spanU hexP v := by rw [List.length_take]; have := spanU_le (p := hexP) v; omega
              have := hex_again (w := v.take (spanU hexP v)) takeWhile_all (by omega) hy hr
              rw [hl] at this
              simp only [List.take_succ_cons]
              exact this
          · cases hn
      · split at hn
        · cases hn
        · rename_i h48
          simp only [Option.bind_eq_some_iff] at hn
          obtain ⟨y, hy, hn⟩ := hn
          split at hn
          · simp only [Option.some.injEq, Prod.mk.injEq] at hn
            obtain ⟨rfl, rfl⟩ := hn
            have hl : ((c :: r).take (spanU digP (c :: r))).length = spanU digP (c :: r) := by rw [List.length_take]; have := spanU_le (p := digP) (c :: r); omega
            have := dec_again (w := (c :: r).take (spanU digP (c :: r))) takeWhile_all (by
              rw [hl]
              rintro ⟨h1, h2⟩
              refine h48 ⟨h1, ?_⟩
              rw [List.getD_eq_getElem?_getD, List.getElem?_take, if_pos (by omega)] at h2
              rw [List.getD_eq_getElem?_getD]; exact h2) hy hr
            rw [hl] at this
            exact this
          · cases hn
    · cases h
  split at h
  · rename_i hd hl
    simp only [Tk.tok.injEq] at h
    obtain ⟨rfl, rfl, rfl, rfl⟩ := h
    have h1 : spanU nameP (c :: r) = spanU nameP r + 1 := spanU_yes (.inl (.inl hl))
    rw [h1] at mk hh ⊢
    simp only [List.take_succ_cons] at mk hh ⊢
    refine mk (by omega) (fun r' hr => ?_) ?_
    · have hl2 : (r.take (spanU nameP r)).length = spanU nameP r := by rw [List.length_take]; have := spanU_le (p := nameP) r; omega
      have := name_again (w := r.take (spanU nameP r)) hl takeWhile_all hr
      rw [hl2] at this
      exact this
    · simp only [List.head?_cons, ne_eq, Option.some.injEq]
      rintro rfl
      exact absurd hl (by decide)
  split at h
  · rename_i hd hl h34
    split at h
    · rename_i n' hn
      have hq := quoT_len hn
      simp only [Tk.tok.injEq] at h
      obtain ⟨rfl, rfl, rfl, rfl⟩ := h
      have e : (Tok.mk 6 (r.take n') 0 a).w = 34 :: (r.take n' ++ [34]) := rfl
      have hl2 : (r.take n').length = n' := by rw [List.length_take]; omega
      refine ⟨rfl, rfl, by omega, ?_, by omega, ?_, ?_⟩
      · show (Tok.mk 6 (r.take n') 0 a).w.length = _
        rw [e]; simp; omega
      · intro r' hr
        show stepL ((Tok.mk 6 (r.take n') 0 a).w ++ r') = .tok 6 (n' + 2) (r.take n') 0
        rw [e]
        have hall : ∀ d ∈ r.take n', textP d.toNat := by rw [hq.1]; exact takeWhile_all
        have := text_again (w := r.take n') (r := r') hall (by omega)
        rw [hl2] at this
        simpa using this
      · show (Tok.mk 6 (r.take n') 0 a).w.head? ≠ some 58
        rw [e]; simp
    · cases h
  split at h
  · rename_i o ho
    have h1 := opT_len ho
    simp only [Tk.tok.injEq] at h
    obtain ⟨rfl, rfl, rfl, rfl⟩ := h
    refine mk (by omega) (fun r' hr => op_again h1.1 hr) ?_
    have := h1.1
    clear hh mk ho h1 hw
    revert this
    revert o
    decide
  · cases h

/-- All tokens are so. -/
inductive Goods : List Tok → Prop where
  | nil : Goods []
  | cons {t : Tok} {k x n : Nat} {l : List Tok} : Good t k x n → Goods l → Goods (t :: l)
def lensT (l : List Tok) : Nat := (l.map fun t => t.w.length).sum
theorem lexR_good : ∀ (f : Nat) (u : List UInt8) (a : Nat) (l : List Tok), lexR f u a = .inl l → ∃ m b, l = m ++ [endTok b] ∧ Goods m ∧ lensT m ≤ u.length := by
  intro f
  induction f with
  | zero => intro u a l h; cases h
  | succ f ih =>
    intro u a l h
    cases u with
    | nil => rw [lexR_nil] at h; cases h; exact ⟨[], a, rfl, .nil, Nat.le_refl _⟩
    | cons c r =>
      simp only [lexR] at h
      cases hs : stepU c r with
      | bad => rw [hs] at h; cases h
      | skip n =>
        rw [hs] at h
        obtain ⟨m, b, h1, h2, h3⟩ := ih _ _ _ h
        exact ⟨m, b, h1, h2, Nat.le_trans h3 (by simp)⟩
      | tok k n t x =>
        rw [hs] at h
        dsimp only at h
        cases hl : lexR f ((c :: r).drop n) (a + n) with
        | inr b => rw [hl] at h; cases h
        | inl l' =>
          rw [hl] at h
          cases h
          obtain ⟨m, b, rfl, h2, h3⟩ := ih _ _ _ hl
          have hg := good_step hs a
          refine ⟨⟨k, t, x, a⟩ :: m, b, rfl, .cons hg h2, ?_⟩
          have := hg.len
          have hn := (stepU_tok hs).2.1
          simp only [List.length_drop, List.length_cons] at h3 ⊢
          unfold lensT at h3 ⊢
          rw [List.map_cons, List.sum_cons]
          omega

/-- The tokens' text. -/
def joinW (l : List Tok) : List UInt8 := Lib.join (l.map Tok.w) [32]
theorem lexR_tok {t : Tok} {k x n : Nat} (hg : Good t k x n) {r : List UInt8} (hr : Sep r) (f a : Nat) : lexR (f + 1) (t.w ++ r) a = match lexR f r (a + n) with | .inl l => .inl (⟨t.kind, t.text, t.num, a⟩ :: l) | .inr e => .inr e := by
  have h := hg.again r hr
  have hl := hg.len
  have h1 := hg.n1
  cases hw : t.w with
  | nil => rw [hw] at hl; simp at hl; omega
  | cons c w =>
    rw [hw] at h hl
    have hs : stepU c (w ++ r) = .tok k n t.text x := h
    simp only [List.cons_append, lexR, hs]
    have : (c :: (w ++ r)).drop n = r := by rw [← hl]; exact List.drop_left (l₁ := c :: w)
    rw [this, hg.kind, hg.num]
    cases lexR f r (a + n) <;> rfl
theorem sep_tail : ∀ {l : List Tok}, Goods l → Sep (Lib.joinTail [32] (l.map Tok.w))
  | [], _ => .inl rfl
  | t :: l, .cons hg h => by
    refine .inr ⟨32, t.w ++ Lib.joinTail [32] (l.map Tok.w), by simp [Lib.joinTail], .inl rfl, ?_⟩
    have h1 := hg.n1
    have hl := hg.len
    have hc := hg.colon
    cases hw : t.w with
    | nil => rw [hw] at hl; simp at hl; omega
    | cons c w => rw [hw] at hc; exact hc
theorem stepU_sp (r : List UInt8) : stepU 32 r = .skip 1 := rfl
theorem lexR_tail : ∀ {l : List Tok}, Goods l → ∀ (f a : Nat), 2 * l.length < f → ∃ m b, lexR f (Lib.joinTail [32] (l.map Tok.w)) a = .inl (m ++ [endTok b]) ∧ Same l m
  | [], _, f, a, hf => by
    obtain ⟨f, rfl⟩ : ∃ g, f = g + 1 := ⟨f - 1, by omega⟩
    exact ⟨[], a, rfl, .nil⟩
  | t :: l, .cons (n := n) hg h, f, a, hf => by
    obtain ⟨f, rfl⟩ : ∃ g, f = g + 2 := ⟨f - 2, by simp at hf; omega⟩
    have e : Lib.joinTail [32] ((t :: l).map Tok.w) = 32 :: (t.w ++ Lib.joinTail [32] (l.map Tok.w)) := by simp [Lib.joinTail]
    rw [e]
    have e2 : lexR (f + 2) (32 :: (t.w ++ Lib.joinTail [32] (l.map Tok.w))) a = lexR (f + 1) (t.w ++ Lib.joinTail [32] (l.map Tok.w)) (a + 1) := rfl
    rw [e2, lexR_tok hg (sep_tail h)]
    obtain ⟨m, b, hm, hs⟩ := lexR_tail h f (a + 1 + n) (by simp at hf; omega)
    rw [hm]
    exact ⟨⟨t.kind, t.text, t.num, (a + 1 : Nat)⟩ :: m, b, rfl, .cons ⟨rfl, rfl, rfl⟩ hs⟩
theorem lexR_join {l : List Tok} (h : Goods l) (f a : Nat) (hf : 2 * l.length < f) : ∃ m b, lexR f (joinW l) a = .inl (m ++ [endTok b]) ∧ Same l m := by
  cases h with
  | nil => exact lexR_tail .nil f a hf
  | cons hg h =>
    rename_i t k x n l
    obtain ⟨f, rfl⟩ : ∃ g, f = g + 1 := ⟨f - 1, by omega⟩
    unfold joinW
    rw [List.map_cons, Lib.join_cons, lexR_tok hg (sep_tail h)]
    obtain ⟨m, b, hm, hs⟩ := lexR_tail h f (a + n) (by simp at hf; omega)
    rw [hm]
    exact ⟨⟨t.kind, t.text, t.num, a⟩ :: m, b, rfl, .cons ⟨rfl, rfl, rfl⟩ hs⟩
theorem same_w {l m : List Tok} (h : Same l m) : l.map Tok.w = m.map Tok.w := by
  induction h with
  | nil => rfl
  | cons hx _ ih =>
    obtain ⟨h1, h2, h3⟩ := hx
    simp only [List.map_cons, ih]
    congr 1
    unfold Tok.w
    rw [h1, h2]
theorem goods_length {l : List Tok} (h : Goods l) : l.length ≤ lensT l := by
  induction h with
  | nil => exact Nat.le_refl _
  | cons hg _ ih =>
    have h1 := hg.n1
    have hl := hg.len
    unfold lensT at ih ⊢
    rw [List.map_cons, List.sum_cons, List.length_cons]
    omega
theorem joinW_length {l : List Tok} (h : Goods l) : lensT l ≤ (joinW l).length ∧ (joinW l).length ≤ 2 * lensT l := by
  have := goods_length h
  cases h with
  | nil => exact ⟨Nat.le_refl _, Nat.le_refl _⟩
  | cons hg h =>
    unfold joinW
    rw [List.map_cons, Lib.join_length]
    unfold Lib.lens lensT at *
    simp only [List.map_cons, List.map_map, List.sum_cons, List.length_cons, List.length_map, List.length_nil, Nat.zero_add, Nat.one_mul, Function.comp_def] at *
    omega

/-! The tokens of numbers and addresses. -/
theorem decD_head : ∀ (u : Nat), 1 ≤ u → (Lib.decDigits u).getD 0 0 ≠ 48 := by
  intro u
  induction u using Nat.strongRecOn with
  | _ u ih =>
    intro h1
    by_cases h : u < 10
    · rw [decD_small h]
      simp only [List.getD_cons_zero]
      intro e
      have := congrArg UInt8.toNat e
      rw [ofNat_toNat' (by omega)] at this
      have h48 : (48 : UInt8).toNat = 48 := rfl
      omega
    · rw [decD_big h]
      have := ih (u / 10) (by omega) (by omega)
      cases hd : Lib.decDigits (u / 10) with
      | nil => exact absurd hd (decD_ne _)
      | cons c r => rw [hd] at this; exact this
theorem dec_tok (u : Nat) (hu : u < 18446744073709551616) {r : List UInt8} (hr : Sep r) : stepL (Lib.decDigits u ++ r) = .tok 2 (Lib.decDigits u).length (Lib.decDigits u) u := by
  refine dec_again (decD_dig u) ?_ (puR_dec (by omega)) hr
  rintro ⟨h1, h2⟩
  by_cases h : u < 10
  · rw [decD_small h] at h1; simp at h1
  · exact decD_head u (by omega) h2
theorem hex_tok (u : Nat) (hu : u < 18446744073709551616) {r : List UInt8} (hr : Sep r) : stepL (48 :: 120 :: hexDigits u ++ r) = .tok 2 ((hexDigits u).length + 2) (48 :: 120 :: hexDigits u) u :=
  hex_again (hexU_hexP u) (hexU_length u 15 (by simpa using hu)) (puR_hex (by omega)) hr

theorem lexR_step {w r t : List UInt8} {k x : Nat} (h0 : w ≠ []) (h : stepL (w ++ r) = .tok k w.length t x) (f a : Nat) : lexR (f + 1) (w ++ r) a = match lexR f r (a + w.length) with | .inl l => .inl (⟨k, t, x, a⟩ :: l) | .inr e => .inr e := by
  cases w with
  | nil => exact absurd rfl h0
  | cons c w =>
    have hs : stepU c (w ++ r) = .tok k (c :: w).length t x := h
    simp only [List.cons_append, lexR, hs]
    have : (c :: (w ++ r)).drop (c :: w).length = r := List.drop_left (l₁ := c :: w)
    rw [this]
    cases lexR f r (a + (c :: w).length) <;> rfl

/-- The text of the law of numbers. -/
def numText (n ip mac : Nat) : List UInt8 := Lib.decDigits n ++ (32 :: (48 :: 120 :: hexDigits n ++ (47 :: (addrText ip ++ (44 :: macText mac)))))
theorem numText_toks (n ip mac : Nat) (hn : n < 18446744073709551616) (hip : ip < 4294967296) (f : Nat) (hf : 10 ≤ f) : ∃ p1 p2 p3 p4 p5 p6 p7 : Nat, lexR f (numText n ip mac) 0 =
    .inl [⟨2, Lib.decDigits n, n, p1⟩, ⟨2, 48 :: 120 :: hexDigits n, n, p2⟩, ⟨5, [47], 0, p3⟩, ⟨4, addrText ip, ip, p4⟩, ⟨5, [44], 0, p5⟩, ⟨3, macText mac, (mac % 2 ^ 48 : Nat), p6⟩, endTok p7] := by
  obtain ⟨f, rfl⟩ : ∃ g, f = g + 8 := ⟨f - 8, by omega⟩
  have hne : (addrText ip).head? ≠ some 58 := by
    intro h
    exact absurd (addrText_dotP _ _ (List.mem_of_mem_head? h)) (by decide)
  have hane : addrText ip ≠ [] := by
    intro h; have := addrText_length ip; rw [h] at this; simp at this
  obtain ⟨ma, mb, mc, md, me, mf, mg, mh, mi, mj, mk, ml, hma, _, _, em⟩ := macText_eq mac
  have hmne : (macText mac).head? ≠ some 58 := by
    rw [em]; simp only [List.head?_cons, ne_eq, Option.some.injEq]; exact hexD_ne hma (by decide)
  have hm0 : macText mac ≠ [] := by rw [em]; simp
  have s1 : Sep (32 :: (48 :: 120 :: hexDigits n ++ (47 :: (addrText ip ++ (44 :: macText mac))))) := .inr ⟨32, _, rfl, .inl rfl, by simp⟩
  have s2 : Sep (47 :: (addrText ip ++ (44 :: macText mac))) := .inr ⟨47, _, rfl, .inr (.inr rfl), by
    cases ha : addrText ip with
    | nil => exact absurd ha hane
    | cons c w => rw [ha] at hne; exact hne⟩
  have s4 : Sep (44 :: macText mac) := .inr ⟨44, _, rfl, .inr (.inl rfl), hmne⟩
  have s6 : Sep [] := .inl rfl
  have t1 := dec_tok n hn s1
  have t2 := hex_tok n hn s2
  have t3 : stepL ([47] ++ (addrText ip ++ (44 :: macText mac))) = .tok 5 [(47 : UInt8)].length [47] 0 :=
    step_op (by decide) (by decide) (by decide) (addrT_no0 (by decide)) (by decide) (by decide) rfl
  have t4 := addr_again (addrR_text hip) s4
  have t5 : stepL ([44] ++ macText mac) = .tok 5 [(44 : UInt8)].length [44] 0 :=
    step_op (by decide) (by decide) (by decide) (addrT_no0 (by decide)) (by decide) (by decide) rfl
  have t6 := mac_again (m := mac) macR_text s6
  have t6 : stepL (macText mac ++ []) = .tok 3 (macText mac).length (macText mac) (mac % 2 ^ 48) := by rw [macText_length]; exact t6
  have c3 : (47 :: (addrText ip ++ (44 :: macText mac)) : List UInt8) = [47] ++ (addrText ip ++ (44 :: macText mac)) := rfl
  have c5 : (44 :: macText mac : List UInt8) = [44] ++ macText mac := rfl
  refine ⟨0, 0 + (Lib.decDigits n).length + 1, 0 + (Lib.decDigits n).length + 1 + (48 :: 120 :: hexDigits n).length, 0 + (Lib.decDigits n).length + 1 + (48 :: 120 :: hexDigits n).length + [(47 : UInt8)].length, 0 + (Lib.decDigits n).length + 1 + (48 :: 120 :: hexDigits n).length + [(47 : UInt8)].length + (addrText ip).length, 0 + (Lib.decDigits n).length + 1 + (48 :: 120 :: hexDigits n).length + [(47 : UInt8)].length + (addrText ip).length + [(44 : UInt8)].length, 0 + (Lib.decDigits n).length + 1 + (48 :: 120 :: hexDigits n).length + [(47 : UInt8)].length + (addrText ip).length + [(44 : UInt8)].length + (macText mac).length, ?_⟩
  unfold numText
  rw [lexR_step (decD_ne n) t1]
  have e2 : ∀ v a, lexR (f + 7) (32 :: v) a = lexR (f + 6) v (a + 1) := fun _ _ => rfl
  rw [e2, lexR_step (w := 48 :: 120 :: hexDigits n) (by simp) t2, c3, lexR_step (w := [47]) (by simp) t3, lexR_step hane t4, c5, lexR_step (w := [44]) (by simp) t5]
  have t7 := lexR_step hm0 t6 (f + 1)
  rw [List.append_nil] at t7
  rw [t7, lexR_nil]
  rfl
end Go.Proofs.YtmdiieignlidhaaDoor
