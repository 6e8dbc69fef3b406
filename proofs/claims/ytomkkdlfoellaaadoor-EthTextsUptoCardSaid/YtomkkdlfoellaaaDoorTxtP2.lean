/- Facts of the lexer's parts. -/
import Derived.Test.YtomkkdlfoellaaaDoorTxtP1
set_option linter.unusedSimpArgs false
set_option linter.unusedVariables false
namespace Go.Proofs.YtomkkdlfoellaaaDoor
open Go Go.Vm Go.Proofs

/-! Pieces. -/
theorem splitC_one {c : UInt8} : ∀ {x : List UInt8}, (∀ b ∈ x, b ≠ c) → splitC c x = [x]
  | [], _ => rfl
  | b :: x, h => by
    rw [splitC, if_neg (h b (by simp)), splitC_one (fun d hd => h d (by simp [hd]))]
theorem splitC_app {c : UInt8} {y : List UInt8} : ∀ {x : List UInt8}, (∀ b ∈ x, b ≠ c) → splitC c (x ++ c :: y) = x :: splitC c y
  | [], _ => by rw [List.nil_append, splitC, if_pos rfl]
  | b :: x, h => by
    rw [List.cons_append, splitC, if_neg (h b (by simp)), splitC_app (fun d hd => h d (by simp [hd]))]
theorem splitC_tail {c : UInt8} : ∀ {l : List (List UInt8)} {x : List UInt8}, (∀ b ∈ x, b ≠ c) → (∀ y ∈ l, ∀ b ∈ y, b ≠ c) → splitC c (x ++ Lib.joinTail [c] l) = x :: l
  | [], x, h, _ => by simp only [Lib.joinTail, List.map_nil, List.flatten_nil, List.append_nil]; exact splitC_one h
  | y :: l, x, h, hl => by
    have e : x ++ Lib.joinTail [c] (y :: l) = x ++ c :: (y ++ Lib.joinTail [c] l) := by simp [Lib.joinTail]
    rw [e, splitC_app h, splitC_tail (hl y (by simp)) (fun z hz => hl z (by simp [hz]))]
theorem splitC_join {c : UInt8} {x : List UInt8} {l : List (List UInt8)} (h : ∀ y ∈ x :: l, ∀ b ∈ y, b ≠ c) : splitC c (Lib.join (x :: l) [c]) = x :: l := by
  rw [Lib.join_cons]; exact splitC_tail (h x (by simp)) (fun y hy => h y (by simp [hy]))

/-! Digits. -/
theorem decD_small {u : Nat} (h : u < 10) : Lib.decDigits u = [UInt8.ofNat (48 + u)] := by rw [Lib.decDigits, dif_pos h]
theorem decD_big {u : Nat} (h : ¬ u < 10) : Lib.decDigits u = Lib.decDigits (u / 10) ++ [UInt8.ofNat (48 + u % 10)] := by rw [Lib.decDigits, dif_neg h]
theorem itoa_nat (u : Nat) : Lib.itoa (u : Int) = Lib.decDigits u := by unfold Lib.itoa; rw [if_neg (by omega)]; simp
theorem ofNat_toNat' {n : Nat} (h : n < 256) : (UInt8.ofNat n).toNat = n := by simp [Nat.mod_eq_of_lt h]
theorem decD_dig (u : Nat) : ∀ c ∈ Lib.decDigits u, digP c.toNat := by
  induction u using Nat.strongRecOn with
  | _ u ih =>
    by_cases h : u < 10
    · rw [decD_small h]
      intro c hc
      simp only [List.mem_singleton] at hc
      subst hc
      rw [ofNat_toNat' (by omega)]; unfold digP; omega
    · rw [decD_big h]
      intro c hc
      rcases List.mem_append.1 hc with hc | hc
      · exact ih _ (by omega) c hc
      · simp only [List.mem_singleton] at hc
        subst hc
        rw [ofNat_toNat' (by omega)]; unfold digP; omega

theorem digV_dec {n : Nat} (h : n < 10) : digV (UInt8.ofNat (48 + n)) = some n := by
  have : (UInt8.ofNat (48 + n)).toNat = 48 + n := ofNat_toNat' (by omega)
  unfold digV
  rw [this, if_pos (by omega)]
  congr 1; omega
theorem digV_hexD : ∀ n : Fin 16, digV (hexD n.val) = some n.val := by decide +kernel
theorem digV_hex {n : Nat} (h : n < 16) : digV (hexD n) = some n := digV_hexD ⟨n, h⟩
theorem hexD_hexP' : ∀ n : Fin 16, hexP (hexD n.val).toNat := by decide +kernel
theorem hexD_hexP {n : Nat} (h : n < 16) : hexP (hexD n).toNat := hexD_hexP' ⟨n, h⟩
theorem hexD_ne {n : Nat} (h : n < 16) {c : UInt8} (hc : ¬ hexP c.toNat) : hexD n ≠ c := fun e => hc (e ▸ hexD_hexP h)

theorem puL_app {base mx : Nat} {c : UInt8} {d : Nat} (hd : digV c = some d) (hb : d < base) : ∀ {l : List UInt8} {n v : Nat}, puL base mx n l = (v, 0) → v * base + d ≤ mx → puL base mx n (l ++ [c]) = (v * base + d, 0)
  | [], n, v, h, hm => by
    simp only [puL, Prod.mk.injEq, and_true] at h
    subst h
    simp only [List.nil_append, puL, hd]
    rw [if_neg (by omega), if_neg (by omega)]
  | b :: l, n, v, h, hm => by
    simp only [List.cons_append, puL] at h ⊢
    split at h
    · simp at h
    · rename_i e he
      split at h
      · simp at h
      · rename_i h1
        rw [if_neg h1]
        split at h
        · simp at h
        · rename_i h2
          rw [if_neg h2]
          exact puL_app hd hb h hm
theorem decD_ne (u : Nat) : Lib.decDigits u ≠ [] := by
  by_cases h : u < 10
  · rw [decD_small h]; simp
  · rw [decD_big h]; simp
theorem puL_dec {mx : Nat} (u : Nat) : u ≤ mx → puL 10 mx 0 (Lib.decDigits u) = (u, 0) := by
  induction u using Nat.strongRecOn with
  | _ u ih =>
    intro hm
    by_cases h : u < 10
    · rw [decD_small h]
      simp only [puL, digV_dec h]
      rw [if_neg (by omega), if_neg (by omega)]
      congr 1; omega
    · rw [decD_big h, puL_app (digV_dec (by omega)) (by omega) (ih (u / 10) (by omega) (by omega)) (by omega)]
      congr 1; omega
theorem puR_dec {mx u : Nat} (h : u ≤ mx) : puR 10 mx (Lib.decDigits u) = some u := by
  unfold puR puE
  rw [if_neg (decD_ne u), puL_dec u h]; rfl
/-- Hexadecimal digits of a number. -/
def hexDigits (u : Nat) : List UInt8 := if h : u < 16 then [hexD u] else hexDigits (u / 16) ++ [hexD (u % 16)]
termination_by u
decreasing_by omega
theorem hexU_small {u : Nat} (h : u < 16) : hexDigits u = [hexD u] := by rw [hexDigits, dif_pos h]
theorem hexU_big {u : Nat} (h : ¬ u < 16) : hexDigits u = hexDigits (u / 16) ++ [hexD (u % 16)] := by rw [hexDigits, dif_neg h]
theorem hexU_ne (u : Nat) : hexDigits u ≠ [] := by
  by_cases h : u < 16
  · rw [hexU_small h]; simp
  · rw [hexU_big h]; simp
theorem puL_hex {mx : Nat} (u : Nat) : u ≤ mx → puL 16 mx 0 (hexDigits u) = (u, 0) := by
  induction u using Nat.strongRecOn with
  | _ u ih =>
    intro hm
    by_cases h : u < 16
    · rw [hexU_small h]
      simp only [puL, digV_hex h]
      rw [if_neg (by omega), if_neg (by omega)]
      congr 1; omega
    · rw [hexU_big h, puL_app (digV_hex (by omega)) (by omega) (ih (u / 16) (by omega) (by omega)) (by omega)]
      congr 1; omega
theorem puR_hex {mx u : Nat} (h : u ≤ mx) : puR 16 mx (hexDigits u) = some u := by
  unfold puR puE
  rw [if_neg (hexU_ne u), puL_hex u h]; rfl
theorem hexU_hexP (u : Nat) : ∀ c ∈ hexDigits u, hexP c.toNat := by
  induction u using Nat.strongRecOn with
  | _ u ih =>
    by_cases h : u < 16
    · rw [hexU_small h]
      intro c hc
      simp only [List.mem_singleton] at hc
      subst hc; exact hexD_hexP h
    · rw [hexU_big h]
      intro c hc
      rcases List.mem_append.1 hc with hc | hc
      · exact ih _ (by omega) c hc
      · simp only [List.mem_singleton] at hc
        subst hc; exact hexD_hexP (by omega)
theorem hexU_length (u : Nat) : ∀ k, u < 16 ^ (k + 1) → (hexDigits u).length ≤ k + 1 := by
  induction u using Nat.strongRecOn with
  | _ u ih =>
    intro k hk
    by_cases h : u < 16
    · rw [hexU_small h]; simp
    · rw [hexU_big h]
      cases k with
      | zero => omega
      | succ k =>
        have := ih (u / 16) (by omega) k (by rw [Nat.pow_succ] at hk; omega)
        simp; omega

/-! Addresses. -/
theorem lowB_lt (x k : Nat) : ∀ b ∈ lowBytes x k, b < 256 := by
  induction k with
  | zero => simp [lowBytes]
  | succ k ih =>
    intro b hb
    simp only [lowBytes, List.mem_cons] at hb
    rcases hb with rfl | hb
    · exact Nat.mod_lt _ (by omega)
    · exact ih b hb
theorem puR_hex2 : ∀ b : Fin 256, puR 16 255 [hexD (b.val / 16), hexD (b.val % 16)] = some b.val := by decide +kernel
theorem partsR_low {base M : Nat} (f : Nat → List UInt8) (hf : ∀ b, b < 256 → puR base 255 (f b) = some b) (x : Nat) : ∀ (k y : Nat), y * 256 ^ k + x % 256 ^ k < M → partsR base M y ((lowBytes x k).map f) = some (y * 256 ^ k + x % 256 ^ k)
  | 0, y, h => by simp only [lowBytes, List.map_nil, partsR, Nat.pow_zero, Nat.mul_one, Nat.mod_one, Nat.add_zero]
  | k + 1, y, h => by
    have hp : 0 < 256 ^ k := Nat.pow_pos (by omega)
    have e : x % 256 ^ (k + 1) = x / 256 ^ k % 256 * 256 ^ k + x % 256 ^ k := by
      rw [Nat.pow_succ, Nat.mod_mul, Nat.mul_comm, Nat.add_comm]
    have e2 : y * 256 ^ (k + 1) + x % 256 ^ (k + 1) = (y * 256 + x / 256 ^ k % 256) * 256 ^ k + x % 256 ^ k := by
      rw [e, Nat.pow_succ, Nat.add_mul, Nat.mul_assoc, Nat.mul_comm 256, Nat.add_assoc]
    rw [e2] at h ⊢
    have hM : y * 256 + x / 256 ^ k % 256 < M := by
      have : (y * 256 + x / 256 ^ k % 256) * 1 ≤ (y * 256 + x / 256 ^ k % 256) * 256 ^ k := Nat.mul_le_mul_left _ hp
      omega
    simp only [lowBytes, List.map_cons, partsR, hf _ (Nat.mod_lt (x / 256 ^ k) (by omega : 0 < 256)), Option.bind_some]
    rw [Nat.mod_eq_of_lt hM]
    exact partsR_low f hf x k _ h

theorem macText_eq (x : Nat) : ∃ a b c d e f g h i j k l, a < 16 ∧ b < 16 ∧ l < 16 ∧ macText x = [hexD a, hexD b, 58, hexD c, hexD d, 58, hexD e, hexD f, 58, hexD g, hexD h, 58, hexD i, hexD j, 58, hexD k, hexD l] := by
  refine ⟨_, _, _, _, _, _, _, _, _, _, _, _, ?_, ?_, ?_, rfl⟩ <;> omega
theorem macText_length (x : Nat) : (macText x).length = 17 := by
  obtain ⟨a, b, c, d, e, f, g, h, i, j, k, l, _, _, _, e⟩ := macText_eq x
  rw [e]; rfl
theorem macR_text {x : Nat} : macR (macText x) = some (x % 2 ^ 48) := by
  have hs : splitC 58 (macText x) = (lowBytes x 6).map fun b => [hexD (b / 16), hexD (b % 16)] := by
    refine splitC_join (x := [hexD (x / 256 ^ 5 % 256 / 16), hexD (x / 256 ^ 5 % 256 % 16)]) (l := (lowBytes x 5).map fun b => [hexD (b / 16), hexD (b % 16)]) fun y hy c hc => ?_
    have : y ∈ (lowBytes x 6).map fun b => [hexD (b / 16), hexD (b % 16)] := hy
    obtain ⟨b, hb, rfl⟩ := List.mem_map.1 this
    have hb := lowB_lt _ _ _ hb
    simp only [List.mem_cons, List.not_mem_nil, or_false] at hc
    rcases hc with rfl | rfl
    · exact hexD_ne (by omega) (by decide)
    · exact hexD_ne (by omega) (by decide)
  have hp := partsR_low (M := 2 ^ 64) (fun b => [hexD (b / 16), hexD (b % 16)]) (fun b hb => puR_hex2 ⟨b, hb⟩) x 6 0 (by have := Nat.mod_lt x (show 0 < 256 ^ 6 by decide); omega)
  unfold macR
  rw [hs, hp]
  have e : 0 * 256 ^ 6 + x % 256 ^ 6 = x % 2 ^ 48 := by rw [Nat.zero_mul, Nat.zero_add, show 256 ^ 6 = 2 ^ 48 by decide]
  rw [e]
  have e2 : macText (x % 2 ^ 48) = macText x := by
    have : lowBytes (x % 2 ^ 48) 6 = lowBytes x 6 := by
      simp only [lowBytes, Nat.reducePow]
      simp only [List.cons.injEq, and_true]
      omega
    unfold macText
    rw [this]
  simp [e2]
theorem macR_some {s : List UInt8} {m : Nat} (h : macR s = some m) : s = macText m := by
  unfold macR at h
  rw [Option.bind_eq_some_iff] at h
  obtain ⟨x, _, h⟩ := h
  split at h
  · rename_i e; cases h; exact e.symm
  · cases h

theorem addrR_text {x : Nat} (hx : x < 2 ^ 32) : addrR (addrText x) = some x := by
  have hs : splitC 46 (addrText x) = (lowBytes x 4).map fun (b : Nat) => Lib.itoa b := by
    refine splitC_join (x := Lib.itoa (x / 256 ^ 3 % 256 : Nat)) (l := (lowBytes x 3).map fun (b : Nat) => Lib.itoa b) fun y hy c hc => ?_
    have : y ∈ (lowBytes x 4).map fun (b : Nat) => Lib.itoa b := hy
    obtain ⟨b, hb, rfl⟩ := List.mem_map.1 this
    rw [itoa_nat] at hc
    have := decD_dig _ c hc
    rintro rfl
    revert this; decide
  have hp := partsR_low (base := 10) (M := 2 ^ 32) (fun (b : Nat) => Lib.itoa b) (fun b hb => by rw [itoa_nat]; exact puR_dec (by omega)) x 4 0 (by have := Nat.mod_lt x (show 0 < 256 ^ 4 by decide); omega)
  unfold addrR
  rw [hs, hp]
  have e : 0 * 256 ^ 4 + x % 256 ^ 4 = x := by
    rw [Nat.mod_eq_of_lt (by omega)]; omega
  rw [e]
  simp
theorem addrR_some {s : List UInt8} {m : Nat} (h : addrR s = some m) : s = addrText m := by
  unfold addrR at h
  rw [Option.bind_eq_some_iff] at h
  obtain ⟨x, _, h⟩ := h
  split at h
  · rename_i e; cases h; exact e.symm
  · cases h
theorem addrText_eq (x : Nat) : addrText x = Lib.decDigits (x / 256 ^ 3 % 256) ++ (46 :: (Lib.decDigits (x / 256 ^ 2 % 256) ++ (46 :: (Lib.decDigits (x / 256 % 256) ++ (46 :: Lib.decDigits (x % 256)))))) := by
  unfold addrText lowBytes lowBytes lowBytes lowBytes lowBytes
  simp only [List.map_cons, List.map_nil, itoa_nat, Lib.join_cons, Lib.joinTail, List.flatten_cons, List.flatten_nil, List.append_nil, Nat.pow_one, Nat.pow_zero, Nat.div_one, List.cons_append, List.nil_append, List.append_assoc]
theorem addrText_dot (x : Nat) : (46 : UInt8) ∈ addrText x := by rw [addrText_eq]; simp
theorem addrText_dotP (x : Nat) : ∀ c ∈ addrText x, dotP c.toNat := by
  intro c hc
  rw [addrText_eq] at hc
  simp only [List.mem_append, List.mem_cons] at hc
  have h46 : dotP (46 : UInt8).toNat := by decide
  rcases hc with hc | rfl | hc | rfl | hc | rfl | hc
  · exact .inl (decD_dig _ _ hc)
  · exact h46
  · exact .inl (decD_dig _ _ hc)
  · exact h46
  · exact .inl (decD_dig _ _ hc)
  · exact h46
  · exact .inl (decD_dig _ _ hc)
theorem addrText_length (x : Nat) : 3 ≤ (addrText x).length := by
  rw [addrText_eq]
  simp; omega
end Go.Proofs.YtomkkdlfoellaaaDoor
