/- The reference's reading of addresses is the program's. -/
import Derived.Test.YtomkkdlfoellaaaDoorTxtP2
set_option linter.unusedSimpArgs false
set_option linter.unusedVariables false
namespace Go.Proofs.YtomkkdlfoellaaaDoor
open Go Go.Vm Go.Proofs

/-- A digit as the reference reads it. -/
def digL (c : UInt8) : Option Nat :=
  if 48 ≤ c.toNat ∧ c.toNat ≤ 57 then some (c.toNat - 48) else
  if 97 ≤ c.toNat ∧ c.toNat ≤ 102 then some (c.toNat - 97 + 10) else none
def refM : Nat → List UInt8 → Nat → Option Nat
  | _, [], x => some x
  | i, c :: r, x => if i % 3 = 2 then (if c = 58 then refM (i + 1) r x else none) else
    match digL c with
    | some d => refM (i + 1) r (x * 16 + d)
    | none => none
def refMac (s : List UInt8) : Option Nat := if s.length = 17 then refM 0 s 0 else none

theorem digL_hexD : ∀ n : Fin 16, digL (hexD n.val) = some n.val := by decide +kernel
theorem digL_hex {n : Nat} (h : n < 16) : digL (hexD n) = some n := digL_hexD ⟨n, h⟩
theorem digL_some' : ∀ c : Fin 256, (match digL (UInt8.ofNat c.val) with | some d => decide (d < 16) && decide (UInt8.ofNat c.val = hexD d) | none => true) = true := by decide +kernel
theorem digL_some {c : UInt8} {d : Nat} (h : digL c = some d) : d < 16 ∧ c = hexD d := by
  have := digL_some' ⟨c.toNat, c.toNat_lt⟩
  simp only [UInt8.ofNat_toNat, h, Bool.and_eq_true, decide_eq_true_eq] at this
  exact this
theorem refM_dig {i : Nat} {c : UInt8} {r : List UInt8} {x m : Nat} (hi : i % 3 ≠ 2) (h : refM i (c :: r) x = some m) : ∃ d, d < 16 ∧ c = hexD d ∧ refM (i + 1) r (x * 16 + d) = some m := by
  rw [refM, if_neg hi] at h
  cases hd : digL c with
  | none => rw [hd] at h; cases h
  | some d => rw [hd] at h; exact ⟨d, (digL_some hd).1, (digL_some hd).2, h⟩
theorem refM_sep {i : Nat} {c : UInt8} {r : List UInt8} {x m : Nat} (hi : i % 3 = 2) (h : refM i (c :: r) x = some m) : c = 58 ∧ refM (i + 1) r x = some m := by
  rw [refM, if_pos hi] at h
  split at h
  · rename_i hc; exact ⟨hc, h⟩
  · cases h
theorem refM_go {i : Nat} {d : Nat} {r : List UInt8} {x : Nat} (hi : i % 3 ≠ 2) (h : d < 16) : refM i (hexD d :: r) x = refM (i + 1) r (x * 16 + d) := by
  rw [refM, if_neg hi, digL_hex h]
theorem refM_col {i : Nat} {r : List UInt8} {x : Nat} (hi : i % 3 = 2) : refM i (58 :: r) x = refM (i + 1) r x := by
  rw [refM, if_pos hi, if_pos rfl]

theorem macText_low (x : Nat) : macText x = [hexD (x / 256 ^ 5 % 256 / 16), hexD (x / 256 ^ 5 % 256 % 16), 58, hexD (x / 256 ^ 4 % 256 / 16), hexD (x / 256 ^ 4 % 256 % 16), 58, hexD (x / 256 ^ 3 % 256 / 16), hexD (x / 256 ^ 3 % 256 % 16), 58,
    hexD (x / 256 ^ 2 % 256 / 16), hexD (x / 256 ^ 2 % 256 % 16), 58, hexD (x / 256 ^ 1 % 256 / 16), hexD (x / 256 ^ 1 % 256 % 16), 58, hexD (x / 256 ^ 0 % 256 / 16), hexD (x / 256 ^ 0 % 256 % 16)] := rfl

/-- Two digits' bytes. -/
theorem byte_hi {a b : Nat} (ha : a < 16) (hb : b < 16) : (a * 16 + b) / 16 = a ∧ (a * 16 + b) % 16 = b := ⟨by omega, by omega⟩

theorem refMac_some {s : List UInt8} {m : Nat} (h : refMac s = some m) : macText m = s ∧ m < 2 ^ 48 := by
  unfold refMac at h
  split at h
  · rename_i hl
    match s, hl with
    | [c0, c1, c2, c3, c4, c5, c6, c7, c8, c9, c10, c11, c12, c13, c14, c15, c16], _ =>
      obtain ⟨d0, h0, rfl, k0⟩ := refM_dig (by decide) h
      obtain ⟨d1, h1, rfl, k1⟩ := refM_dig (by decide) k0
      obtain ⟨rfl, k2⟩ := refM_sep (by decide) k1
      obtain ⟨d3, h3, rfl, k3⟩ := refM_dig (by decide) k2
      obtain ⟨d4, h4, rfl, k4⟩ := refM_dig (by decide) k3
      obtain ⟨rfl, k5⟩ := refM_sep (by decide) k4
      obtain ⟨d6, h6, rfl, k6⟩ := refM_dig (by decide) k5
      obtain ⟨d7, h7, rfl, k7⟩ := refM_dig (by decide) k6
      obtain ⟨rfl, k8⟩ := refM_sep (by decide) k7
      obtain ⟨d9, h9, rfl, k9⟩ := refM_dig (by decide) k8
      obtain ⟨d10, h10, rfl, k10⟩ := refM_dig (by decide) k9
      obtain ⟨rfl, k11⟩ := refM_sep (by decide) k10
      obtain ⟨d12, h12, rfl, k12⟩ := refM_dig (by decide) k11
      obtain ⟨d13, h13, rfl, k13⟩ := refM_dig (by decide) k12
      obtain ⟨rfl, k14⟩ := refM_sep (by decide) k13
      obtain ⟨d15, h15, rfl, k15⟩ := refM_dig (by decide) k14
      obtain ⟨d16, h16, rfl, k16⟩ := refM_dig (by decide) k15
      rw [refM] at k16
      have hm := Option.some.inj k16
      clear h k0 k1 k2 k3 k4 k5 k6 k7 k8 k9 k10 k11 k12 k13 k14 k15 k16
      have g5 : m / 256 ^ 5 % 256 = d0 * 16 + d1 := by simp only [Nat.reducePow]; omega
      have g4 : m / 256 ^ 4 % 256 = d3 * 16 + d4 := by simp only [Nat.reducePow]; omega
      have g3 : m / 256 ^ 3 % 256 = d6 * 16 + d7 := by simp only [Nat.reducePow]; omega
      have g2 : m / 256 ^ 2 % 256 = d9 * 16 + d10 := by simp only [Nat.reducePow]; omega
      have g1 : m / 256 ^ 1 % 256 = d12 * 16 + d13 := by simp only [Nat.reducePow]; omega
      have g0 : m / 256 ^ 0 % 256 = d15 * 16 + d16 := by simp only [Nat.reducePow]; omega
      refine ⟨?_, by omega⟩
      rw [macText_low, g5, g4, g3, g2, g1, g0, (byte_hi h0 h1).1, (byte_hi h0 h1).2, (byte_hi h3 h4).1, (byte_hi h3 h4).2, (byte_hi h6 h7).1, (byte_hi h6 h7).2, (byte_hi h9 h10).1, (byte_hi h9 h10).2, (byte_hi h12 h13).1, (byte_hi h12 h13).2, (byte_hi h15 h16).1, (byte_hi h15 h16).2]
  · cases h

theorem refMac_text {m : Nat} (h : m < 2 ^ 48) : refMac (macText m) = some m := by
  unfold refMac
  rw [if_pos (macText_length m), macText_low]
  rw [refM_go (by decide) (by omega), refM_go (by decide) (by omega), refM_col (by decide), refM_go (by decide) (by omega), refM_go (by decide) (by omega), refM_col (by decide), refM_go (by decide) (by omega), refM_go (by decide) (by omega), refM_col (by decide),
    refM_go (by decide) (by omega), refM_go (by decide) (by omega), refM_col (by decide), refM_go (by decide) (by omega), refM_go (by decide) (by omega), refM_col (by decide), refM_go (by decide) (by omega), refM_go (by decide) (by omega), refM]
  simp only [Nat.reducePow] at h ⊢
  congr 1
  omega
theorem macR_lt {s : List UInt8} {m : Nat} (h : macR s = some m) : m < 2 ^ 48 := by
  have e := macR_some h
  subst e
  rw [macR_text] at h
  have := Option.some.inj h
  omega
theorem refMac_eq (s : List UInt8) : refMac s = macR s := by
  cases h : refMac s with
  | some m =>
    obtain ⟨rfl, hm⟩ := refMac_some h
    rw [macR_text, Nat.mod_eq_of_lt hm]
  | none =>
    cases h2 : macR s with
    | none => rfl
    | some m =>
      have e := macR_some h2
      subst e
      rw [refMac_text (macR_lt h2)] at h
      cases h

/-! The other address. -/
def refA : List UInt8 → Nat → Nat → Nat → Nat → Option Nat
  | [], x, parts, n, size => if size = 0 then none else if parts + 1 = 4 then some (x * 256 + n) else none
  | c :: r, x, parts, n, size =>
    if c = 46 then (if size = 0 then none else refA r (x * 256 + n) (parts + 1) 0 0) else
    if c.toNat < 48 ∨ 57 < c.toNat ∨ (0 < size ∧ n = 0) ∨ size = 3 then none else
    if 255 < 10 * n + (c.toNat - 48) ∨ 3 < parts then none else refA r x parts (10 * n + (c.toNat - 48)) (size + 1)

theorem join_two (a b : List UInt8) (l : List (List UInt8)) : Lib.join (a :: b :: l) [46] = a ++ 46 :: Lib.join (b :: l) [46] := by
  simp [Lib.join, Lib.joinTail]
theorem join_one (a : List UInt8) : Lib.join [a] [46] = a := by simp [Lib.join, Lib.joinTail]

theorem refA_some : ∀ (r : List UInt8) (x parts n : Nat) (cur : List UInt8) (m : Nat), (cur = [] ∧ n = 0 ∨ cur = Lib.decDigits n ∧ n < 256) → parts ≤ 4 → (parts = 4 → cur = []) → refA r x parts n cur.length = some m →
    ∃ l : List Nat, l ≠ [] ∧ (∀ b ∈ l, b < 256) ∧ parts + l.length = 4 ∧ cur ++ r = Lib.join (l.map Lib.decDigits) [46] ∧ m = l.foldl (fun a b => a * 256 + b) x
  | [], x, parts, n, cur, m, hc, hp, h4, h => by
    rw [refA] at h
    split at h
    · cases h
    · rename_i h0
      split at h
      · rename_i hq
        rcases hc with ⟨rfl, _⟩ | ⟨rfl, hn⟩
        · exact absurd rfl h0
        · refine ⟨[n], by simp, by simpa using hn, by simp; omega, by rw [List.append_nil, List.map_cons, List.map_nil, join_one], ?_⟩
          rw [← Option.some.inj h]; rfl
      · cases h
  | c :: r, x, parts, n, cur, m, hc, hp, h4, h => by
    rw [refA] at h
    split at h
    · rename_i h46
      subst h46
      split at h
      · cases h
      · rename_i h0
        have hne : cur ≠ [] := fun e => h0 (by rw [e]; rfl)
        have hp4 : parts ≠ 4 := fun e => hne (h4 e)
        rcases hc with ⟨rfl, _⟩ | ⟨rfl, hn⟩
        · exact absurd rfl hne
        · obtain ⟨l, hl, hb, hs, he, hm⟩ := refA_some r (x * 256 + n) (parts + 1) 0 [] m (.inl ⟨rfl, rfl⟩) (by omega) (fun _ => rfl) h
          refine ⟨n :: l, by simp, fun b hb' => ?_, by simp; omega, ?_, hm⟩
          · rcases List.mem_cons.1 hb' with rfl | hb'
            · exact hn
            · exact hb b hb'
          · cases l with
            | nil => exact absurd rfl hl
            | cons y l =>
              rw [List.nil_append] at he
              rw [List.map_cons, List.map_cons, join_two, ← List.map_cons, ← he]
    · split at h
      · cases h
      · rename_i h46 hk
        split at h
        · cases h
        · rename_i hq
          have hd : c.toNat - 48 < 10 := by omega
          have hcd : UInt8.ofNat (48 + (c.toNat - 48)) = c := by rw [show 48 + (c.toNat - 48) = c.toNat by omega, UInt8.ofNat_toNat]
          have hcur : cur ++ [c] = Lib.decDigits (10 * n + (c.toNat - 48)) := by
            rcases hc with ⟨rfl, rfl⟩ | ⟨rfl, hn⟩
            · rw [Nat.mul_zero, Nat.zero_add, decD_small hd, hcd]; rfl
            · have hpos : 0 < (Lib.decDigits n).length := List.length_pos_iff.2 (decD_ne n)
              have hn0 : n ≠ 0 := fun e => hk (.inr (.inr (.inl ⟨hpos, e⟩)))
              rw [decD_big (u := 10 * n + (c.toNat - 48)) (by omega), show (10 * n + (c.toNat - 48)) / 10 = n by omega, show (10 * n + (c.toNat - 48)) % 10 = c.toNat - 48 by omega, hcd]
          obtain ⟨l, hl, hb, hs, he, hm⟩ := refA_some r x parts (10 * n + (c.toNat - 48)) (cur ++ [c]) m (.inr ⟨hcur, by omega⟩) hp (fun e => by omega) (by rw [List.length_append]; exact h)
          exact ⟨l, hl, hb, hs, by rw [← he]; simp, hm⟩

theorem refA_text {s : List UInt8} {m : Nat} (h : refA s 0 0 0 0 = some m) : addrText m = s ∧ m < 2 ^ 32 := by
  obtain ⟨l, hl, hb, hs, he, hm⟩ := refA_some s 0 0 0 [] m (.inl ⟨rfl, rfl⟩) (by omega) (fun e => by omega) h
  match l, hs with
  | [a, b, c, d], _ =>
    have ha := hb a (by simp)
    have hb' := hb b (by simp)
    have hc := hb c (by simp)
    have hd := hb d (by simp)
    simp only [List.foldl_cons, List.foldl_nil] at hm
    rw [List.nil_append] at he
    refine ⟨?_, by omega⟩
    rw [addrText_eq, he, show m / 256 ^ 3 % 256 = a by simp only [Nat.reducePow]; omega, show m / 256 ^ 2 % 256 = b by simp only [Nat.reducePow]; omega, show m / 256 % 256 = c by omega, show m % 256 = d by omega]
    rw [List.map_cons, List.map_cons, join_two, List.map_cons, ← List.map_cons, List.map_cons, join_two, List.map_cons, List.map_nil, join_two, join_one]

theorem dig_nat {d : Nat} (h : d < 10) : (UInt8.ofNat (48 + d)).toNat = 48 + d := ofNat_toNat' (by omega)
theorem dig_ne {d : Nat} (h : d < 10) : UInt8.ofNat (48 + d) ≠ 46 := fun e => by
  have := congrArg UInt8.toNat e
  rw [dig_nat h] at this
  have e2 : (46 : UInt8).toNat = 46 := rfl
  omega
theorem refA_dig {d : Nat} (h : d < 10) {r : List UInt8} {x parts n size : Nat} (hp : parts ≤ 3) (hz : size = 0 ∨ n ≠ 0) (h3 : size < 3) (hn : 10 * n + d < 256) :
    refA (UInt8.ofNat (48 + d) :: r) x parts n size = refA r x parts (10 * n + d) (size + 1) := by
  rw [refA, if_neg (dig_ne h), dig_nat h, if_neg (by omega), if_neg (by omega), show 48 + d - 48 = d by omega]
theorem refA_dec {b : Nat} (h : b < 256) (r : List UInt8) {x parts : Nat} (hp : parts ≤ 3) : ∃ k, 0 < k ∧ refA (Lib.decDigits b ++ r) x parts 0 0 = refA r x parts b k := by
  by_cases h1 : b < 10
  · refine ⟨1, by omega, ?_⟩
    rw [decD_small h1, List.singleton_append, refA_dig h1 hp (.inl rfl) (by omega) (by omega)]
    congr 1; omega
  · by_cases h2 : b / 10 < 10
    · refine ⟨2, by omega, ?_⟩
      rw [decD_big h1, decD_small h2, List.append_assoc, List.singleton_append, List.singleton_append, refA_dig h2 hp (.inl rfl) (by omega) (by omega), refA_dig (Nat.mod_lt _ (by omega)) hp (.inr (by omega)) (by omega) (by omega)]
      congr 1; omega
    · refine ⟨3, by omega, ?_⟩
      rw [decD_big h1, decD_big h2, decD_small (u := b / 10 / 10) (by omega), List.append_assoc, List.append_assoc, List.singleton_append, List.singleton_append, List.singleton_append, refA_dig (by omega) hp (.inl rfl) (by omega) (by omega),
        refA_dig (Nat.mod_lt _ (by omega)) hp (.inr (by omega)) (by omega) (by omega), refA_dig (Nat.mod_lt _ (by omega)) hp (.inr (by omega)) (by omega) (by omega)]
      congr 1; omega
theorem refA_sep {r : List UInt8} {x parts n k : Nat} (hk : 0 < k) : refA (46 :: r) x parts n k = refA r (x * 256 + n) (parts + 1) 0 0 := by
  rw [refA, if_pos rfl, if_neg (by omega)]
theorem refAddr_text {m : Nat} (h : m < 2 ^ 32) : refA (addrText m) 0 0 0 0 = some m := by
  rw [addrText_eq]
  obtain ⟨k1, p1, e1⟩ := refA_dec (b := m / 256 ^ 3 % 256) (Nat.mod_lt _ (by omega)) (46 :: (Lib.decDigits (m / 256 ^ 2 % 256) ++ (46 :: (Lib.decDigits (m / 256 % 256) ++ (46 :: Lib.decDigits (m % 256)))))) (x := 0) (parts := 0) (by omega)
  rw [e1, refA_sep p1]
  obtain ⟨k2, p2, e2⟩ := refA_dec (b := m / 256 ^ 2 % 256) (Nat.mod_lt _ (by omega)) (46 :: (Lib.decDigits (m / 256 % 256) ++ (46 :: Lib.decDigits (m % 256)))) (x := 0 * 256 + m / 256 ^ 3 % 256) (parts := 0 + 1) (by omega)
  rw [e2, refA_sep p2]
  obtain ⟨k3, p3, e3⟩ := refA_dec (b := m / 256 % 256) (Nat.mod_lt _ (by omega)) (46 :: Lib.decDigits (m % 256)) (x := (0 * 256 + m / 256 ^ 3 % 256) * 256 + m / 256 ^ 2 % 256) (parts := 0 + 1 + 1) (by omega)
  rw [e3, refA_sep p3]
  obtain ⟨k4, p4, e4⟩ := refA_dec (b := m % 256) (Nat.mod_lt _ (by omega)) [] (x := ((0 * 256 + m / 256 ^ 3 % 256) * 256 + m / 256 ^ 2 % 256) * 256 + m / 256 % 256) (parts := 0 + 1 + 1 + 1) (by omega)
  rw [List.append_nil] at e4
  rw [e4, refA, if_neg (by omega), if_pos rfl]
  simp only [Nat.reducePow] at h ⊢
  congr 1
  omega
theorem addrR_lt {s : List UInt8} {m : Nat} (h : addrR s = some m) : m < 2 ^ 32 := by
  unfold addrR at h
  rw [Option.bind_eq_some_iff] at h
  obtain ⟨x, hx, h⟩ := h
  split at h
  · obtain rfl := Option.some.inj h
    have : ∀ (l : List (List UInt8)) (y : Nat), y < 2 ^ 32 → partsR 10 (2 ^ 32) y l = some x → x < 2 ^ 32 := by
      intro l
      induction l with
      | nil => intro y hy h; rw [partsR] at h; obtain rfl := Option.some.inj h; exact hy
      | cons p l ih =>
        intro y hy h
        rw [partsR, Option.bind_eq_some_iff] at h
        obtain ⟨n, _, h⟩ := h
        exact ih _ (Nat.mod_lt _ (by decide)) h
    exact this _ _ (by decide) hx
  · cases h
theorem refA_eq (s : List UInt8) : refA s 0 0 0 0 = addrR s := by
  cases h : refA s 0 0 0 0 with
  | some m =>
    obtain ⟨rfl, hm⟩ := refA_text h
    rw [addrR_text hm]
  | none =>
    cases h2 : addrR s with
    | none => rfl
    | some m =>
      have e := addrR_some h2
      subst e
      rw [refAddr_text (addrR_lt h2)] at h
      cases h
end Go.Proofs.YtomkkdlfoellaaaDoor
