/- The lexer, in plain words. -/
import Derived.Test.YtklcmgodhpediaaGreatDoorExLV3
import Derived.Lib.SplitLaws
set_option linter.unusedSimpArgs false
set_option linter.unusedVariables false
namespace Go.Proofs.YtklcmgodhpediaaGreatDoor.L
open Go Go.Vm Go.Proofs Go.Proofs.YtklcmgodhpediaaGreatDoor

def lineP (c : Int) : Prop := c ≠ 10
def nameP (c : Int) : Prop := (letP c ∨ digP c) ∨ c = 46
def dotP (c : Int) : Prop := digP c ∨ c = 46
def hexP (c : Int) : Prop := digP c ∨ (97 ≤ c ∧ c ≤ 102)
def textP (c : Int) : Prop := 32 ≤ c ∧ c ≤ 126 ∧ c ≠ 34 ∧ c ≠ 92
instance (c : Int) : Decidable (lineP c) := by unfold lineP; infer_instance
instance (c : Int) : Decidable (nameP c) := by unfold nameP; infer_instance
instance (c : Int) : Decidable (dotP c) := by unfold dotP; infer_instance
instance (c : Int) : Decidable (hexP c) := by unfold hexP; infer_instance
instance (c : Int) : Decidable (textP c) := by unfold textP; infer_instance

def spanU (p : Int → Prop) [DecidablePred p] (u : List UInt8) : Nat := (u.takeWhile fun b => decide (p b.toNat)).length
def endsU : List UInt8 → Bool
  | [] => true
  | c :: _ => !decide (letP c.toNat ∨ digP c.toNat)

/-! Numbers. -/
def digV (c : UInt8) : Option Nat :=
  if 48 ≤ c.toNat ∧ c.toNat ≤ 57 then some (c.toNat - 48) else
  if 97 ≤ (c ||| 32).toNat ∧ (c ||| 32).toNat ≤ 122 then some ((c ||| 32).toNat - 87) else none
def puL (base mx : Nat) : Nat → List UInt8 → Nat × Nat
  | n, [] => (n, 0)
  | n, c :: r =>
    match digV c with
    | none => (0, 2)
    | some d => if base ≤ d then (0, 2) else if mx < n * base + d then (mx, 1) else puL base mx (n * base + d) r
def puE (base mx : Nat) (s : List UInt8) : Nat × Nat := if s = [] then (0, 2) else puL base mx 0 s
def puR (base mx : Nat) (s : List UInt8) : Option Nat := if (puE base mx s).2 = 0 then some (puE base mx s).1 else none

def partsR (base M : Nat) : Nat → List (List UInt8) → Option Nat
  | x, [] => some x
  | x, p :: r => (puR base 255 p).bind fun n => partsR base M ((x * 256 + n) % M) r

def hexD (n : Nat) : UInt8 := if n < 10 then UInt8.ofNat (48 + n) else UInt8.ofNat (87 + n)
def lowBytes (x : Nat) : Nat → List Nat
  | 0 => []
  | k + 1 => x / 256 ^ k % 256 :: lowBytes x k
def macText (x : Nat) : List UInt8 := Lib.join ((lowBytes x 6).map fun b => [hexD (b / 16), hexD (b % 16)]) [58]
def addrText (x : Nat) : List UInt8 := Lib.join ((lowBytes x 4).map fun (b : Nat) => Lib.itoa b) [46]
def macR (s : List UInt8) : Option Nat := (partsR 16 (2 ^ 64) 0 (splitC 58 s)).bind fun x => if macText x = s then some x else none
def addrR (s : List UInt8) : Option Nat := (partsR 10 (2 ^ 32) 0 (splitC 46 s)).bind fun x => if addrText x = s then some x else none

/-! Tokens. -/
def macT (u : List UInt8) : Option Nat := if u.length < 17 then none else (macR (u.take 17)).bind fun m => if endsU (u.drop 17) then some m else none
def addrF (u : List UInt8) : Nat → Option (Nat × Nat)
  | 0 => none
  | n + 1 =>
    match addrR (u.take (n + 1)) with
    | some a => if endsU (u.drop (n + 1)) then some (n + 1, a) else addrF u n
    | none => addrF u n
def addrT (u : List UInt8) : Option (Nat × Nat) := addrF u (spanU dotP u)
def numT (u : List UInt8) : Option (Nat × Nat) :=
  if [48, 120].isPrefixOf u then
    if 16 < spanU hexP (u.drop 2) then none else
    (puR 16 18446744073709551615 ((u.drop 2).take (spanU hexP (u.drop 2)))).bind fun x => if endsU (u.drop (spanU hexP (u.drop 2) + 2)) then some (spanU hexP (u.drop 2) + 2, x) else none
  else if 1 < spanU digP u ∧ u.getD 0 0 = 48 then none else
  (puR 10 18446744073709551615 (u.take (spanU digP u))).bind fun x => if endsU (u.drop (spanU digP u)) then some (spanU digP u, x) else none
def quoT (u : List UInt8) : Option Nat :=
  if 64 < spanU textP (u.drop 1) ∨ (u.drop 1)[spanU textP (u.drop 1)]? ≠ some 34 then none else some (spanU textP (u.drop 1))
def opsL : List (List UInt8) := [[38, 38], [124, 124], [61, 61], [33, 61], [60, 61], [62, 61], [46, 46], [60], [62], [33], [40], [41], [123], [125], [44], [47]]
def opT (u : List UInt8) : Option (List UInt8) := opsL.find? fun o => o.isPrefixOf u

inductive Tk where
  | skip (n : Nat)
  | tok (kind n : Nat) (text : List UInt8) (num : Nat)
  | bad
def stepU (c : UInt8) (r : List UInt8) : Tk :=
  if c = 32 ∨ c = 9 ∨ c = 10 ∨ c = 13 then .skip 1 else
  if c = 35 then .skip (spanU lineP (c :: r)) else
  match macT (c :: r) with
  | some m => .tok 3 17 ((c :: r).take 17) m
  | none =>
  match addrT (c :: r) with
  | some (n, a) => .tok 4 n ((c :: r).take n) a
  | none =>
  if digP c.toNat then
    match numT (c :: r) with
    | some (n, x) => .tok 2 n ((c :: r).take n) x
    | none => .bad
  else if letP c.toNat then .tok 1 (spanU nameP (c :: r)) ((c :: r).take (spanU nameP (c :: r))) 0
  else if c = 34 then
    match quoT (c :: r) with
    | some n => .tok 6 (n + 2) (r.take n) 0
    | none => .bad
  else
    match opT (c :: r) with
    | some o => .tok 5 o.length o 0
    | none => .bad

def endTok (a : Nat) : Tok := ⟨7, [], 0, a⟩
def lexR : Nat → List UInt8 → Nat → List Tok ⊕ Nat
  | 0, _, a => .inr a
  | _ + 1, [], a => .inl [endTok a]
  | f + 1, c :: r, a =>
    match stepU c r with
    | .skip n => lexR f ((c :: r).drop n) (a + n)
    | .tok k n t x =>
      match lexR f ((c :: r).drop n) (a + n) with
      | .inl l => .inl (⟨k, t, x, a⟩ :: l)
      | .inr e => .inr e
    | .bad => .inr a
def lexA (s : List UInt8) : List Tok × Nat × Nat :=
  if 4096 < s.length then ([], 3, 0) else
  match lexR (s.length + 1) s 0 with
  | .inl l => (l, 0, 0)
  | .inr a => ([], 140, a)
end Go.Proofs.YtklcmgodhpediaaGreatDoor.L
/- Facts of the lexer's parts. -/
namespace Go.Proofs.YtklcmgodhpediaaGreatDoor.L
open Go Go.Vm Go.Proofs Go.Proofs.YtklcmgodhpediaaGreatDoor

/-! Pieces. -/
/-! Digits. -/
theorem decD_small {u : Nat} (h : u < 10) : Lib.decDigits u = [UInt8.ofNat (48 + u)] := by rw [Lib.decDigits, dif_pos h]
theorem decD_big {u : Nat} (h : ¬ u < 10) : Lib.decDigits u = Lib.decDigits (u / 10) ++ [UInt8.ofNat (48 + u % 10)] := by rw [Lib.decDigits, dif_neg h]
theorem itoa_nat (u : Nat) : Lib.itoa (u : Int) = Lib.decDigits u := by unfold Lib.itoa; rw [if_neg (by omega)]; simp
theorem ofNat_toNat' {n : Nat} (h : n < 256) : (UInt8.ofNat n).toNat = n := by simp [Nat.mod_eq_of_lt h]
theorem digV_hexD : ∀ n : Fin 16, digV (hexD n.val) = some n.val := by decide +kernel
theorem digV_hex {n : Nat} (h : n < 16) : digV (hexD n) = some n := digV_hexD ⟨n, h⟩
theorem hexD_hexP' : ∀ n : Fin 16, hexP (hexD n.val).toNat := by decide +kernel
theorem hexD_hexP {n : Nat} (h : n < 16) : hexP (hexD n).toNat := hexD_hexP' ⟨n, h⟩
theorem puL_app {base mx : Nat} {c : UInt8} {d : Nat} (hd : digV c = some d) (hb : d < base) : ∀ {l : List UInt8} {n v : Nat}, puL base mx n l = (v, 0) → v * base + d ≤ mx → puL base mx n (l ++ [c]) = (v * base + d, 0)
  | [], n, v, h, hm => by
    simp only [puL, Prod.mk.injEq, and_true] at h
    subst h
    simp only [List.nil_append, puL, hd]
    rw [if_neg (by omega), if_neg (by omega)]
  | b :: l, n, v, h, hm => by
    simp only [List.cons_append, puL] at h ⊢
    split at h
    · simp at h
    · rename_i e he
      split at h
      · simp at h
      · rename_i h1
        rw [if_neg h1]
        split at h
        · simp at h
        · rename_i h2
          rw [if_neg h2]
          exact puL_app hd hb h hm
def hexDigits (u : Nat) : List UInt8 := if h : u < 16 then [hexD u] else hexDigits (u / 16) ++ [hexD (u % 16)]
termination_by u
decreasing_by omega
theorem hexU_small {u : Nat} (h : u < 16) : hexDigits u = [hexD u] := by rw [hexDigits, dif_pos h]
theorem hexU_big {u : Nat} (h : ¬ u < 16) : hexDigits u = hexDigits (u / 16) ++ [hexD (u % 16)] := by rw [hexDigits, dif_neg h]
theorem hexU_ne (u : Nat) : hexDigits u ≠ [] := by
  by_cases h : u < 16
  · rw [hexU_small h]; simp
  · rw [hexU_big h]; simp
theorem puL_hex {mx : Nat} (u : Nat) : u ≤ mx → puL 16 mx 0 (hexDigits u) = (u, 0) := by
  induction u using Nat.strongRecOn with
  | _ u ih =>
    intro hm
    by_cases h : u < 16
    · rw [hexU_small h]
      simp only [puL, digV_hex h]
      rw [if_neg (by omega), if_neg (by omega)]
      congr 1; omega
    · rw [hexU_big h, puL_app (digV_hex (by omega)) (by omega) (ih (u / 16) (by omega) (by omega)) (by omega)]
      congr 1; omega
theorem puR_hex {mx u : Nat} (h : u ≤ mx) : puR 16 mx (hexDigits u) = some u := by
  unfold puR puE
  rw [if_neg (hexU_ne u), puL_hex u h]; rfl
theorem hexU_hexP (u : Nat) : ∀ c ∈ hexDigits u, hexP c.toNat := by
  induction u using Nat.strongRecOn with
  | _ u ih =>
    by_cases h : u < 16
    · rw [hexU_small h]
      intro c hc
      simp only [List.mem_singleton] at hc
      subst hc; exact hexD_hexP h
    · rw [hexU_big h]
      intro c hc
      rcases List.mem_append.1 hc with hc | hc
      · exact ih _ (by omega) c hc
      · simp only [List.mem_singleton] at hc
        subst hc; exact hexD_hexP (by omega)
theorem hexU_length (u : Nat) : ∀ k, u < 16 ^ (k + 1) → (hexDigits u).length ≤ k + 1 := by
  induction u using Nat.strongRecOn with
  | _ u ih =>
    intro k hk
    by_cases h : u < 16
    · rw [hexU_small h]; simp
    · rw [hexU_big h]
      cases k with
      | zero => omega
      | succ k =>
        have := ih (u / 16) (by omega) k (by rw [Nat.pow_succ] at hk; omega)
        simp; omega

/-! Addresses. -/
theorem macText_eq (x : Nat) : ∃ a b c d e f g h i j k l, a < 16 ∧ b < 16 ∧ l < 16 ∧ macText x = [hexD a, hexD b, 58, hexD c, hexD d, 58, hexD e, hexD f, 58, hexD g, hexD h, 58, hexD i, hexD j, 58, hexD k, hexD l] := by
  refine ⟨_, _, _, _, _, _, _, _, _, _, _, _, ?_, ?_, ?_, rfl⟩ <;> omega
theorem macR_some {s : List UInt8} {m : Nat} (h : macR s = some m) : s = macText m := by
  unfold macR at h
  rw [Option.bind_eq_some_iff] at h
  obtain ⟨x, _, h⟩ := h
  split at h
  · rename_i e; cases h; exact e.symm
  · cases h

theorem addrR_some {s : List UInt8} {m : Nat} (h : addrR s = some m) : s = addrText m := by
  unfold addrR at h
  rw [Option.bind_eq_some_iff] at h
  obtain ⟨x, _, h⟩ := h
  split at h
  · rename_i e; cases h; exact e.symm
  · cases h
theorem addrText_eq (x : Nat) : addrText x = Lib.decDigits (x / 256 ^ 3 % 256) ++ (46 :: (Lib.decDigits (x / 256 ^ 2 % 256) ++ (46 :: (Lib.decDigits (x / 256 % 256) ++ (46 :: Lib.decDigits (x % 256)))))) := by
  unfold addrText lowBytes lowBytes lowBytes lowBytes lowBytes
  simp only [List.map_cons, List.map_nil, itoa_nat, Lib.join_cons, Lib.joinTail, List.flatten_cons, List.flatten_nil, List.append_nil, Nat.pow_one, Nat.pow_zero, Nat.div_one, List.cons_append, List.nil_append, List.append_assoc]
theorem addrText_dot (x : Nat) : (46 : UInt8) ∈ addrText x := by rw [addrText_eq]; simp
end Go.Proofs.YtklcmgodhpediaaGreatDoor.L
