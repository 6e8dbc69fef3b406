/- Numbers and their bytes, in parts. -/
import Derived.Test.YtfjhanjpacghkaaEtV2
import Derived.Test.YtfjhanjpacghkaaEtV11
import Derived.Test.YtfjhanjpacghkaaEtT1
set_option linter.unusedSimpArgs false
set_option linter.unusedVariables false
set_option maxRecDepth 100000
namespace Go.Proofs.Ytfjhanjpacghkaa
open Go Go.Vm Go.Proofs

theorem valL_bytesL (x : Nat) : ∀ n, valL (bytesL (x : Int) n) = x % 256 ^ n
  | 0 => by simp [bytesL, valL, Nat.mod_one]
  | n + 1 => by
    simp only [bytesL, valL, bytesL_length, valL_bytesL x n]
    have hb : (byteAt (x : Int) n).toNat = x / 256 ^ n % 256 := by
      unfold byteAt
      have e : (2 : Int) ^ (8 * n) = ((256 ^ n : Nat) : Int) := by rw [Int.natCast_pow, Int.pow_mul]; rfl
      rw [e]
      have : ((x : Int) / ((256 ^ n : Nat) : Int) % 256) = ((x / 256 ^ n % 256 : Nat) : Int) := by simp
      rw [this, Int.toNat_natCast, UInt8.toNat_ofNat']
      exact Nat.mod_eq_of_lt (by have := Nat.mod_lt (x / 256 ^ n) (by omega : 256 > 0); omega)
    rw [hb, Nat.pow_succ, Nat.mul_comm (x / 256 ^ n % 256), Nat.add_comm]
    exact (Nat.mod_mul ..).symm

theorem num_bytes {x : Int} {n : Nat} (h0 : 0 ≤ x) (h1 : x < 256 ^ n) (hn : n ≤ 8) : numL 0 (bytesL x n) = x := by
  obtain ⟨y, rfl⟩ : ∃ y : Nat, x = y := ⟨x.toNat, by omega⟩
  rw [numL_zero _ (by rw [bytesL_length]; exact hn), valL_bytesL]
  have : y < 256 ^ n := by exact_mod_cast h1
  rw [Nat.mod_eq_of_lt this]

/-- The number of the bytes from a to b. -/
def nB (bs : List UInt8) (a b : Nat) : Int := numL 0 ((bs.take b).drop a)
theorem nB_part {bs p q r : List UInt8} {a b : Nat} (e : bs = p ++ (q ++ r)) (ha : a = p.length) (hb : b = p.length + q.length) : nB bs a b = numL 0 q := by
  subst e ha hb
  unfold nB
  rw [← List.append_assoc, List.take_left' (by simp), List.drop_left' rfl]
theorem nB_bytes {bs : List UInt8} {a b k : Nat} (hk : b = a + k) (hk8 : k ≤ 8) (h : b ≤ bs.length) : bytesL (nB bs a b) k = (bs.take b).drop a := by
  subst hk
  have := (nL_val (bs := bs) (a := a) (b := a + k) (by omega) h (by omega)).2.1
  rwa [show a + k - a = k by omega] at this
theorem pieces2 {bs : List UInt8} (a b : Nat) (h : a ≤ b) : bs.take a ++ (bs.take b).drop a = bs.take b := by
  have : bs.take a = (bs.take b).take a := by rw [List.take_take, Nat.min_eq_left h]
  rw [this, List.take_append_drop]
end Go.Proofs.Ytfjhanjpacghkaa
