/- Numbers and their bytes: plain laws. -/
import Derived.Test.YtfjhanjpacghkaaEtV5
set_option linter.unusedSimpArgs false
set_option linter.unusedVariables false
namespace Go.Proofs.Ytfjhanjpacghkaa
open Go Go.Vm Go.Proofs

/-- The value of bytes, the highest first. -/
def valL : List UInt8 → Nat
  | [] => 0
  | b :: l => b.toNat * 256 ^ l.length + valL l

theorem valL_lt : ∀ l : List UInt8, valL l < 256 ^ l.length
  | [] => by simp [valL]
  | b :: l => by
    have h := valL_lt l
    have hb := b.toNat_lt
    simp only [valL, List.length_cons, Nat.pow_succ]
    have : b.toNat * 256 ^ l.length + 256 ^ l.length ≤ 256 ^ l.length * 256 := by
      rw [← Nat.succ_mul, Nat.mul_comm]
      exact Nat.mul_le_mul (Nat.le_refl _) (by omega)
    omega

theorem wrap_u64 {x : Int} (h0 : 0 ≤ x) (h1 : x < 18446744073709551616) : IntKind.u64.wrap x = x := by
  simp [IntKind.wrap, IntKind.signed, IntKind.bits]
  omega

theorem numL_val : ∀ (l : List UInt8) (x : Nat), (x + 1) * 256 ^ l.length ≤ 18446744073709551616 → numL (x : Int) l = ((x * 256 ^ l.length + valL l : Nat) : Int)
  | [], x, _ => by simp [numL, valL]
  | b :: l, x, h => by
    have hb := b.toNat_lt
    have hp : 0 < 256 ^ l.length := Nat.pos_of_ne_zero (by simp)
    simp only [List.length_cons, Nat.pow_succ] at h
    have h2 : (x + 1) * 256 ≤ 18446744073709551616 := by
      have : (x + 1) * 256 * 1 ≤ (x + 1) * 256 * 256 ^ l.length := Nat.mul_le_mul (Nat.le_refl _) hp
      have e : (x + 1) * (256 ^ l.length * 256) = (x + 1) * 256 * 256 ^ l.length := by rw [Nat.mul_comm (256 ^ l.length), Nat.mul_assoc]
      omega
    show numL (IntKind.u64.wrap (IntKind.u64.wrap ((x : Int) * 256) + (b.toNat : Int))) l = _
    rw [wrap_u64 (x := (x : Int) * 256) (by omega) (by omega), wrap_u64 (by omega) (by omega)]
    have e : (x : Int) * 256 + (b.toNat : Int) = ((x * 256 + b.toNat : Nat) : Int) := by omega
    rw [e, numL_val l (x * 256 + b.toNat)]
    · congr 1
      simp only [valL, List.length_cons, Nat.pow_succ]
      rw [Nat.add_mul, Nat.mul_assoc, Nat.mul_comm 256]
      omega
    · have : (x * 256 + b.toNat + 1) * 256 ^ l.length ≤ ((x + 1) * 256) * 256 ^ l.length := Nat.mul_le_mul (by omega) (Nat.le_refl _)
      have e : (x + 1) * (256 ^ l.length * 256) = (x + 1) * 256 * 256 ^ l.length := by rw [Nat.mul_comm (256 ^ l.length), Nat.mul_assoc]
      omega

theorem numL_zero (l : List UInt8) (h : l.length ≤ 8) : numL 0 l = (valL l : Int) := by
  have := numL_val l 0 (by
    rw [Nat.zero_add, Nat.one_mul]
    exact Nat.le_trans (Nat.pow_le_pow_right (by omega) h) (by decide))
  simpa using this

theorem byteAt_top (b : UInt8) (v n : Nat) (h : v < 256 ^ n) : byteAt ((b.toNat * 256 ^ n + v : Nat) : Int) n = b := by
  have hb := b.toNat_lt
  have e : (2 : Int) ^ (8 * n) = ((256 ^ n : Nat) : Int) := by
    rw [Int.natCast_pow, Int.pow_mul]
    rfl
  unfold byteAt
  rw [e, ← Int.natCast_ediv]
  have : (b.toNat * 256 ^ n + v) / 256 ^ n = b.toNat := by
    rw [Nat.mul_comm, Nat.mul_add_div (by omega), Nat.div_eq_of_lt h, Nat.add_zero]
  rw [this]
  have e2 : ((b.toNat : Int) % 256).toNat = b.toNat := by omega
  rw [e2]
  simp

theorem byteAt_low (a v n i : Nat) (h : i < n) : byteAt ((a * 256 ^ n + v : Nat) : Int) i = byteAt (v : Int) i := by
  have e : (2 : Int) ^ (8 * i) = ((256 ^ i : Nat) : Int) := by
    rw [Int.natCast_pow, Int.pow_mul]
    rfl
  unfold byteAt
  rw [e, ← Int.natCast_ediv, ← Int.natCast_ediv]
  obtain ⟨k, rfl⟩ : ∃ k, n = i + 1 + k := ⟨n - (i + 1), by omega⟩
  have : (a * 256 ^ (i + 1 + k) + v) / 256 ^ i = a * 256 ^ k * 256 + v / 256 ^ i := by
    have e3 : a * 256 ^ (i + 1 + k) = 256 ^ i * (a * 256 ^ k * 256) := by
      rw [Nat.pow_add, Nat.pow_succ]
      simp only [Nat.mul_comm, Nat.mul_left_comm, Nat.mul_assoc]
    have hp : 0 < 256 ^ i := Nat.pos_of_ne_zero (by simp)
    rw [e3, Nat.mul_add_div hp]
  rw [this]
  congr 2
  omega

theorem bytesL_low (a v n : Nat) : ∀ m, m ≤ n → bytesL ((a * 256 ^ n + v : Nat) : Int) m = bytesL (v : Int) m
  | 0, _ => rfl
  | m + 1, h => by
    simp only [bytesL]
    rw [byteAt_low a v n m (by omega), bytesL_low a v n m (by omega)]

theorem bytesL_val : ∀ l : List UInt8, bytesL (valL l : Int) l.length = l
  | [] => rfl
  | b :: l => by
    simp only [List.length_cons, bytesL, valL]
    rw [byteAt_top b _ _ (valL_lt l), bytesL_low _ _ _ _ (Nat.le_refl _), bytesL_val l]

theorem bytesL_num (l : List UInt8) (n : Nat) (hl : l.length = n) (h : n ≤ 8) : bytesL (numL 0 l) n = l := by
  subst hl
  rw [numL_zero l h, bytesL_val]

theorem nL_val {bs : List UInt8} {a b : Nat} (h : a ≤ b) (hb : b ≤ bs.length) (hk : b - a ≤ 8) : numL 0 ((bs.take b).drop a) = (valL ((bs.take b).drop a) : Int) ∧ bytesL (numL 0 ((bs.take b).drop a)) (b - a) = (bs.take b).drop a ∧ valL ((bs.take b).drop a) < 256 ^ (b - a) := by
  have hl : ((bs.take b).drop a).length = b - a := by simp [Nat.min_eq_left hb]
  refine ⟨numL_zero _ (by omega), bytesL_num _ _ hl hk, ?_⟩
  have := valL_lt ((bs.take b).drop a)
  rwa [hl] at this
end Go.Proofs.Ytfjhanjpacghkaa
