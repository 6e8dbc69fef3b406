/- Heads and their bytes: plain laws. -/
import Derived.Test.YtfjhanjpacghkaaEtV7
import Derived.Test.YtfjhanjpacghkaaEtV11
set_option linter.unusedSimpArgs false
set_option linter.unusedVariables false
namespace Go.Proofs.Ytfjhanjpacghkaa
open Go Go.Vm Go.Proofs

theorem tyL_eq {bs : List UInt8} {a : Nat} (h : a + 2 ≤ bs.length) : tyL bs a = nL bs a (a + 2) ∧ 0 ≤ tyL bs a ∧ tyL bs a ≤ 65535 := by
  obtain ⟨h1, h2, h3⟩ := nL_val (bs := bs) (a := a) (b := a + 2) (by omega) h (by omega)
  have e : (256 : Nat) ^ (a + 2 - a) = 65536 := by rw [show a + 2 - a = 2 by omega]
  rw [e] at h3
  have hw : tyL bs a = nL bs a (a + 2) := by
    unfold tyL nL
    rw [h1]
    simp [IntKind.wrap, IntKind.signed, IntKind.bits]
    omega
  rw [hw]
  unfold nL
  rw [h1]
  exact ⟨rfl, by omega, by omega⟩

theorem mac_le {bs : List UInt8} {a : Nat} (h : a + 6 ≤ bs.length) : 0 ≤ nL bs a (a + 6) ∧ nL bs a (a + 6) ≤ 281474976710655 := by
  obtain ⟨h1, h2, h3⟩ := nL_val (bs := bs) (a := a) (b := a + 6) (by omega) h (by omega)
  have e : (256 : Nat) ^ (a + 6 - a) = 281474976710656 := by rw [show a + 6 - a = 6 by omega]
  rw [e] at h3
  unfold nL
  rw [h1]
  omega

theorem bytes_nL {bs : List UInt8} {a b k : Nat} (hk : b = a + k) (hk8 : k ≤ 8) (h : b ≤ bs.length) : bytesL (nL bs a b) k = (bs.take b).drop a := by
  subst hk
  have := (nL_val (bs := bs) (a := a) (b := a + k) (by omega) h (by omega)).2.1
  rwa [show a + k - a = k by omega] at this

theorem pieces {bs : List UInt8} (a b : Nat) (h : a ≤ b) : bs.take a ++ (bs.take b).drop a = bs.take b := by
  have : bs.take a = (bs.take b).take a := by rw [List.take_take, Nat.min_eq_left h]
  rw [this, List.take_append_drop]

theorem enc_plain {bs : List UInt8} (h : 14 ≤ bs.length) (h3 : tyL bs 12 ≠ 33024) : okHead (nL bs 0 6) (nL bs 6 12) false 0 (tyL bs 12) ∧ encL (nL bs 0 6) (nL bs 6 12) false 0 (tyL bs 12) = bs.take 14 := by
  have m1 := mac_le (bs := bs) (a := 0) (by omega)
  have m2 := mac_le (bs := bs) (a := 6) (by omega)
  obtain ⟨t1, t2, t3⟩ := tyL_eq (bs := bs) (a := 12) (by omega)
  refine ⟨⟨m1.2, m2.2, ⟨by omega, by omega⟩, ⟨t2, t3⟩, h3, .inr rfl⟩, ?_⟩
  unfold encL
  rw [t1, bytes_nL (k := 6) rfl (by omega) (by omega), bytes_nL (k := 6) rfl (by omega) (by omega), bytes_nL (k := 2) rfl (by omega) (by omega)]
  simp only [Bool.false_eq_true, if_false, List.append_nil, List.drop_zero]
  rw [pieces 6 12 (by omega), pieces 12 14 (by omega)]

theorem bytes_vlan : bytesL 33024 2 = [129, 0] := by decide

theorem vlan_bytes {bs : List UInt8} (h : 14 ≤ bs.length) (h3 : tyL bs 12 = 33024) : (bs.take 14).drop 12 = bytesL 33024 2 := by
  obtain ⟨t1, _, _⟩ := tyL_eq (bs := bs) (a := 12) (by omega)
  rw [← h3, t1, bytes_nL (k := 2) rfl (by omega) (by omega)]

theorem enc_tagged {bs : List UInt8} (h : 18 ≤ bs.length) (h3 : tyL bs 12 = 33024) (h5 : tyL bs 16 ≠ 33024) : okHead (nL bs 0 6) (nL bs 6 12) true (tyL bs 14) (tyL bs 16) ∧ encL (nL bs 0 6) (nL bs 6 12) true (tyL bs 14) (tyL bs 16) = bs.take 18 := by
  have m1 := mac_le (bs := bs) (a := 0) (by omega)
  have m2 := mac_le (bs := bs) (a := 6) (by omega)
  obtain ⟨t1, t2, t3⟩ := tyL_eq (bs := bs) (a := 14) (by omega)
  obtain ⟨u1, u2, u3⟩ := tyL_eq (bs := bs) (a := 16) (by omega)
  refine ⟨⟨m1.2, m2.2, ⟨t2, t3⟩, ⟨u2, u3⟩, h5, .inl rfl⟩, ?_⟩
  unfold encL
  rw [t1, u1, ← vlan_bytes (by omega) h3, bytes_nL (k := 6) rfl (by omega) (by omega), bytes_nL (k := 6) rfl (by omega) (by omega), bytes_nL (k := 2) rfl (by omega) (by omega), bytes_nL (k := 2) rfl (by omega) (by omega)]
  simp only [if_true, List.drop_zero]
  rw [pieces 6 12 (by omega), ← List.append_assoc, pieces 12 14 (by omega), pieces 14 16 (by omega), pieces 16 18 (by omega)]
end Go.Proofs.Ytfjhanjpacghkaa
