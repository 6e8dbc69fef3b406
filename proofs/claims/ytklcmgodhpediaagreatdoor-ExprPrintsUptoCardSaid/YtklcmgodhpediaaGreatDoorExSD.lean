/- Arguments: expressions and States. -/
import Derived.Test.YtklcmgodhpediaaGreatDoorExSC
import Derived.Test.YtklcmgodhpediaaGreatDoorN18
import Derived.Test.YtklcmgodhpediaaGreatDoorExG1
set_option linter.unusedSimpArgs false
set_option linter.unusedVariables false
set_option maxRecDepth 100000
namespace Go.Proofs.YtklcmgodhpediaaGreatDoor
open Go Go.Vm Go.Proofs

def stC (x : Nat → Int) (tg arp ip ns : Bool) (kk : Int) (u : Nat → List UInt8) : List V := [.int .u64 (x 0), .int .u64 (x 1), .bool tg, .int .i64 (x 3), .int .i64 (x 4), .bool arp, .int .i64 (x 6), .int .u64 (x 7), .int .u32 (x 8), .int .u64 (x 9), .int .u32 (x 10), .bool ip, .int .i64 (x 12), .int .i64 (x 13), .int .i64 (x 14), .int .i64 (x 15), .int .i64 (x 16), .int .u32 (x 17), .int .u32 (x 18), .str (u 0), .int .i64 kk, .int .i64 (x 21), .int .i64 (x 22), .int .u32 (x 23), .int .i64 (x 24), .int .i64 (x 25), .bool ns, .int .u32 (x 27), .int .u32 (x 28), .int .i64 (x 29), .int .i64 (x 30), .int .i64 (x 31), .str (u 1), .str (u 2), .str (u 3), .str (u 4), .int .i64 (x 36), .int .i64 (x 37), .int .i64 (x 38), .int .i64 (x 39), .int .u32 (x 40), .int .u32 (x 41), .int .u32 (x 42), .int .u32 (x 43), .int .i64 (x 44), .int .u32 (x 45), .int .u32 (x 46), .int .i64 (x 47), .int .i64 (x 48)]
theorem vlan_eq (t : Int) : and64 (IntKind.u64.wrap (BitVec.ofInt 64 65536 ||| BitVec.ofInt 64 (w64 (IntKind.i64.wrap (BitVec.ofInt 64 t &&& BitVec.ofInt 64 65535).toNat))).toNat) (allN 4) = and64 (IntKind.u64.wrap (65536 + (w64 t).tmod 65536)) (allN 4) := by
  have e1 : (BitVec.ofInt 64 t &&& BitVec.ofInt 64 65535).toNat = (t % 18446744073709551616).toNat % 65536 := by
    rw [BitVec.toNat_and, BitVec.toNat_ofInt]
    have : (BitVec.ofInt 64 65535).toNat = 2 ^ 16 - 1 := by decide
    rw [this, Nat.and_two_pow_sub_one_eq_mod]
    rfl
  have e2 : w64 t = t % 18446744073709551616 := wU64 t
  have hb : 0 ≤ t % 18446744073709551616 ∧ t % 18446744073709551616 < 18446744073709551616 := ⟨Int.emod_nonneg _ (by omega), Int.emod_lt_of_pos _ (by omega)⟩
  generalize hn : (t % 18446744073709551616).toNat % 65536 = n at e1
  have hn2 : n < 65536 := by omega
  have e3 : IntKind.i64.wrap (n : Int) = n := wI64 (by omega) (by omega)
  have e4 : w64 (n : Int) = n := by show IntKind.u64.wrap _ = _; rw [wU64]; omega
  have e5 : (BitVec.ofInt 64 65536 ||| BitVec.ofInt 64 (n : Int)).toNat = 65536 + n := by
    rw [BitVec.toNat_or]
    have h1 : (BitVec.ofInt 64 65536).toNat = 2 ^ 16 * 1 := by decide
    have h2 : (BitVec.ofInt 64 (n : Int)).toNat = n := by
      rw [BitVec.toNat_ofInt]; omega
    rw [h1, h2, ← Nat.two_pow_add_eq_or_of_lt (show n < 2 ^ 16 by omega)]
  have e6 : (w64 t).tmod 65536 = n := by
    rw [e2, Int.tmod_eq_emod_of_nonneg hb.1]; omega
  rw [e1, e3, e4, e5, e6]
  rfl
theorem raw_eq {f : Int} {x : Nat → Int} {tg : Bool} : and64 (rawE f x tg) (allN f) = and64 (rawL f x tg) (allN f) := by
  unfold rawE
  by_cases h : f = 4
  · subst h
    rw [if_pos rfl]
    cases tg
    · rfl
    · exact vlan_eq (x 3)
  · rw [if_neg h]
theorem st_ok (x : Nat → Int) (tg arp ip ns : Bool) (kk : Int) (u : Nat → List UInt8) : StOk (stC x tg arp ip ns kk u) (fun f => hasL f arp ip kk) (fun f => and64 (rawL f x tg) (allN f)) where
  own := rfl
  pure := rfl
  load := by kernel_rfl
  get := fun f h1 h2 st => by
    have := getES f h1 h2 x tg arp ip ns kk u st
    unfold getT at this
    rw [raw_eq] at this
    exact this
  getR := fun f h1 h2 st => getRS f h1 h2 x tg arp ip ns kk u st
  has := fun f h1 h2 st => hasES f h1 h2 x tg arp ip ns kk u st

section
variable {r : Nat}
theorem wfI {n : Nat} {t : TypeId} {k : IntKind} {vs : List V} (hu : Tryz.prog.underlying t = some (.int k)) (h : Wf Tryz.prog r n t vs) : ∃ i, vs = [.int k i] ∧ (Lit.int k i).wf = true := by
  cases n with
  | zero => exact h.elim
  | succ n => simp only [Wf, hu] at h; exact h
theorem wfB {n : Nat} {vs : List V} (h : Wf Tryz.prog r n 4 vs) : ∃ b, vs = [.bool b] := by
  cases n with
  | zero => exact h.elim
  | succ n => simp only [Wf, Tryz.underlying4] at h; exact h
theorem wfS {n : Nat} {vs : List V} (h : Wf Tryz.prog r n 9 vs) : ∃ s : List UInt8, vs = [.str s] := by
  cases n with
  | zero => exact h.elim
  | succ n =>
    simp only [Wf, Tryz.underlying9] at h
    obtain ⟨s, rfl, _⟩ := h
    exact ⟨s, rfl⟩
theorem wf27 {n : Nat} {vs : List V} (h : Wf Tryz.prog r n 27 vs) : ∃ (a_0 : Int) (a_1 : Int) (a_2 : Bool) (a_3 : Int) (a_4 : Int), vs = [.int .u64 a_0, .int .u64 a_1, .bool a_2, .int .i64 a_3, .int .i64 a_4] := by
  cases n with
  | zero => exact h.elim
  | succ n =>
    simp only [Wf, Tryz.underlying27] at h
    have h : Cat Tryz.prog (Wf Tryz.prog r n) [22, 22, 4, 3, 3] vs := h
    obtain ⟨p0, q0, rfl, _, h0, p1, q1, rfl, _, h1, p2, q2, rfl, _, h2, p3, q3, rfl, _, h3, p4, q4, rfl, _, h4, hz⟩ := h
    obtain ⟨a_0, rfl, _⟩ := wfI Tryz.underlying22 h0
    obtain ⟨a_1, rfl, _⟩ := wfI Tryz.underlying22 h1
    obtain ⟨a_2, rfl⟩ := wfB h2
    obtain ⟨a_3, rfl, _⟩ := wfI Tryz.underlying3 h3
    obtain ⟨a_4, rfl, _⟩ := wfI Tryz.underlying3 h4
    obtain rfl : q4 = [] := hz
    exact ⟨a_0, a_1, a_2, a_3, a_4, rfl⟩
theorem wf30 {n : Nat} {vs : List V} (h : Wf Tryz.prog r n 30 vs) : ∃ (a_0 : Int) (a_1 : Int) (a_2 : Int) (a_3 : Int) (a_4 : Int), vs = [.int .i64 a_0, .int .u64 a_1, .int .u32 a_2, .int .u64 a_3, .int .u32 a_4] := by
  cases n with
  | zero => exact h.elim
  | succ n =>
    simp only [Wf, Tryz.underlying30] at h
    have h : Cat Tryz.prog (Wf Tryz.prog r n) [3, 22, 28, 22, 28] vs := h
    obtain ⟨p0, q0, rfl, _, h0, p1, q1, rfl, _, h1, p2, q2, rfl, _, h2, p3, q3, rfl, _, h3, p4, q4, rfl, _, h4, hz⟩ := h
    obtain ⟨a_0, rfl, _⟩ := wfI Tryz.underlying3 h0
    obtain ⟨a_1, rfl, _⟩ := wfI Tryz.underlying22 h1
    obtain ⟨a_2, rfl, _⟩ := wfI Tryz.underlying28 h2
    obtain ⟨a_3, rfl, _⟩ := wfI Tryz.underlying22 h3
    obtain ⟨a_4, rfl, _⟩ := wfI Tryz.underlying28 h4
    obtain rfl : q4 = [] := hz
    exact ⟨a_0, a_1, a_2, a_3, a_4, rfl⟩
theorem wf32 {n : Nat} {vs : List V} (h : Wf Tryz.prog r n 32 vs) : ∃ (a_0 : Int) (a_1 : Int) (a_2 : Int) (a_3 : Int) (a_4 : Int) (a_5 : Int) (a_6 : Int) (a_7 : List UInt8), vs = [.int .i64 a_0, .int .i64 a_1, .int .i64 a_2, .int .i64 a_3, .int .i64 a_4, .int .u32 a_5, .int .u32 a_6, .str a_7] := by
  cases n with
  | zero => exact h.elim
  | succ n =>
    simp only [Wf, Tryz.underlying32] at h
    have h : Cat Tryz.prog (Wf Tryz.prog r n) [3, 3, 3, 3, 3, 28, 28, 9] vs := h
    obtain ⟨p0, q0, rfl, _, h0, p1, q1, rfl, _, h1, p2, q2, rfl, _, h2, p3, q3, rfl, _, h3, p4, q4, rfl, _, h4, p5, q5, rfl, _, h5, p6, q6, rfl, _, h6, p7, q7, rfl, _, h7, hz⟩ := h
    obtain ⟨a_0, rfl, _⟩ := wfI Tryz.underlying3 h0
    obtain ⟨a_1, rfl, _⟩ := wfI Tryz.underlying3 h1
    obtain ⟨a_2, rfl, _⟩ := wfI Tryz.underlying3 h2
    obtain ⟨a_3, rfl, _⟩ := wfI Tryz.underlying3 h3
    obtain ⟨a_4, rfl, _⟩ := wfI Tryz.underlying3 h4
    obtain ⟨a_5, rfl, _⟩ := wfI Tryz.underlying28 h5
    obtain ⟨a_6, rfl, _⟩ := wfI Tryz.underlying28 h6
    obtain ⟨a_7, rfl⟩ := wfS h7
    obtain rfl : q7 = [] := hz
    exact ⟨a_0, a_1, a_2, a_3, a_4, a_5, a_6, a_7, rfl⟩
theorem wf34 {n : Nat} {vs : List V} (h : Wf Tryz.prog r n 34 vs) : ∃ (a_0 : Int) (a_1 : Int) (a_2 : Int) (a_3 : Int) (a_4 : Int) (a_5 : Int) (a_6 : Bool) (a_7 : Int) (a_8 : Int) (a_9 : Int) (a_10 : Int) (a_11 : Int) (a_12 : List UInt8) (a_13 : List UInt8), vs = [.int .i64 a_0, .int .i64 a_1, .int .i64 a_2, .int .u32 a_3, .int .i64 a_4, .int .i64 a_5, .bool a_6, .int .u32 a_7, .int .u32 a_8, .int .i64 a_9, .int .i64 a_10, .int .i64 a_11, .str a_12, .str a_13] := by
  cases n with
  | zero => exact h.elim
  | succ n =>
    simp only [Wf, Tryz.underlying34] at h
    have h : Cat Tryz.prog (Wf Tryz.prog r n) [3, 3, 3, 28, 3, 3, 4, 28, 28, 3, 3, 3, 9, 9] vs := h
    obtain ⟨p0, q0, rfl, _, h0, p1, q1, rfl, _, h1, p2, q2, rfl, _, h2, p3, q3, rfl, _, h3, p4, q4, rfl, _, h4, p5, q5, rfl, _, h5, p6, q6, rfl, _, h6, p7, q7, rfl, _, h7, p8, q8, rfl, _, h8, p9, q9, rfl, _, h9, p10, q10, rfl, _, h10, p11, q11, rfl, _, h11, p12, q12, rfl, _, h12, p13, q13, rfl, _, h13, hz⟩ := h
    obtain ⟨a_0, rfl, _⟩ := wfI Tryz.underlying3 h0
    obtain ⟨a_1, rfl, _⟩ := wfI Tryz.underlying3 h1
    obtain ⟨a_2, rfl, _⟩ := wfI Tryz.underlying3 h2
    obtain ⟨a_3, rfl, _⟩ := wfI Tryz.underlying28 h3
    obtain ⟨a_4, rfl, _⟩ := wfI Tryz.underlying3 h4
    obtain ⟨a_5, rfl, _⟩ := wfI Tryz.underlying3 h5
    obtain ⟨a_6, rfl⟩ := wfB h6
    obtain ⟨a_7, rfl, _⟩ := wfI Tryz.underlying28 h7
    obtain ⟨a_8, rfl, _⟩ := wfI Tryz.underlying28 h8
    obtain ⟨a_9, rfl, _⟩ := wfI Tryz.underlying3 h9
    obtain ⟨a_10, rfl, _⟩ := wfI Tryz.underlying3 h10
    obtain ⟨a_11, rfl, _⟩ := wfI Tryz.underlying3 h11
    obtain ⟨a_12, rfl⟩ := wfS h12
    obtain ⟨a_13, rfl⟩ := wfS h13
    obtain rfl : q13 = [] := hz
    exact ⟨a_0, a_1, a_2, a_3, a_4, a_5, a_6, a_7, a_8, a_9, a_10, a_11, a_12, a_13, rfl⟩
theorem wf39 {n : Nat} {vs : List V} (h : Wf Tryz.prog r n 39 vs) : ∃ (a_0 : Int) (a_1 : Int) (a_2 : Int) (a_3 : Int) (a_4 : Int), vs = [.int .i64 a_0, .int .u32 a_1, .int .u32 a_2, .int .i64 a_3, .int .i64 a_4] := by
  cases n with
  | zero => exact h.elim
  | succ n =>
    simp only [Wf, Tryz.underlying39] at h
    have h : Cat Tryz.prog (Wf Tryz.prog r n) [3, 28, 28, 3, 3] vs := h
    obtain ⟨p0, q0, rfl, _, h0, p1, q1, rfl, _, h1, p2, q2, rfl, _, h2, p3, q3, rfl, _, h3, p4, q4, rfl, _, h4, hz⟩ := h
    obtain ⟨a_0, rfl, _⟩ := wfI Tryz.underlying3 h0
    obtain ⟨a_1, rfl, _⟩ := wfI Tryz.underlying28 h1
    obtain ⟨a_2, rfl, _⟩ := wfI Tryz.underlying28 h2
    obtain ⟨a_3, rfl, _⟩ := wfI Tryz.underlying3 h3
    obtain ⟨a_4, rfl, _⟩ := wfI Tryz.underlying3 h4
    obtain rfl : q4 = [] := hz
    exact ⟨a_0, a_1, a_2, a_3, a_4, rfl⟩
theorem wf37 {n : Nat} {vs : List V} (h : Wf Tryz.prog r n 37 vs) : ∃ (a_0 : Int) (a_1 : Int) (a_2 : Int) (a_3 : Int), vs = [.int .u32 a_0, .int .u32 a_1, .int .u32 a_2, .int .u32 a_3] := by
  cases n with
  | zero => exact h.elim
  | succ n =>
    simp only [Wf, Tryz.underlying37] at h
    have h : Cat Tryz.prog (Wf Tryz.prog r n) [28, 28, 28, 28] vs := h
    obtain ⟨p0, q0, rfl, _, h0, p1, q1, rfl, _, h1, p2, q2, rfl, _, h2, p3, q3, rfl, _, h3, hz⟩ := h
    obtain ⟨a_0, rfl, _⟩ := wfI Tryz.underlying28 h0
    obtain ⟨a_1, rfl, _⟩ := wfI Tryz.underlying28 h1
    obtain ⟨a_2, rfl, _⟩ := wfI Tryz.underlying28 h2
    obtain ⟨a_3, rfl, _⟩ := wfI Tryz.underlying28 h3
    obtain rfl : q3 = [] := hz
    exact ⟨a_0, a_1, a_2, a_3, rfl⟩
theorem wf36 {n : Nat} {vs : List V} (h : Wf Tryz.prog r n 36 vs) : ∃ (a_0_0 : Int) (a_0_1 : Int) (a_0_2 : Bool) (a_0_3 : Int) (a_0_4 : Int) (a_1 : Bool) (a_2_0 : Int) (a_2_1 : Int) (a_2_2 : Int) (a_2_3 : Int) (a_2_4 : Int) (a_3 : Bool) (a_4_0 : Int) (a_4_1 : Int) (a_4_2 : Int) (a_4_3 : Int) (a_4_4 : Int) (a_4_5 : Int) (a_4_6 : Int) (a_4_7 : List UInt8) (a_5_0 : Int) (a_5_1 : Int) (a_5_2 : Int) (a_5_3 : Int) (a_5_4 : Int) (a_5_5 : Int) (a_5_6 : Bool) (a_5_7 : Int) (a_5_8 : Int) (a_5_9 : Int) (a_5_10 : Int) (a_5_11 : Int) (a_5_12 : List UInt8) (a_5_13 : List UInt8) (a_6 : List UInt8) (a_7 : List UInt8), vs = [.int .u64 a_0_0, .int .u64 a_0_1, .bool a_0_2, .int .i64 a_0_3, .int .i64 a_0_4, .bool a_1, .int .i64 a_2_0, .int .u64 a_2_1, .int .u32 a_2_2, .int .u64 a_2_3, .int .u32 a_2_4, .bool a_3, .int .i64 a_4_0, .int .i64 a_4_1, .int .i64 a_4_2, .int .i64 a_4_3, .int .i64 a_4_4, .int .u32 a_4_5, .int .u32 a_4_6, .str a_4_7, .int .i64 a_5_0, .int .i64 a_5_1, .int .i64 a_5_2, .int .u32 a_5_3, .int .i64 a_5_4, .int .i64 a_5_5, .bool a_5_6, .int .u32 a_5_7, .int .u32 a_5_8, .int .i64 a_5_9, .int .i64 a_5_10, .int .i64 a_5_11, .str a_5_12, .str a_5_13, .str a_6, .str a_7] := by
  cases n with
  | zero => exact h.elim
  | succ n =>
    simp only [Wf, Tryz.underlying36] at h
    have h : Cat Tryz.prog (Wf Tryz.prog r n) [27, 4, 30, 4, 32, 34, 9, 9] vs := h
    obtain ⟨p0, q0, rfl, _, h0, p1, q1, rfl, _, h1, p2, q2, rfl, _, h2, p3, q3, rfl, _, h3, p4, q4, rfl, _, h4, p5, q5, rfl, _, h5, p6, q6, rfl, _, h6, p7, q7, rfl, _, h7, hz⟩ := h
    obtain ⟨a_0_0, a_0_1, a_0_2, a_0_3, a_0_4, rfl⟩ := wf27 h0
    obtain ⟨a_1, rfl⟩ := wfB h1
    obtain ⟨a_2_0, a_2_1, a_2_2, a_2_3, a_2_4, rfl⟩ := wf30 h2
    obtain ⟨a_3, rfl⟩ := wfB h3
    obtain ⟨a_4_0, a_4_1, a_4_2, a_4_3, a_4_4, a_4_5, a_4_6, a_4_7, rfl⟩ := wf32 h4
    obtain ⟨a_5_0, a_5_1, a_5_2, a_5_3, a_5_4, a_5_5, a_5_6, a_5_7, a_5_8, a_5_9, a_5_10, a_5_11, a_5_12, a_5_13, rfl⟩ := wf34 h5
    obtain ⟨a_6, rfl⟩ := wfS h6
    obtain ⟨a_7, rfl⟩ := wfS h7
    obtain rfl : q7 = [] := hz
    exact ⟨a_0_0, a_0_1, a_0_2, a_0_3, a_0_4, a_1, a_2_0, a_2_1, a_2_2, a_2_3, a_2_4, a_3, a_4_0, a_4_1, a_4_2, a_4_3, a_4_4, a_4_5, a_4_6, a_4_7, a_5_0, a_5_1, a_5_2, a_5_3, a_5_4, a_5_5, a_5_6, a_5_7, a_5_8, a_5_9, a_5_10, a_5_11, a_5_12, a_5_13, a_6, a_7, rfl⟩
theorem wf41 {n : Nat} {vs : List V} (h : Wf Tryz.prog r n 41 vs) : ∃ (a_0_0_0 : Int) (a_0_0_1 : Int) (a_0_0_2 : Bool) (a_0_0_3 : Int) (a_0_0_4 : Int) (a_0_1 : Bool) (a_0_2_0 : Int) (a_0_2_1 : Int) (a_0_2_2 : Int) (a_0_2_3 : Int) (a_0_2_4 : Int) (a_0_3 : Bool) (a_0_4_0 : Int) (a_0_4_1 : Int) (a_0_4_2 : Int) (a_0_4_3 : Int) (a_0_4_4 : Int) (a_0_4_5 : Int) (a_0_4_6 : Int) (a_0_4_7 : List UInt8) (a_0_5_0 : Int) (a_0_5_1 : Int) (a_0_5_2 : Int) (a_0_5_3 : Int) (a_0_5_4 : Int) (a_0_5_5 : Int) (a_0_5_6 : Bool) (a_0_5_7 : Int) (a_0_5_8 : Int) (a_0_5_9 : Int) (a_0_5_10 : Int) (a_0_5_11 : Int) (a_0_5_12 : List UInt8) (a_0_5_13 : List UInt8) (a_0_6 : List UInt8) (a_0_7 : List UInt8) (a_1 : Int) (a_2 : Int) (a_3 : Int) (a_4 : Int) (a_5_0 : Int) (a_5_1 : Int) (a_5_2 : Int) (a_5_3 : Int) (a_6_0 : Int) (a_6_1 : Int) (a_6_2 : Int) (a_6_3 : Int) (a_6_4 : Int), vs = [.int .u64 a_0_0_0, .int .u64 a_0_0_1, .bool a_0_0_2, .int .i64 a_0_0_3, .int .i64 a_0_0_4, .bool a_0_1, .int .i64 a_0_2_0, .int .u64 a_0_2_1, .int .u32 a_0_2_2, .int .u64 a_0_2_3, .int .u32 a_0_2_4, .bool a_0_3, .int .i64 a_0_4_0, .int .i64 a_0_4_1, .int .i64 a_0_4_2, .int .i64 a_0_4_3, .int .i64 a_0_4_4, .int .u32 a_0_4_5, .int .u32 a_0_4_6, .str a_0_4_7, .int .i64 a_0_5_0, .int .i64 a_0_5_1, .int .i64 a_0_5_2, .int .u32 a_0_5_3, .int .i64 a_0_5_4, .int .i64 a_0_5_5, .bool a_0_5_6, .int .u32 a_0_5_7, .int .u32 a_0_5_8, .int .i64 a_0_5_9, .int .i64 a_0_5_10, .int .i64 a_0_5_11, .str a_0_5_12, .str a_0_5_13, .str a_0_6, .str a_0_7, .int .i64 a_1, .int .i64 a_2, .int .i64 a_3, .int .i64 a_4, .int .u32 a_5_0, .int .u32 a_5_1, .int .u32 a_5_2, .int .u32 a_5_3, .int .i64 a_6_0, .int .u32 a_6_1, .int .u32 a_6_2, .int .i64 a_6_3, .int .i64 a_6_4] := by
  cases n with
  | zero => exact h.elim
  | succ n =>
    simp only [Wf, Tryz.underlying41] at h
    have h : Cat Tryz.prog (Wf Tryz.prog r n) [36, 3, 3, 3, 3, 37, 39] vs := h
    obtain ⟨p0, q0, rfl, _, h0, p1, q1, rfl, _, h1, p2, q2, rfl, _, h2, p3, q3, rfl, _, h3, p4, q4, rfl, _, h4, p5, q5, rfl, _, h5, p6, q6, rfl, _, h6, hz⟩ := h
    obtain ⟨a_0_0_0, a_0_0_1, a_0_0_2, a_0_0_3, a_0_0_4, a_0_1, a_0_2_0, a_0_2_1, a_0_2_2, a_0_2_3, a_0_2_4, a_0_3, a_0_4_0, a_0_4_1, a_0_4_2, a_0_4_3, a_0_4_4, a_0_4_5, a_0_4_6, a_0_4_7, a_0_5_0, a_0_5_1, a_0_5_2, a_0_5_3, a_0_5_4, a_0_5_5, a_0_5_6, a_0_5_7, a_0_5_8, a_0_5_9, a_0_5_10, a_0_5_11, a_0_5_12, a_0_5_13, a_0_6, a_0_7, rfl⟩ := wf36 h0
    obtain ⟨a_1, rfl, _⟩ := wfI Tryz.underlying3 h1
    obtain ⟨a_2, rfl, _⟩ := wfI Tryz.underlying3 h2
    obtain ⟨a_3, rfl, _⟩ := wfI Tryz.underlying3 h3
    obtain ⟨a_4, rfl, _⟩ := wfI Tryz.underlying3 h4
    obtain ⟨a_5_0, a_5_1, a_5_2, a_5_3, rfl⟩ := wf37 h5
    obtain ⟨a_6_0, a_6_1, a_6_2, a_6_3, a_6_4, rfl⟩ := wf39 h6
    obtain rfl : q6 = [] := hz
    exact ⟨a_0_0_0, a_0_0_1, a_0_0_2, a_0_0_3, a_0_0_4, a_0_1, a_0_2_0, a_0_2_1, a_0_2_2, a_0_2_3, a_0_2_4, a_0_3, a_0_4_0, a_0_4_1, a_0_4_2, a_0_4_3, a_0_4_4, a_0_4_5, a_0_4_6, a_0_4_7, a_0_5_0, a_0_5_1, a_0_5_2, a_0_5_3, a_0_5_4, a_0_5_5, a_0_5_6, a_0_5_7, a_0_5_8, a_0_5_9, a_0_5_10, a_0_5_11, a_0_5_12, a_0_5_13, a_0_6, a_0_7, a_1, a_2, a_3, a_4, a_5_0, a_5_1, a_5_2, a_5_3, a_6_0, a_6_1, a_6_2, a_6_3, a_6_4, rfl⟩
theorem arg_state {n : Nat} {cs : List V} (h : Wf Tryz.prog r n 41 cs) : ∃ (x : Nat → Int) (tg arp ip ns : Bool) (kk : Int) (u : Nat → List UInt8), packE Tryz.prog 41 cs = .agg (stC x tg arp ip ns kk u) := by
  obtain ⟨a_0_0_0, a_0_0_1, a_0_0_2, a_0_0_3, a_0_0_4, a_0_1, a_0_2_0, a_0_2_1, a_0_2_2, a_0_2_3, a_0_2_4, a_0_3, a_0_4_0, a_0_4_1, a_0_4_2, a_0_4_3, a_0_4_4, a_0_4_5, a_0_4_6, a_0_4_7, a_0_5_0, a_0_5_1, a_0_5_2, a_0_5_3, a_0_5_4, a_0_5_5, a_0_5_6, a_0_5_7, a_0_5_8, a_0_5_9, a_0_5_10, a_0_5_11, a_0_5_12, a_0_5_13, a_0_6, a_0_7, a_1, a_2, a_3, a_4, a_5_0, a_5_1, a_5_2, a_5_3, a_6_0, a_6_1, a_6_2, a_6_3, a_6_4, rfl⟩ := wf41 h
  refine ⟨fun i => ([a_0_0_0, a_0_0_1, 0, a_0_0_3, a_0_0_4, 0, a_0_2_0, a_0_2_1, a_0_2_2, a_0_2_3, a_0_2_4, 0, a_0_4_0, a_0_4_1, a_0_4_2, a_0_4_3, a_0_4_4, a_0_4_5, a_0_4_6, 0, 0, a_0_5_1, a_0_5_2, a_0_5_3, a_0_5_4, a_0_5_5, 0, a_0_5_7, a_0_5_8, a_0_5_9, a_0_5_10, a_0_5_11, 0, 0, 0, 0, a_1, a_2, a_3, a_4, a_5_0, a_5_1, a_5_2, a_5_3, a_6_0, a_6_1, a_6_2, a_6_3, a_6_4] : List Int).getD i 0, a_0_0_2, a_0_1, a_0_3, a_0_5_6, a_0_5_0, fun i => ([a_0_4_7, a_0_5_12, a_0_5_13, a_0_6, a_0_7] : List (List UInt8)).getD i [], ?_⟩
  simp only [packE, Tryz.underlying41, isAggT, if_true]
  rfl
theorem list_E : ∀ {xs : List V}, (∀ x ∈ xs, ∃ e : E, x = e.c ∧ e.Ok) → ∃ ps : List E, xs = E.cs ps ∧ ∀ p ∈ ps, p.Ok
  | [], _ => ⟨[], rfl, fun _ h => by cases h⟩
  | x :: xs, h => by
    obtain ⟨e, rfl, he⟩ := h x (List.mem_cons_self)
    obtain ⟨ps, rfl, hp⟩ := list_E (xs := xs) fun y hy => h y (List.mem_cons_of_mem _ hy)
    refine ⟨e :: ps, rfl, fun p hp2 => ?_⟩
    cases hp2 with
    | head => exact he
    | tail _ hp2 => exact hp p hp2
end
theorem arg_expr : ∀ (n : Nat) (cs : List V), Wf Tryz.prog reachBytes n 25 cs → ∃ e : E, packE Tryz.prog 25 cs = e.c ∧ e.Ok := by
  intro n
  induction n using Nat.strongRecOn with
  | _ n ih =>
    intro cs h
    cases n with
    | zero => exact h.elim
    | succ n =>
    simp only [Wf, Tryz.underlying25] at h
    have h : Cat Tryz.prog (Wf Tryz.prog reachBytes n) [3, 3, 3, 22, 22, 23] cs := h
    obtain ⟨p0, q0, rfl, _, h0, p1, q1, rfl, _, h1, p2, q2, rfl, _, h2, p3, q3, rfl, _, h3, p4, q4, rfl, _, h4, p5, q5, rfl, _, h5, hz⟩ := h
    obtain ⟨k, rfl, w0⟩ := wfI Tryz.underlying3 h0
    obtain ⟨f, rfl, w1⟩ := wfI Tryz.underlying3 h1
    obtain ⟨o, rfl, w2⟩ := wfI Tryz.underlying3 h2
    obtain ⟨v, rfl, w3⟩ := wfI Tryz.underlying22 h3
    obtain ⟨m, rfl, w4⟩ := wfI Tryz.underlying22 h4
    obtain rfl : q5 = [] := hz
    have e0 : -9223372036854775808 ≤ k ∧ k ≤ 9223372036854775807 := by simpa [Lit.wf, IntKind.min, IntKind.max, IntKind.signed, IntKind.bits] using w0
    have e1 : -9223372036854775808 ≤ f ∧ f ≤ 9223372036854775807 := by simpa [Lit.wf, IntKind.min, IntKind.max, IntKind.signed, IntKind.bits] using w1
    have e2 : -9223372036854775808 ≤ o ∧ o ≤ 9223372036854775807 := by simpa [Lit.wf, IntKind.min, IntKind.max, IntKind.signed, IntKind.bits] using w2
    have e3 : 0 ≤ v ∧ v ≤ 18446744073709551615 := by simpa [Lit.wf, IntKind.min, IntKind.max, IntKind.signed, IntKind.bits] using w3
    have e4 : 0 ≤ m ∧ m ≤ 18446744073709551615 := by simpa [Lit.wf, IntKind.min, IntKind.max, IntKind.signed, IntKind.bits] using w4
    have key : ∀ (z : Bool) (ps : List E), ps.length * 64 ≤ 2 ^ 47 → (∀ p ∈ ps, p.Ok) → ∃ e : E, packE Tryz.prog 25 ([.int .i64 k] ++ ([.int .i64 f] ++ ([.int .i64 o] ++ ([.int .u64 v] ++ ([.int .u64 m] ++ ([.sl (tipB z) (E.cs ps)] ++ [])))))) = e.c ∧ e.Ok := fun z ps hl hp =>
      ⟨.mk k f o v m z ps, by simp only [packE, Tryz.underlying25, isAggT, if_true, E.c]; rfl, .mk e0 e1 e2 (by omega) (by omega) hl hp⟩
    cases n with
    | zero => exact h5.elim
    | succ n =>
    simp only [Wf, Tryz.underlying23] at h5
    rcases h5 with rfl | ⟨xs, rfl, _, hl, hx⟩
    · exact key true [] (by simp) (fun _ h => by cases h)
    · obtain ⟨ps, rfl, hp⟩ := list_E (xs := xs) fun x hxm => by
        obtain ⟨cs, _, hw, rfl⟩ := hx x hxm
        exact ih n (by omega) cs hw
      refine key false ps ?_ hp
      rw [cs_len] at hl
      have hb : Tryz.prog.bytesOf 25 = 64 := by kernel_rfl
      rw [hb] at hl
      have : reachBytes ≤ 2 ^ 47 := by decide
      omega
end Go.Proofs.YtklcmgodhpediaaGreatDoor
