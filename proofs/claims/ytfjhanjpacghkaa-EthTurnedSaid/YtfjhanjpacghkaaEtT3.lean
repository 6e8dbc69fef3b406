/- What the seat's arguments are; the library. -/
import Derived.Test.YtfjhanjpacghkaaEtT1
import Derived.Test.YtfjhanjpacghkaaN21
import Derived.Test.YtfjhanjpacghkaaShelf
import Derived.Test.YtfjhanjpacghkaaRows
import Derived.WalkKit
import Derived.ProofKit
import Derived.OpenShut
import Derived.JoinedCond
import Derived.ChangeSame
import Derived.JoinedOf
set_option linter.unusedSimpArgs false
set_option linter.unusedVariables false
set_option maxRecDepth 100000
namespace Go.Proofs.Ytfjhanjpacghkaa
open Go Go.Vm Go.Proofs Go.ChangeShapes Go.RowKit

theorem tys_ok : tysOk Try.prog [22, 5] = true := by decide +kernel

theorem laid_ok : laidOutB Try.prog = true := by kernel_rfl

/-- A row of bytes. -/
theorem bytes_of {n r : Nat} {xs : List V} (h : ∀ x ∈ xs, ∃ cs, cs.length = Try.prog.cellsOf 5 ∧ Wf Try.prog r n 5 cs ∧ x = packE Try.prog 5 cs) : ∃ bs : List UInt8, xs = ofBytes bs := by
  induction xs with
  | nil => exact ⟨[], rfl⟩
  | cons x xs ih =>
    obtain ⟨bs, rfl⟩ := ih fun y hy => h y (List.mem_cons_of_mem _ hy)
    obtain ⟨cs, _, hw, rfl⟩ := h x List.mem_cons_self
    cases n with
    | zero => exact hw.elim
    | succ n =>
      simp only [Wf, Try.underlying5] at hw
      obtain ⟨i, rfl, hi⟩ := hw
      have hb := bounds_u8 hi
      refine ⟨UInt8.ofNat i.toNat :: bs, ?_⟩
      have : packE Try.prog 5 [.int .u8 i] = .int .u8 i := by simp only [packE, Try.underlying5]; rfl
      rw [this]
      simp only [ofBytes, List.map_cons, UInt8.toNat_ofNat']
      congr 2
      omega

/-- An argument of bytes. -/
theorem arg_bytes {n r : Nat} {cs : List V} (h : Wf Try.prog r n 22 cs) : ∃ u bs, packE Try.prog 22 cs = .sl u (ofBytes bs) ∧ bs.length ≤ maxLen ∧ bs.length ≤ r ∧ unown (.sl u (ofBytes bs)) = .sl u (ofBytes bs) := by
  cases n with
  | zero => exact h.elim
  | succ n =>
    simp only [Wf, Try.underlying22] at h
    simp only [packE, Try.underlying22]
    rcases h with rfl | ⟨xs, rfl, hl, hr, hx⟩
    · exact ⟨.full, [], rfl, Nat.zero_le _, Nat.zero_le _, rfl⟩
    · obtain ⟨bs, rfl⟩ := bytes_of hx
      have h1 : Try.prog.bytesOf 5 = 1 := by kernel_rfl
      rw [h1, Nat.mul_one] at hr
      rw [ofBytes_length] at hl hr
      exact ⟨.none, bs, rfl, hl, hr, rfl⟩

theorem texts_str : ∀ {xs : List V} {l : List (List UInt8)}, textsOf xs = some l → xs = l.map .str
  | [], l, h => by simp only [textsOf, Option.some.injEq] at h; subst h; rfl
  | x :: xs, l, h => by
    cases x <;> simp only [textsOf, Option.map_eq_some_iff, reduceCtorEq] at h
    obtain ⟨r, hr, rfl⟩ := h
    rw [texts_str hr]; rfl

theorem libs_ok : XOk cx := by
  intro k args st v st' h
  have h : libs k args st = some (v, st') := h
  unfold libs at h
  split at h
  · rename_i st tip xs sep
    rw [Option.bind_eq_some_iff] at h
    obtain ⟨l, hl, h⟩ := h
    split at h
    · rename_i hb
      cases h
      rw [texts_str hl] at hb ⊢
      rw [List.length_map] at hb
      exact join_ok cx_ok (k := 25) ⟨_, Try.func25, by kernel_rfl⟩ Try.strings_Join_none (fun bk o c xs sep w a1 a2 a3 a4 a5 => Try.strings_Join bk o c xs sep w a1 a2 a3 a4 a5) hb.1 hb.2
    · cases h
  · cases h

theorem own : ownKnob Try.prog.godebug = none := by kernel_rfl

theorem u64_of {n r : Nat} {cs : List V} (h : Wf Try.prog r n 23 cs) : ∃ x, cs = [.int .u64 x] ∧ 0 ≤ x ∧ x < 18446744073709551616 := by
  cases n with
  | zero => exact h.elim
  | succ n =>
    simp only [Wf, Try.underlying23] at h
    obtain ⟨i, rfl, hi⟩ := h
    have : 0 ≤ i ∧ i ≤ 18446744073709551615 := by simpa [Lit.wf, IntKind.min, IntKind.max, IntKind.signed, IntKind.bits] using hi
    exact ⟨i, rfl, by omega, by omega⟩

theorem u32_of {n r : Nat} {cs : List V} (h : Wf Try.prog r n 34 cs) : ∃ x, cs = [.int .u32 x] ∧ 0 ≤ x ∧ x < 4294967296 := by
  cases n with
  | zero => exact h.elim
  | succ n =>
    simp only [Wf, Try.underlying34] at h
    obtain ⟨i, rfl, hi⟩ := h
    have : 0 ≤ i ∧ i ≤ 4294967295 := by simpa [Lit.wf, IntKind.min, IntKind.max, IntKind.signed, IntKind.bits] using hi
    exact ⟨i, rfl, by omega, by omega⟩

theorem i64_of {n r : Nat} {cs : List V} (h : Wf Try.prog r n 3 cs) : ∃ x, cs = [.int .i64 x] ∧ -9223372036854775808 ≤ x ∧ x ≤ 9223372036854775807 := by
  cases n with
  | zero => exact h.elim
  | succ n =>
    simp only [Wf, Try.underlying3] at h
    obtain ⟨i, rfl, hi⟩ := h
    have : -9223372036854775808 ≤ i ∧ i ≤ 9223372036854775807 := by simpa [Lit.wf, IntKind.min, IntKind.max, IntKind.signed, IntKind.bits] using hi
    exact ⟨i, rfl, by omega, by omega⟩

theorem bool_of {n r : Nat} {cs : List V} (h : Wf Try.prog r n 4 cs) : ∃ b, cs = [.bool b] := by
  cases n with
  | zero => exact h.elim
  | succ n =>
    simp only [Wf, Try.underlying4] at h
    exact h
end Go.Proofs.Ytfjhanjpacghkaa
