/- The law of the bytes of any head, of the program. -/
import Derived.Test.YtfjhanjpacghkaaEthW3
import Derived.Test.YtfjhanjpacghkaaEthV14
set_option linter.unusedSimpArgs false
set_option linter.unusedVariables false
set_option maxRecDepth 100000
namespace Go.Proofs.Ytfjhanjpacghkaa
open Go Go.Vm Go.Proofs Go.ChangeShapes Go.RowKit

theorem u64_of {n r : Nat} {cs : List V} (h : Wf Try.prog r n 23 cs) : ∃ x, cs = [.int .u64 x] ∧ 0 ≤ x ∧ x < 18446744073709551616 := by
  cases n with
  | zero => exact h.elim
  | succ n =>
    simp only [Wf, Try.underlying23] at h
    obtain ⟨i, rfl, hi⟩ := h
    have : 0 ≤ i ∧ i ≤ 18446744073709551615 := by simpa [Lit.wf, IntKind.min, IntKind.max, IntKind.signed, IntKind.bits] using hi
    exact ⟨i, rfl, by omega, by omega⟩
theorem u32_of {n r : Nat} {cs : List V} (h : Wf Try.prog r n 34 cs) : ∃ x, cs = [.int .u32 x] ∧ 0 ≤ x ∧ x < 4294967296 := by
  cases n with
  | zero => exact h.elim
  | succ n =>
    simp only [Wf, Try.underlying34] at h
    obtain ⟨i, rfl, hi⟩ := h
    have : 0 ≤ i ∧ i ≤ 4294967295 := by simpa [Lit.wf, IntKind.min, IntKind.max, IntKind.signed, IntKind.bits] using hi
    exact ⟨i, rfl, by omega, by omega⟩
theorem i64_of {n r : Nat} {cs : List V} (h : Wf Try.prog r n 3 cs) : ∃ x, cs = [.int .i64 x] ∧ -9223372036854775808 ≤ x ∧ x ≤ 9223372036854775807 := by
  cases n with
  | zero => exact h.elim
  | succ n =>
    simp only [Wf, Try.underlying3] at h
    obtain ⟨i, rfl, hi⟩ := h
    have : -9223372036854775808 ≤ i ∧ i ≤ 9223372036854775807 := by simpa [Lit.wf, IntKind.min, IntKind.max, IntKind.signed, IntKind.bits] using hi
    exact ⟨i, rfl, by omega, by omega⟩
theorem bool_of {n r : Nat} {cs : List V} (h : Wf Try.prog r n 4 cs) : ∃ b, cs = [.bool b] := by
  cases n with
  | zero => exact h.elim
  | succ n =>
    simp only [Wf, Try.underlying4] at h
    exact h

theorem arg_eth {n r : Nat} {cs : List V} (h : Wf Try.prog r n 25 cs) : ∃ d s tg tag ty, packE Try.prog 25 cs = ethV d s tg tag ty ∧ 0 ≤ d ∧ d < 18446744073709551616 ∧ 0 ≤ s ∧ s < 18446744073709551616 := by
  cases n with
  | zero => exact h.elim
  | succ n =>
    simp only [Wf, Try.underlying25, List.map_cons, List.map_nil, Cat] at h
    obtain ⟨_, _, rfl, _, h1, _, _, rfl, _, h2, _, _, rfl, _, h3, _, _, rfl, _, h4, _, _, rfl, _, h5, rfl⟩ := h
    obtain ⟨d, rfl, d1, d2⟩ := u64_of h1
    obtain ⟨s, rfl, s1, s2⟩ := u64_of h2
    obtain ⟨tg, rfl⟩ := bool_of h3
    obtain ⟨tag, rfl, _, _⟩ := i64_of h4
    obtain ⟨ty, rfl, _, _⟩ := i64_of h5
    exact ⟨d, s, tg, tag, ty, by simp only [packE, Try.underlying25]; rfl, d1, d2, s1, s2⟩

theorem tys_ok2 : tysOk Try.prog [25, 22, 5, 23, 4, 3] = true := by decide +kernel

theorem encodes_law : ∀ avs, WfA cx.P reachBytes Try.f4.params.toList avs → Vm.Fn cx 4 avs ⟨[], 0⟩ (fun v _ => v = .bool true) := by
  intro avs h
  obtain ⟨n, cs, r, rfl, h1, n2, cs2, r2, rfl, h2, h3⟩ := h
  obtain rfl : r2 = [] := h3
  obtain ⟨d, s, tg, tag, ty, e1, d1, d2, s1, s2⟩ := arg_eth h1
  obtain ⟨u, bs, e2, hl, hr, hu⟩ := arg_bytes h2
  have e1 : packE cx.P 25 cs = ethV d s tg tag ty := e1
  have e2 : packE cx.P 22 cs2 = .sl u (ofBytes bs) := e2
  show Vm.Fn cx 4 [packE cx.P 25 cs, packE cx.P 22 cs2] _ _
  rw [e1, e2]
  by_cases ok : okHead d s tg tag ty
  · cases bs with
    | nil => exact (encodes_none d s tag ty tg d1 s1 d2 s2 u hu ok _).use rfl
    | cons b bs => exact (encodes_ok d s tag ty tg d1 s1 d2 s2 u (b :: bs) hl hu ok (by simp) _).use rfl
  · exact (encodes_bad d s tag ty tg d1 s1 d2 s2 u bs hl hu ok _).use rfl

theorem encodes_lifted (os : Os) (started : os.Started) (H : Type) (enc : TypeId × Value → H) :
    ReturnsInHanded {} Try.checked os 4 .any (Rows.ethEncodesSpec.pre6 enc Try.prog Try.f4 Rows.ethEncodesRow.domain false) (Rows.ethEncodesSpec.post enc Try.prog Try.f4 false true false false) := by
  refine returnsInHanded_of_change_sized (C := Try.checked) own started (by kernel_rfl) Try.func4
    (ChangeSpec.witness6 (enc := enc) (C := Try.checked) false ⟨#[], #[.agg #[.int .u64 0, .int .u64 0, .bool false, .int .i64 0, .int .i64 0], .slice none 0 0], []⟩ 8 (by kernel_rfl) (by kernel_rfl) (by kernel_rfl) (by kernel_rfl)) ?_
  intro W base args ds gs before hval hW _ hw _
  exact law_contract (C := cx) cx_ok glob_pure libs_ok (fun g i => trivial) (T := [25, 22, 5, 23, 4, 3]) tys_ok2 (by decide +kernel) laid_ok (by kernel_rfl) rfl (tb := 4) (by kernel_rfl) Try.underlying4
    (fun ds hd => match ds, hd with | [d1, d2], _ => rfl) (fun avs h _ => encodes_law avs h) hval hW hw (Nat.le_refl _)

theorem encodes_holds : Rows.EthEncodesSaid :=
  OpenClaim.holds_of_wide 4 Try.f4 rfl rfl rfl rfl rfl rfl rfl ⟨rfl, rfl, rfl, rfl, rfl⟩ rfl rfl rfl rfl rfl (by kernel_rfl) Try.func4 (by kernel_rfl)
    (of_decide_eq_true (by kernel_rfl)) (by unfold Func.isWrapper; first | (rw [if_pos (by decide +kernel)]; kernel_rfl) | (rw [if_neg (by decide +kernel)]; exact ⟨rfl, rfl⟩))
    (fun os started H enc _ => encodes_lifted os started H enc)
#print axioms encodes_holds
end Go.Proofs.Ytfjhanjpacghkaa
