/- The law LexNumbers, of the program. -/
import Derived.Test.YtmdiieignlidhaaDoorLexT1
import Derived.Test.YtmdiieignlidhaaDoorLexV17
set_option linter.unusedSimpArgs false
set_option linter.unusedVariables false
set_option maxRecDepth 100000
namespace Go.Proofs.YtmdiieignlidhaaDoor
open Go Go.Vm Go.Proofs Go.ChangeShapes Go.RowKit

theorem arg_u64 {n r : Nat} {cs : List V} (h : Wf Tryd.prog r n 28 cs) : ∃ x : Nat, packE Tryd.prog 28 cs = .int .u64 x ∧ x < 18446744073709551616 := by
  cases n with
  | zero => exact h.elim
  | succ n =>
    simp only [Wf, Tryd.underlying28] at h
    obtain ⟨i, rfl, hi⟩ := h
    have hb : 0 ≤ i ∧ i ≤ 18446744073709551615 := by simpa [Lit.wf, IntKind.min, IntKind.max, IntKind.signed, IntKind.bits] using hi
    refine ⟨i.toNat, ?_, by omega⟩
    have : packE Tryd.prog 28 [.int .u64 i] = .int .u64 i := by simp only [packE, Tryd.underlying28]; rfl
    rw [this]
    congr 1; omega
theorem arg_u32 {n r : Nat} {cs : List V} (h : Wf Tryd.prog r n 33 cs) : ∃ x : Nat, packE Tryd.prog 33 cs = .int .u32 x ∧ x < 4294967296 := by
  cases n with
  | zero => exact h.elim
  | succ n =>
    simp only [Wf, Tryd.underlying33] at h
    obtain ⟨i, rfl, hi⟩ := h
    have hb : 0 ≤ i ∧ i ≤ 4294967295 := by simpa [Lit.wf, IntKind.min, IntKind.max, IntKind.signed, IntKind.bits] using hi
    refine ⟨i.toNat, ?_, by omega⟩
    have : packE Tryd.prog 33 [.int .u32 i] = .int .u32 i := by simp only [packE, Tryd.underlying33]; rfl
    rw [this]
    congr 1; omega
theorem numbers_law : ∀ avs, WfA cx.P reachBytes Tryd.f5.params.toList avs → Vm.Fn cx 5 avs ⟨[], 0⟩ (fun v _ => v = .bool true) := by
  intro avs h
  obtain ⟨n, cs, r, rfl, h1, n2, cs2, r2, rfl, h2, n3, cs3, r3, rfl, h3, h4⟩ := h
  obtain rfl : r3 = [] := h4
  obtain ⟨x, e1, b1⟩ := arg_u64 h1
  obtain ⟨y, e2, b2⟩ := arg_u32 h2
  obtain ⟨z, e3, b3⟩ := arg_u64 h3
  have e1 : packE cx.P 28 cs = .int .u64 x := e1
  have e2 : packE cx.P 33 cs2 = .int .u32 y := e2
  have e3 : packE cx.P 28 cs3 = .int .u64 z := e3
  show Vm.Fn cx 5 [packE cx.P 28 cs, packE cx.P 33 cs2, packE cx.P 28 cs3] _ _
  rw [e1, e2, e3]
  exact (numbersS x y z b1 b2 b3 _).use rfl

theorem numbers_lifted (os : Os) (started : os.Started) (H : Type) (enc : TypeId × Value → H) (F : Stop.Interp) :
    ReturnsInHanded {} Tryd.checked os 5 .any ((OpenSpec.ofChange Rows.lexNumbersSpec).preRow enc Tryd.prog Tryd.f5 Rows.lexNumbersRow.domain false Rows.lexNumbersRow.laid) (((OpenSpec.ofChange Rows.lexNumbersSpec).at F).post enc Tryd.prog Tryd.f5 false true false false) := by
  have hx : ∃ places, DataW.whole enc Tryd.prog ((startW os).forCall (fun _ _ => 0) ⟨#[], #[.int .u64 0, .int .u32 0, .int .u64 0], []⟩).memory Tryd.f5.params.toList Rows.lexNumbersSpec.vars false (#[.int .u64 0, .int .u32 0, .int .u64 0] : Array Value).toList 8 = some ([.lit (.int .u64 0), .lit (.int .u32 0), .lit (.int .u64 0)], [], places) := ⟨[], by kernel_rfl⟩
  obtain ⟨places, hx⟩ := hx
  have hok : Input.okWideB Tryd.prog ((startW os).forCall (fun _ _ => 0) ⟨#[], #[.int .u64 0, .int .u32 0, .int .u64 0], []⟩) 5 ⟨#[], #[.int .u64 0, .int .u32 0, .int .u64 0], []⟩ = true := by kernel_rfl
  refine returnsInHanded_of_row (C := Tryd.checked) (s := OpenSpec.ofChange Rows.lexNumbersSpec) own started (by kernel_rfl) Tryd.func5
    ⟨startW os, fun _ _ => 0, ⟨#[], #[.int .u64 0, .int .u32 0, .int .u64 0], []⟩, World.laidAll_os _ _ _, start_shaped os _ (by kernel_rfl) (by kernel_rfl), (Input.okWide_of_okWideB (base := 0) hok).1, (Input.okWide_of_okWideB hok).2,
      OpenSpec.preRow_of_cond 8 hx (by kernel_rfl) (fun k hk => by cases hk) (by kernel_rfl) (start_laid os _), by simp only [Assume.holds]; exact ⟨by simp, by simp, fun _ => Modest.zero, by simp, by simp⟩⟩ ?_
  intro W base args ds gs before hval hW _ _ hw hL hsh _
  obtain ⟨hI, hlo⟩ := inv_of hL hsh
  exact law_contract (C := cx) cx_ok glob_pure libs_ok (T := [9, 3, 28, 33]) tys_ok (by decide +kernel) laid_ok (by kernel_rfl) rfl (tb := 4) (by kernel_rfl) Tryd.underlying4
    (fun ds hd => match ds, hd with | [d1, d2, d3], _ => rfl) (fun avs h _ => numbers_law avs h) hval hW hw (Nat.le_refl _) ⟨fun i => trivial, hI, hlo⟩

theorem numbers_said : Rows.LexNumbersSaid :=
  OpenClaim.holds_of_cond 5 Tryd.f5 rfl rfl rfl rfl rfl rfl rfl ⟨rfl, rfl, rfl, rfl, rfl⟩ rfl rfl rfl rfl rfl (by kernel_rfl) Tryd.func5 (by kernel_rfl)
    (of_decide_eq_true (by kernel_rfl)) (by unfold Func.isWrapper; first | (rw [if_pos (by decide +kernel)]; kernel_rfl) | (rw [if_neg (by decide +kernel)]; exact ⟨rfl, rfl⟩))
    (fun os started H enc _ F => by rw [OpenClaim.pre_eq_preRow]; exact numbers_lifted os started H enc F)

theorem numbers_plain (f : FuncId) (fn : Func) (hf : Tryd.pinned.checked.prog.funcNamed "skein/skeinlaw14.LexNumbers" = some f) (hfn : Tryd.pinned.checked.prog.funcs[f]? = some fn) :
    true = Tryd.pinned.checked.prog.looks [] ∧ ∀ (j : Nat) t, fn.params[j]? = some t → Tryd.pinned.checked.prog.wantsStandIn t = false := by
  obtain rfl : f = 5 := Option.some.inj ((show Tryd.prog.funcNamed "skein/skeinlaw14.LexNumbers" = some 5 by kernel_rfl).symm.trans hf) |>.symm
  obtain rfl : fn = Tryd.f5 := (Option.some.inj (Tryd.func5.symm.trans hfn)).symm
  refine ⟨by kernel_rfl, fun j t ht => ?_⟩
  rw [Tryd.params5] at ht
  have hm : t ∈ [9, 3, 28, 33] := by
    have := Array.mem_of_getElem? ht
    simp at this
    first
      | (rcases this with rfl | rfl | rfl <;> simp)
      | (rcases this with rfl | rfl <;> simp)
      | simp [this]
  have hall : ([9, 3, 28, 33].all fun u => !Tryd.prog.wantsStandIn u) = true := by kernel_rfl
  exact (show Tryd.prog.wantsStandIn t = false by simpa using List.all_eq_true.1 hall t hm)

/-- The law's card. -/
theorem numbers_holds : Rows.LexNumbersCardSaid :=
  Claim7.holds_tied_plain_at .later [] _ _ _ _ numbers_said (fun _ h => by cases h) (by kernel_rfl) (fun _ h => by cases h) lexNumbers_row_tie rfl ⟨rfl, rfl⟩ (by kernel_rfl) rfl numbers_plain (by kernel_rfl)
#print axioms numbers_holds
end Go.Proofs.YtmdiieignlidhaaDoor
