/- The law LexBlanks, of the program. -/
import Derived.Test.YtmdiieignlidhaaDoorLexT1
import Derived.Test.YtmdiieignlidhaaDoorLexV18
set_option linter.unusedSimpArgs false
set_option linter.unusedVariables false
set_option maxRecDepth 100000
namespace Go.Proofs.YtmdiieignlidhaaDoor
open Go Go.Vm Go.Proofs Go.ChangeShapes Go.RowKit

theorem arg_int {n r : Nat} {cs : List V} (h : Wf Tryd.prog r n 3 cs) : ∃ i : Int, packE Tryd.prog 3 cs = .int .i64 i ∧ -9223372036854775808 ≤ i ∧ i ≤ 9223372036854775807 := by
  cases n with
  | zero => exact h.elim
  | succ n =>
    simp only [Wf, Tryd.underlying3] at h
    obtain ⟨i, rfl, hi⟩ := h
    have hb : -9223372036854775808 ≤ i ∧ i ≤ 9223372036854775807 := by simpa [Lit.wf, IntKind.min, IntKind.max, IntKind.signed, IntKind.bits] using hi
    exact ⟨i, by simp only [packE, Tryd.underlying3]; rfl, hb⟩
theorem blanks_law : ∀ avs, WfA cx.P reachBytes Tryd.f3.params.toList avs → Vm.Fn cx 3 avs ⟨[], 0⟩ (fun v _ => v = .bool true) := by
  intro avs h
  obtain ⟨n, cs, r, rfl, h1, n2, cs2, r2, rfl, h2, n3, cs3, r3, rfl, h3, h4⟩ := h
  obtain rfl : r3 = [] := h4
  obtain ⟨x, e1, b1⟩ := arg_str h1
  obtain ⟨y, e2, b2⟩ := arg_int h2
  obtain ⟨z, e3, b3⟩ := arg_str h3
  have e1 : packE cx.P 9 cs = .str x := e1
  have e2 : packE cx.P 3 cs2 = .int .i64 y := e2
  have e3 : packE cx.P 9 cs3 = .str z := e3
  show Vm.Fn cx 3 [packE cx.P 9 cs, packE cx.P 3 cs2, packE cx.P 9 cs3] _ _
  rw [e1, e2, e3]
  exact (blanksS x (Nat.le_trans b1 (by decide)) y b2.1 b2.2 z (Nat.le_trans b3 (by decide)) _).use rfl

theorem blanks_lifted (os : Os) (started : os.Started) (H : Type) (enc : TypeId × Value → H) (F : Stop.Interp) :
    ReturnsInHanded {} Tryd.checked os 3 .any ((OpenSpec.ofChange Rows.lexBlanksSpec).preRow enc Tryd.prog Tryd.f3 Rows.lexBlanksRow.domain false Rows.lexBlanksRow.laid) (((OpenSpec.ofChange Rows.lexBlanksSpec).at F).post enc Tryd.prog Tryd.f3 false true false false) := by
  have hx : ∃ places, DataW.whole enc Tryd.prog ((startW os).forCall (fun _ _ => 0) ⟨#[], #[.string ⟨#[]⟩, .int .i64 0, .string ⟨#[]⟩], []⟩).memory Tryd.f3.params.toList Rows.lexBlanksSpec.vars false (#[.string ⟨#[]⟩, .int .i64 0, .string ⟨#[]⟩] : Array Value).toList 8 = some ([.lit (.string []), .lit (.int .i64 0), .lit (.string [])], [], places) := ⟨[], by kernel_rfl⟩
  obtain ⟨places, hx⟩ := hx
  have hok : Input.okWideB Tryd.prog ((startW os).forCall (fun _ _ => 0) ⟨#[], #[.string ⟨#[]⟩, .int .i64 0, .string ⟨#[]⟩], []⟩) 3 ⟨#[], #[.string ⟨#[]⟩, .int .i64 0, .string ⟨#[]⟩], []⟩ = true := by kernel_rfl
  refine returnsInHanded_of_row (C := Tryd.checked) (s := OpenSpec.ofChange Rows.lexBlanksSpec) own started (by kernel_rfl) Tryd.func3
    ⟨startW os, fun _ _ => 0, ⟨#[], #[.string ⟨#[]⟩, .int .i64 0, .string ⟨#[]⟩], []⟩, World.laidAll_os _ _ _, start_shaped os _ (by kernel_rfl) (by kernel_rfl), (Input.okWide_of_okWideB (base := 0) hok).1, (Input.okWide_of_okWideB hok).2,
      OpenSpec.preRow_of_cond 8 hx (by kernel_rfl) (fun k hk => by cases hk) (by kernel_rfl) (start_laid os _), by simp only [Assume.holds]; exact ⟨by simp, by simp, fun _ => Modest.zero, by simp, by simp⟩⟩ ?_
  intro W base args ds gs before hval hW _ _ hw hL hsh _
  obtain ⟨hI, hlo⟩ := inv_of hL hsh
  exact law_contract (C := cx) cx_ok glob_pure libs_ok (T := [9, 3, 28, 33]) tys_ok (by decide +kernel) laid_ok (by kernel_rfl) rfl (tb := 4) (by kernel_rfl) Tryd.underlying4
    (fun ds hd => match ds, hd with | [d1, d2, d3], _ => rfl) (fun avs h _ => blanks_law avs h) hval hW hw (Nat.le_refl _) ⟨fun i => trivial, hI, hlo⟩

theorem blanks_said : Rows.LexBlanksSaid :=
  OpenClaim.holds_of_cond 3 Tryd.f3 rfl rfl rfl rfl rfl rfl rfl ⟨rfl, rfl, rfl, rfl, rfl⟩ rfl rfl rfl rfl rfl (by kernel_rfl) Tryd.func3 (by kernel_rfl)
    (of_decide_eq_true (by kernel_rfl)) (by unfold Func.isWrapper; first | (rw [if_pos (by decide +kernel)]; kernel_rfl) | (rw [if_neg (by decide +kernel)]; exact ⟨rfl, rfl⟩))
    (fun os started H enc _ F => by rw [OpenClaim.pre_eq_preRow]; exact blanks_lifted os started H enc F)

theorem blanks_plain (f : FuncId) (fn : Func) (hf : Tryd.pinned.checked.prog.funcNamed "skein/skeinlaw14.LexBlanks" = some f) (hfn : Tryd.pinned.checked.prog.funcs[f]? = some fn) :
    true = Tryd.pinned.checked.prog.looks [] ∧ ∀ (j : Nat) t, fn.params[j]? = some t → Tryd.pinned.checked.prog.wantsStandIn t = false := by
  obtain rfl : f = 3 := Option.some.inj ((show Tryd.prog.funcNamed "skein/skeinlaw14.LexBlanks" = some 3 by kernel_rfl).symm.trans hf) |>.symm
  obtain rfl : fn = Tryd.f3 := (Option.some.inj (Tryd.func3.symm.trans hfn)).symm
  refine ⟨by kernel_rfl, fun j t ht => ?_⟩
  rw [Tryd.params3] at ht
  have hm : t ∈ [9, 3, 28, 33] := by
    have := Array.mem_of_getElem? ht
    simp at this
    first
      | (rcases this with rfl | rfl | rfl <;> simp)
      | (rcases this with rfl | rfl <;> simp)
      | simp [this]
  have hall : ([9, 3, 28, 33].all fun u => !Tryd.prog.wantsStandIn u) = true := by kernel_rfl
  exact (show Tryd.prog.wantsStandIn t = false by simpa using List.all_eq_true.1 hall t hm)

/-- The law's card. -/
theorem blanks_holds : Rows.LexBlanksCardSaid :=
  Claim7.holds_tied_plain_at .later [] _ _ _ _ blanks_said (fun _ h => by cases h) (by kernel_rfl) (fun _ h => by cases h) lexBlanks_row_tie rfl ⟨rfl, rfl⟩ (by kernel_rfl) rfl blanks_plain (by kernel_rfl)
#print axioms blanks_holds
end Go.Proofs.YtmdiieignlidhaaDoor
