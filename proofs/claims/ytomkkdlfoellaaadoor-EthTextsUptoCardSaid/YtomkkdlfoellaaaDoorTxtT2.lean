/- The law of addresses as texts, of the program: wherever what is read is of bulk at most 1048576. -/
import Derived.Test.YtomkkdlfoellaaaDoorTxtT1
import Derived.Test.YtomkkdlfoellaaaDoorTxtV12
set_option linter.unusedSimpArgs false
set_option linter.unusedVariables false
set_option maxRecDepth 100000
namespace Go.Proofs.YtomkkdlfoellaaaDoor
open Go Go.Vm Go.Proofs Go.ChangeShapes Go.RowKit

mutual
theorem bulk_eq {H : Type} : ∀ d : DataW H, Rows.uptoBulk d = dbulk d
  | .lit l => by cases l <;> simp only [Rows.uptoBulk, dbulk]
  | .nil => by simp only [Rows.uptoBulk, dbulk]
  | .ptr d => by simp only [Rows.uptoBulk, dbulk, bulk_eq d]
  | .slice a b => by simp only [Rows.uptoBulk, dbulk, bulk_all a, bulk_all b]
  | .agg a => by simp only [Rows.uptoBulk, dbulk, bulk_all a]
  | .iface _ d => by simp only [Rows.uptoBulk, dbulk, bulk_eq d]
  | .map es => by simp only [Rows.uptoBulk, dbulk, bulk_ents es]
  | .held _ => by simp only [Rows.uptoBulk, dbulk]
theorem bulk_all {H : Type} : ∀ l : List (DataW H), Rows.uptoBulkAll l = dbulkAll l
  | [] => by simp only [Rows.uptoBulkAll, dbulkAll]
  | d :: r => by simp only [Rows.uptoBulkAll, dbulkAll, bulk_eq d, bulk_all r]
theorem bulk_ents {H : Type} : ∀ l : List (Lit × DataW H), Rows.uptoBulkEntries l = dbulkEntries l
  | [] => by simp only [Rows.uptoBulkEntries, dbulkEntries]
  | x :: r => by simp only [Rows.uptoBulkEntries, dbulkEntries, bulk_ent x, bulk_ents r]
theorem bulk_ent {H : Type} : ∀ x : Lit × DataW H, Rows.uptoBulkEntry x = dbulkEntry x
  | (l, d) => by cases l <;> simp only [Rows.uptoBulkEntry, dbulkEntry, bulk_eq d]
end
theorem bulk_of {H : Type} {l : List (DataW H)} (h : Rows.uptoSmall H l = true) : dbulkAll l ≤ 1048576 := by
  have := of_decide_eq_true h
  rw [bulk_all] at this
  exact this

theorem arg_u64 {n r : Nat} {cs : List V} (h : Wf Tryd.prog r n 22 cs) : ∃ x : Nat, packE Tryd.prog 22 cs = .int .u64 x ∧ x < 18446744073709551616 := by
  cases n with
  | zero => exact h.elim
  | succ n =>
    simp only [Wf, Tryd.underlying22] at h
    obtain ⟨i, rfl, hi⟩ := h
    have hb : 0 ≤ i ∧ i ≤ 18446744073709551615 := by simpa [Lit.wf, IntKind.min, IntKind.max, IntKind.signed, IntKind.bits] using hi
    refine ⟨i.toNat, ?_, by omega⟩
    have : packE Tryd.prog 22 [.int .u64 i] = .int .u64 i := by simp only [packE, Tryd.underlying22]; rfl
    rw [this]
    congr 1; omega
theorem arg_u32 {n r : Nat} {cs : List V} (h : Wf Tryd.prog r n 23 cs) : ∃ x : Nat, packE Tryd.prog 23 cs = .int .u32 x ∧ x < 4294967296 := by
  cases n with
  | zero => exact h.elim
  | succ n =>
    simp only [Wf, Tryd.underlying23] at h
    obtain ⟨i, rfl, hi⟩ := h
    have hb : 0 ≤ i ∧ i ≤ 4294967295 := by simpa [Lit.wf, IntKind.min, IntKind.max, IntKind.signed, IntKind.bits] using hi
    refine ⟨i.toNat, ?_, by omega⟩
    have : packE Tryd.prog 23 [.int .u32 i] = .int .u32 i := by simp only [packE, Tryd.underlying23]; rfl
    rw [this]
    congr 1; omega

theorem texts_law : ∀ avs, WfA cx.P reachBytes Tryd.f3.params.toList avs → vbulks avs ≤ 1048576 → Vm.Fn cx 3 avs ⟨[], 0⟩ (fun v _ => v = .bool true) := by
  intro avs h hb
  obtain ⟨n, cs, r, rfl, h1, n2, cs2, r2, rfl, h2, n3, cs3, r3, rfl, h3, h4⟩ := h
  obtain rfl : r3 = [] := h4
  obtain ⟨sx, e1, hl⟩ := arg_str h1
  obtain ⟨x, e2, hx⟩ := arg_u64 h2
  obtain ⟨ip, e3, hip⟩ := arg_u32 h3
  have e1 : packE cx.P 9 cs = .str sx := e1
  have e2 : packE cx.P 22 cs2 = .int .u64 x := e2
  have e3 : packE cx.P 23 cs3 = .int .u32 ip := e3
  rw [show packE cx.P 9 cs = .str sx from e1] at hb
  show Vm.Fn cx 3 [packE cx.P 9 cs, packE cx.P 22 cs2, packE cx.P 23 cs3] _ _
  rw [e1, e2, e3]
  simp only [vbulks, vbulk] at hb
  exact (textsS sx (by omega) x ip hx hip _).use rfl

theorem texts_lifted (os : Os) (started : os.Started) (H : Type) (enc : TypeId × Value → H) (F : Stop.Interp) :
    ReturnsInHanded {} Tryd.checked os 3 .any ((Rows.OpenSpec.upto Rows.ethTextsSpec).preRow enc Tryd.prog Tryd.f3 Rows.ethTextsUptoRow.domain false Rows.ethTextsUptoRow.laid) (((Rows.OpenSpec.upto Rows.ethTextsSpec).at F).post enc Tryd.prog Tryd.f3 false true false false) := by
  have hx : ∃ places, DataW.whole enc Tryd.prog ((startW os).forCall (fun _ _ => 0) ⟨#[], #[.string ⟨#[]⟩, .int .u64 0, .int .u32 0], []⟩).memory Tryd.f3.params.toList Rows.ethTextsSpec.vars false (#[.string ⟨#[]⟩, .int .u64 0, .int .u32 0] : Array Value).toList 8 = some ([.lit (.string []), .lit (.int .u64 0), .lit (.int .u32 0)], [], places) := ⟨[], by kernel_rfl⟩
  obtain ⟨places, hx⟩ := hx
  have hok : Input.okWideB Tryd.prog ((startW os).forCall (fun _ _ => 0) ⟨#[], #[.string ⟨#[]⟩, .int .u64 0, .int .u32 0], []⟩) 3 ⟨#[], #[.string ⟨#[]⟩, .int .u64 0, .int .u32 0], []⟩ = true := by kernel_rfl
  refine returnsInHanded_of_row (C := Tryd.checked) (s := Rows.OpenSpec.upto Rows.ethTextsSpec) own started (by kernel_rfl) Tryd.func3
    ⟨startW os, fun _ _ => 0, ⟨#[], #[.string ⟨#[]⟩, .int .u64 0, .int .u32 0], []⟩, World.laidAll_os _ _ _, start_shaped os _ (by kernel_rfl) (by kernel_rfl), (Input.okWide_of_okWideB (base := 0) hok).1, (Input.okWide_of_okWideB hok).2,
      OpenSpec.preRow_of_cond 8 hx (by kernel_rfl) (fun k hk => by cases hk; kernel_rfl) (by kernel_rfl) (start_laid os _), by simp only [Assume.holds]; exact ⟨by simp, by simp, fun _ => Modest.zero, by simp, by simp⟩⟩ ?_
  intro W base args ds gs before hval hW _ hcond hw hL hsh _
  obtain ⟨hI, hlo⟩ := inv_of hL hsh
  exact law_contract (C := cx) cx_ok glob_pure libs_ok (T := [9, 22, 23]) tys_ok (by decide +kernel) laid_ok (by kernel_rfl) rfl (tb := 4) (by kernel_rfl) Tryd.underlying4
    (fun ds hd => match ds, hd with | [d1, d2, d3], _ => rfl) (fun avs h hb => texts_law avs h hb) hval hW hw (bulk_of (hcond _ rfl)) ⟨fun i => trivial, hI, hlo⟩

theorem texts_said : Rows.EthTextsUptoSaid :=
  OpenClaim.holds_of_cond 3 Tryd.f3 rfl rfl rfl rfl rfl rfl rfl ⟨rfl, rfl, rfl, rfl, rfl⟩ rfl rfl rfl rfl rfl (by kernel_rfl) Tryd.func3 (by kernel_rfl)
    (of_decide_eq_true (by kernel_rfl)) (by unfold Func.isWrapper; first | (rw [if_pos (by decide +kernel)]; kernel_rfl) | (rw [if_neg (by decide +kernel)]; exact ⟨rfl, rfl⟩))
    (fun os started H enc _ F => by rw [OpenClaim.pre_eq_preRow]; exact texts_lifted os started H enc F)

theorem texts_plain (f : FuncId) (fn : Func) (hf : Tryd.pinned.checked.prog.funcNamed "skein/skeinlaw02.EthTexts" = some f) (hfn : Tryd.pinned.checked.prog.funcs[f]? = some fn) :
    true = Tryd.pinned.checked.prog.looks [] ∧ ∀ (j : Nat) t, fn.params[j]? = some t → Tryd.pinned.checked.prog.wantsStandIn t = false := by
  obtain rfl : f = 3 := Option.some.inj ((show Tryd.prog.funcNamed "skein/skeinlaw02.EthTexts" = some 3 by kernel_rfl).symm.trans hf) |>.symm
  obtain rfl : fn = Tryd.f3 := (Option.some.inj (Tryd.func3.symm.trans hfn)).symm
  refine ⟨by kernel_rfl, fun j t ht => ?_⟩
  rw [Tryd.params3] at ht
  have hm : t ∈ [9, 22, 23] := by
    have := Array.mem_of_getElem? ht
    simp at this
    simp [this]
  have hall : ([9, 22, 23].all fun u => !Tryd.prog.wantsStandIn u) = true := by kernel_rfl
  exact (show Tryd.prog.wantsStandIn t = false by simpa using List.all_eq_true.1 hall t hm)

/-- The card of the law of addresses as texts, in its second form. -/
theorem texts_holds : Rows.EthTextsUptoCardSaid :=
  Claim7.holds_tied_plain_at .later [] _ _ _ _ texts_said (fun _ h => by cases h) (by kernel_rfl) (fun _ h => by cases h) ethTextsUpto_row_tie rfl ⟨rfl, rfl⟩ (by kernel_rfl) rfl texts_plain (by kernel_rfl)
#print axioms texts_holds
end Go.Proofs.YtomkkdlfoellaaaDoor
