/- The law of two tables that send a State to and fro, of the program. -/
import Derived.Test.YtbgalenfbmaceaaGreatDoorDeV21
import Derived.Test.YtbgalenfbmaceaaGreatDoorN26
import Derived.Test.YtbgalenfbmaceaaGreatDoorN18
import Derived.Test.YtbgalenfbmaceaaGreatDoorCards
import Derived.Test.YtbgalenfbmaceaaGreatDoorTie
import Derived.WalkKit
import Derived.ProofKit
import Derived.OpenShut
import Derived.Lay
import Derived.Shelf.Vars
import Derived.Deep.DeepHandedRow
import Derived.Lib.LaidTab
import Derived.LaidSub
import Derived.SevenTiedAt
set_option linter.unusedSimpArgs false
set_option linter.unusedVariables false
set_option maxRecDepth 1000000
namespace Go.Proofs.YtbgalenfbmaceaaGreatDoor
open Go Go.Vm Go.Proofs Go.ChangeShapes Go.RowKit

theorem arg_int {n r : Nat} {cs : List V} (h : Wf Tryz.prog r n 3 cs) : ∃ i, packE Tryz.prog 3 cs = .int .i64 i := by
  cases n with
  | zero => exact h.elim
  | succ n =>
    simp only [Wf, Tryz.underlying3] at h
    obtain ⟨i, rfl, _⟩ := h
    refine ⟨i, ?_⟩
    simp only [packE, Tryz.underlying3]
    rfl
theorem arg_state {n r : Nat} {cs : List V} (h : Wf Tryz.prog r n 38 cs) : packE Tryz.prog 38 cs = .agg cs ∧ cs.length = 49 ∧ cs.map stripCell = cs := by
  have hs := wf_flat (T := [38, 33, 24, 22, 4, 3, 27, 25, 29, 9, 31, 34, 36]) (by decide +kernel) n 38 cs (by decide) h
  cases n with
  | zero => exact h.elim
  | succ n =>
    simp only [Wf, Tryz.underlying38] at h
    exact ⟨by simp only [packE, Tryz.underlying38], (cat_len h).trans (by kernel_rfl), hs⟩
theorem ends_law : ∀ avs, WfA cw.P reachBytes Tryz.f3.params.toList avs → Vm.Fn cw 3 avs ⟨[], 0⟩ (fun v _ => v = .bool true) := by
  intro avs h
  obtain ⟨n, cs, r, rfl, h1, n2, cs2, r2, rfl, h2, n3, cs3, r3, rfl, h3, h4⟩ := h
  obtain rfl : r3 = [] := h4
  obtain ⟨e1, l1, l2⟩ := arg_state h1
  obtain ⟨i, e2⟩ := arg_int h2
  obtain ⟨j, e3⟩ := arg_int h3
  show Vm.Fn cw 3 [packE Tryz.prog 38 cs, packE Tryz.prog 3 cs2, packE Tryz.prog 3 cs3] _ _
  rw [e1, e2, e3]
  exact D.lawAll i j l1 l2

theorem own : ownKnob Tryz.prog.godebug = none := by kernel_rfl
theorem laid_ok : laidOutB Tryz.prog = true := by kernel_rfl
theorem tys_ok : tysOk Tryz.prog [38, 33, 24, 22, 4, 3, 27, 25, 29, 9, 31, 34, 36] = true := by decide +kernel
/-- What the row lists. -/
def laidL : List (String × DataW Unit) := Rows.dpathEndsRow.laid
/-- The world that a call may meet. -/
noncomputable def startW (os : Os) : World := World.laidAll Tryz.prog os laidL
theorem start_shaped (os : Os) (args : Array Value) (hv : ((startW os).forCall (fun _ _ => 0) ⟨#[], args, []⟩).variablesZipB Tryz.prog = true)
    (hr : ((((startW os).forCall (fun _ _ => 0) ⟨#[], args, []⟩)).heap.toList.drop Tryz.prog.globals.size).take ((begin Tryz.prog (fun _ _ => 0) default).world.heap.size - Tryz.prog.globals.size) = (begin Tryz.prog (fun _ _ => 0) default).world.heap.toList.drop Tryz.prog.globals.size) :
    ((startW os).forCall (fun _ _ => 0) ⟨#[], args, []⟩).Shaped Tryz.prog := World.shaped_of_ZipB hv hr
theorem start_laid (os : Os) (args : Array Value) : laidMet Tryz.prog laidL ((startW os).forCall (fun _ _ => 0) ⟨#[], args, []⟩).memory := laidMet_laidAll _ (by kernel_rfl) (by kernel_rfl)
def args0 : Array Value := #[.agg #[.int .u64 0, .int .u64 0, .bool false, .int .i64 0, .int .i64 0, .bool false, .int .i64 0, .int .u64 0, .int .u32 0, .int .u64 0, .int .u32 0, .bool false, .int .i64 0, .int .i64 0, .int .i64 0, .int .i64 0, .int .i64 0, .int .u32 0, .int .u32 0, .string ⟨#[]⟩, .int .i64 0, .int .i64 0, .int .i64 0, .int .u32 0, .int .i64 0, .int .i64 0, .bool false, .int .u32 0, .int .u32 0, .int .i64 0, .int .i64 0, .int .i64 0, .string ⟨#[]⟩, .string ⟨#[]⟩, .string ⟨#[]⟩, .string ⟨#[]⟩, .int .i64 0, .int .i64 0, .int .i64 0, .int .i64 0, .int .u32 0, .int .u32 0, .int .u32 0, .int .u32 0, .int .i64 0, .int .u32 0, .int .u32 0, .int .i64 0, .int .i64 0], .int .i64 0, .int .i64 0]

theorem law_lifted (os : Os) (started : os.Started) (H : Type) (enc : TypeId × Value → H) (F : Stop.Interp) :
    ReturnsInHanded {} Tryz.checked os 3 .any ((OpenSpec.ofChange Rows.dpathEndsSpec).preRow enc Tryz.prog Tryz.f3 Rows.dpathEndsRow.domain false Rows.dpathEndsRow.laid) (((OpenSpec.ofChange Rows.dpathEndsSpec).at F).post enc Tryz.prog Tryz.f3 false true false false) := by
  have hx : ∃ places, DataW.whole enc Tryz.prog ((startW os).forCall (fun _ _ => 0) ⟨#[], args0, []⟩).memory Tryz.f3.params.toList Rows.dpathEndsSpec.vars false args0.toList 12 = some ([(.agg [(.agg [(.agg [(.lit (.int .u64 0)), (.lit (.int .u64 0)), (.lit (.bool .false)), (.lit (.int .i64 0)), (.lit (.int .i64 0))]), (.lit (.bool .false)), (.agg [(.lit (.int .i64 0)), (.lit (.int .u64 0)), (.lit (.int .u32 0)), (.lit (.int .u64 0)), (.lit (.int .u32 0))]), (.lit (.bool .false)), (.agg [(.lit (.int .i64 0)), (.lit (.int .i64 0)), (.lit (.int .i64 0)), (.lit (.int .i64 0)), (.lit (.int .i64 0)), (.lit (.int .u32 0)), (.lit (.int .u32 0)), (.lit (.string []))]), (.agg [(.lit (.int .i64 0)), (.lit (.int .i64 0)), (.lit (.int .i64 0)), (.lit (.int .u32 0)), (.lit (.int .i64 0)), (.lit (.int .i64 0)), (.lit (.bool .false)), (.lit (.int .u32 0)), (.lit (.int .u32 0)), (.lit (.int .i64 0)), (.lit (.int .i64 0)), (.lit (.int .i64 0)), (.lit (.string [])), (.lit (.string []))]), (.lit (.string [])), (.lit (.string []))]), (.lit (.int .i64 0)), (.lit (.int .i64 0)), (.lit (.int .i64 0)), (.lit (.int .i64 0)), (.agg [(.lit (.int .u32 0)), (.lit (.int .u32 0)), (.lit (.int .u32 0)), (.lit (.int .u32 0))]), (.agg [(.lit (.int .i64 0)), (.lit (.int .u32 0)), (.lit (.int .u32 0)), (.lit (.int .i64 0)), (.lit (.int .i64 0))])]), (.lit (.int .i64 0)), (.lit (.int .i64 0))], [], places) := ⟨[], by kernel_rfl⟩
  obtain ⟨places, hx⟩ := hx
  have hok : Input.okWideB Tryz.prog ((startW os).forCall (fun _ _ => 0) ⟨#[], args0, []⟩) 3 ⟨#[], args0, []⟩ = true := by kernel_rfl
  refine returnsInHanded_of_row (C := Tryz.checked) (s := (OpenSpec.ofChange Rows.dpathEndsSpec)) own started (by kernel_rfl) Tryz.func3
    ⟨startW os, fun _ _ => 0, ⟨#[], args0, []⟩, World.laidAll_os _ _ _, start_shaped os _ (by kernel_rfl) (by kernel_rfl), (Input.okWide_of_okWideB (base := 0) hok).1, (Input.okWide_of_okWideB hok).2,
      OpenSpec.preRow_of_cond 12 hx (by kernel_rfl) (fun k hk => by cases hk) (by kernel_rfl) (start_laid os _), by simp only [Assume.holds]; exact ⟨by simp, by simp, fun _ => Modest.zero, by simp, by simp⟩⟩ ?_
  intro W base args ds gs before hval hW _ hcond hw hL hsh _
  exact law_contract (C := cw) cw_ok cw_glob cw_x (T := [38, 33, 24, 22, 4, 3, 27, 25, 29, 9, 31, 34, 36]) tys_ok (by decide +kernel) laid_ok (by kernel_rfl) rfl (tb := 4) (by kernel_rfl) Tryz.underlying4
    (fun ds hd => match ds, hd with | [d1, d2, d3], _ => rfl) (fun avs h hb => ends_law avs h) hval hW hw (Nat.le_refl _) ⟨fun i => trivial, trivial, Nat.zero_le _⟩

theorem law_said : Rows.DpathEndsSaid :=
  OpenClaim.holds_of_cond 3 Tryz.f3 rfl rfl rfl rfl rfl rfl rfl ⟨rfl, rfl, rfl, rfl, rfl⟩ rfl rfl rfl rfl rfl (by kernel_rfl) Tryz.func3 (by kernel_rfl)
    (of_decide_eq_true (by kernel_rfl)) (by unfold Func.isWrapper; first | (rw [if_pos (by decide +kernel)]; kernel_rfl) | (rw [if_neg (by decide +kernel)]; exact ⟨rfl, rfl⟩))
    (fun os started H enc _ F => by rw [OpenClaim.pre_eq_preRow]; exact law_lifted os started H enc F)

theorem law_plain (f : FuncId) (fn : Func) (hf : Tryz.pinned.checked.prog.funcNamed "skein/skeinlaw13.DpathEnds" = some f) (hfn : Tryz.pinned.checked.prog.funcs[f]? = some fn) :
    false = Tryz.pinned.checked.prog.looks [] ∧ ∀ (j : Nat) t, fn.params[j]? = some t → Tryz.pinned.checked.prog.wantsStandIn t = false := by
  obtain rfl : f = 3 := Option.some.inj ((show Tryz.prog.funcNamed "skein/skeinlaw13.DpathEnds" = some 3 by kernel_rfl).symm.trans hf) |>.symm
  obtain rfl : fn = Tryz.f3 := (Option.some.inj (Tryz.func3.symm.trans hfn)).symm
  refine ⟨by kernel_rfl, fun j t ht => ?_⟩
  rw [Tryz.params3] at ht
  have hm : t ∈ [38, 33, 24, 22, 4, 3, 27, 25, 29, 9, 31, 34, 36] := by
    have := Array.mem_of_getElem? ht
    simp at this
    rcases this with e | e <;> (rw [e]; decide +kernel)
  have hall : ([38, 33, 24, 22, 4, 3, 27, 25, 29, 9, 31, 34, 36].all fun u => !Tryz.prog.wantsStandIn u) = true := by kernel_rfl
  exact (show Tryz.prog.wantsStandIn t = false by simpa using List.all_eq_true.1 hall t hm)

/-- The card of the law. -/
theorem ends_holds : Rows.DpathEndsCardSaid :=
  Claim7.holds_tied_plain_at .later [] _ _ _ _ law_said (fun _ h => by cases h) (by kernel_rfl) (fun _ h => by cases h) dpathEnds_row_tie rfl ⟨rfl, rfl⟩ (by kernel_rfl) rfl law_plain (by kernel_rfl)
#print axioms ends_holds
end Go.Proofs.YtbgalenfbmaceaaGreatDoor
