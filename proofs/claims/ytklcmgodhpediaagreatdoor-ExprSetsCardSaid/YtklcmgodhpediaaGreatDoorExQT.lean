/- The law ExprSets, of the program: a set holds where one of its constants does. -/
import Derived.Test.YtklcmgodhpediaaGreatDoorExT1
import Derived.Test.YtklcmgodhpediaaGreatDoorExQ5
import Derived.Test.YtklcmgodhpediaaGreatDoorN18
import Derived.Test.YtklcmgodhpediaaGreatDoorCards
import Derived.Test.YtklcmgodhpediaaGreatDoorTie
import Derived.WalkKit
import Derived.ProofKit
import Derived.OpenShut
import Derived.Lay
import Derived.Shelf.Vars
import Derived.Deep.DeepHandedRow
import Derived.Lib.LaidTab
import Derived.LaidSub
import Derived.SevenTiedAt
set_option linter.unusedSimpArgs false
set_option linter.unusedVariables false
set_option maxRecDepth 1000000
namespace Go.Proofs.YtklcmgodhpediaaGreatDoor
open Go Go.Vm Go.Proofs Go.ChangeShapes Go.RowKit

theorem the_law : ∀ avs, WfA cx.P reachBytes Tryz.f4.params.toList avs → Vm.Fn cx 4 avs ⟨[], 0⟩ (fun v _ => v = .bool true) := by
  intro avs h
  obtain ⟨n, cs, r, rfl, h1, n2, cs2, r2, rfl, h2, h3⟩ := h
  obtain rfl : r2 = [] := h3
  show Vm.Fn cx 4 [packE cx.P 50 cs, packE cx.P 41 cs2] _ _
  exact (K.setsA h1 h2 ⟨[], 0⟩).ex.mono fun v st hv => hv.1

theorem own : ownKnob Tryz.prog.godebug = none := by kernel_rfl
theorem laid_ok : laidOutB Tryz.prog = true := by kernel_rfl
theorem tys_ok : tysOk Tryz.prog [50, 28, 41, 36, 27, 22, 4, 3, 30, 32, 9, 34, 37, 39] = true := by decide +kernel
/-- What the row lists. -/
def laidL : List (String × DataW Unit) := Rows.exprSetsRow.laid
/-- The world that a call may meet. -/
noncomputable def startW (os : Os) : World := World.laidAll Tryz.prog os laidL
theorem start_shaped (os : Os) (args : Array Value) (hv : ((startW os).forCall (fun _ _ => 0) ⟨#[], args, []⟩).variablesZipB Tryz.prog = true)
    (hr : ((((startW os).forCall (fun _ _ => 0) ⟨#[], args, []⟩)).heap.toList.drop Tryz.prog.globals.size).take ((begin Tryz.prog (fun _ _ => 0) default).world.heap.size - Tryz.prog.globals.size) = (begin Tryz.prog (fun _ _ => 0) default).world.heap.toList.drop Tryz.prog.globals.size) :
    ((startW os).forCall (fun _ _ => 0) ⟨#[], args, []⟩).Shaped Tryz.prog := World.shaped_of_ZipB hv hr
theorem start_laid (os : Os) (args : Array Value) : laidMet Tryz.prog laidL ((startW os).forCall (fun _ _ => 0) ⟨#[], args, []⟩).memory := laidMet_laidAll _ (by kernel_rfl) (by kernel_rfl)
def args0 : Array Value := #[.slice none 0 0, .agg #[.int .u64 0, .int .u64 0, .bool false, .int .i64 0, .int .i64 0, .bool false, .int .i64 0, .int .u64 0, .int .u32 0, .int .u64 0, .int .u32 0, .bool false, .int .i64 0, .int .i64 0, .int .i64 0, .int .i64 0, .int .i64 0, .int .u32 0, .int .u32 0, .string ⟨#[]⟩, .int .i64 0, .int .i64 0, .int .i64 0, .int .u32 0, .int .i64 0, .int .i64 0, .bool false, .int .u32 0, .int .u32 0, .int .i64 0, .int .i64 0, .int .i64 0, .string ⟨#[]⟩, .string ⟨#[]⟩, .string ⟨#[]⟩, .string ⟨#[]⟩, .int .i64 0, .int .i64 0, .int .i64 0, .int .i64 0, .int .u32 0, .int .u32 0, .int .u32 0, .int .u32 0, .int .i64 0, .int .u32 0, .int .u32 0, .int .i64 0, .int .i64 0]]

theorem law_lifted (os : Os) (started : os.Started) (H : Type) (enc : TypeId × Value → H) (F : Stop.Interp) :
    ReturnsInHanded {} Tryz.checked os 4 .any ((OpenSpec.ofChange Rows.exprSetsSpec).preRow enc Tryz.prog Tryz.f4 Rows.exprSetsRow.domain false Rows.exprSetsRow.laid) (((OpenSpec.ofChange Rows.exprSetsSpec).at F).post enc Tryz.prog Tryz.f4 false true false false) := by
  have hx : ∃ places, DataW.whole enc Tryz.prog ((startW os).forCall (fun _ _ => 0) ⟨#[], args0, []⟩).memory Tryz.f4.params.toList Rows.exprSetsSpec.vars false args0.toList 12 = some ([.nil, (.agg [(.agg [(.agg [(.lit (.int .u64 0)), (.lit (.int .u64 0)), (.lit (.bool .false)), (.lit (.int .i64 0)), (.lit (.int .i64 0))]), (.lit (.bool .false)), (.agg [(.lit (.int .i64 0)), (.lit (.int .u64 0)), (.lit (.int .u32 0)), (.lit (.int .u64 0)), (.lit (.int .u32 0))]), (.lit (.bool .false)), (.agg [(.lit (.int .i64 0)), (.lit (.int .i64 0)), (.lit (.int .i64 0)), (.lit (.int .i64 0)), (.lit (.int .i64 0)), (.lit (.int .u32 0)), (.lit (.int .u32 0)), (.lit (.string []))]), (.agg [(.lit (.int .i64 0)), (.lit (.int .i64 0)), (.lit (.int .i64 0)), (.lit (.int .u32 0)), (.lit (.int .i64 0)), (.lit (.int .i64 0)), (.lit (.bool .false)), (.lit (.int .u32 0)), (.lit (.int .u32 0)), (.lit (.int .i64 0)), (.lit (.int .i64 0)), (.lit (.int .i64 0)), (.lit (.string [])), (.lit (.string []))]), (.lit (.string [])), (.lit (.string []))]), (.lit (.int .i64 0)), (.lit (.int .i64 0)), (.lit (.int .i64 0)), (.lit (.int .i64 0)), (.agg [(.lit (.int .u32 0)), (.lit (.int .u32 0)), (.lit (.int .u32 0)), (.lit (.int .u32 0))]), (.agg [(.lit (.int .i64 0)), (.lit (.int .u32 0)), (.lit (.int .u32 0)), (.lit (.int .i64 0)), (.lit (.int .i64 0))])])], [], places) := ⟨[], by kernel_rfl⟩
  obtain ⟨places, hx⟩ := hx
  have hok : Input.okWideB Tryz.prog ((startW os).forCall (fun _ _ => 0) ⟨#[], args0, []⟩) 4 ⟨#[], args0, []⟩ = true := by kernel_rfl
  refine returnsInHanded_of_row (C := Tryz.checked) (s := (OpenSpec.ofChange Rows.exprSetsSpec)) own started (by kernel_rfl) Tryz.func4
    ⟨startW os, fun _ _ => 0, ⟨#[], args0, []⟩, World.laidAll_os _ _ _, start_shaped os _ (by kernel_rfl) (by kernel_rfl), (Input.okWide_of_okWideB (base := 0) hok).1, (Input.okWide_of_okWideB hok).2,
      OpenSpec.preRow_of_cond 12 hx (by kernel_rfl) (fun k hk => by cases hk) (by kernel_rfl) (start_laid os _), by simp only [Assume.holds]; exact ⟨by simp, by simp, fun _ => Modest.zero, by simp, by simp⟩⟩ ?_
  intro W base args ds gs before hval hW _ hcond hw hL hsh _
  exact law_contract (C := cx) cx_ok cx_glob libs_ok (T := [50, 28, 41, 36, 27, 22, 4, 3, 30, 32, 9, 34, 37, 39]) tys_ok (by decide +kernel) laid_ok (by kernel_rfl) rfl (tb := 4) (by kernel_rfl) Tryz.underlying4
    (fun ds hd => match ds, hd with | [d1, d2], _ => rfl) (fun avs h hb => the_law avs h) hval hW hw (Nat.le_refl _) ⟨fun i => trivial, (inv_of hL hsh).1, (inv_of hL hsh).2⟩

theorem law_said : Rows.ExprSetsSaid :=
  OpenClaim.holds_of_cond 4 Tryz.f4 rfl rfl rfl rfl rfl rfl rfl ⟨rfl, rfl, rfl, rfl, rfl⟩ rfl rfl rfl rfl rfl (by kernel_rfl) Tryz.func4 (by kernel_rfl)
    (of_decide_eq_true (by kernel_rfl)) (by unfold Func.isWrapper; first | (rw [if_pos (by decide +kernel)]; kernel_rfl) | (rw [if_neg (by decide +kernel)]; exact ⟨rfl, rfl⟩))
    (fun os started H enc _ F => by rw [OpenClaim.pre_eq_preRow]; exact law_lifted os started H enc F)

theorem law_plain (f : FuncId) (fn : Func) (hf : Tryz.pinned.checked.prog.funcNamed "skein/skeinlaw15.ExprSets" = some f) (hfn : Tryz.pinned.checked.prog.funcs[f]? = some fn) :
    true = Tryz.pinned.checked.prog.looks [] ∧ ∀ (j : Nat) t, fn.params[j]? = some t → Tryz.pinned.checked.prog.wantsStandIn t = false := by
  obtain rfl : f = 4 := Option.some.inj ((show Tryz.prog.funcNamed "skein/skeinlaw15.ExprSets" = some 4 by kernel_rfl).symm.trans hf) |>.symm
  obtain rfl : fn = Tryz.f4 := (Option.some.inj (Tryz.func4.symm.trans hfn)).symm
  refine ⟨by kernel_rfl, fun j t ht => ?_⟩
  rw [Tryz.params4] at ht
  have hm : t ∈ [50, 28, 41, 36, 27, 22, 4, 3, 30, 32, 9, 34, 37, 39] := by
    have := Array.mem_of_getElem? ht
    simp at this
    rcases this with e | e <;> (rw [e]; decide +kernel)
  have hall : ([50, 28, 41, 36, 27, 22, 4, 3, 30, 32, 9, 34, 37, 39].all fun u => !Tryz.prog.wantsStandIn u) = true := by kernel_rfl
  exact (show Tryz.prog.wantsStandIn t = false by simpa using List.all_eq_true.1 hall t hm)

/-- The card of the law. -/
theorem sets_holds : Rows.ExprSetsCardSaid :=
  Claim7.holds_tied_plain_at .later [] _ _ _ _ law_said (fun _ h => by cases h) (by kernel_rfl) (fun _ h => by cases h) exprSets_row_tie rfl ⟨rfl, rfl⟩ (by kernel_rfl) rfl law_plain (by kernel_rfl)
#print axioms sets_holds
end Go.Proofs.YtklcmgodhpediaaGreatDoor
