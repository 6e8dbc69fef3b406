/- The law of rows that nobody made: its card. -/
import Derived.Test.YtbooicchghnehaaGreatDoorNnT1
import Derived.Test.YtbooicchghnehaaGreatDoorNnF4
import Derived.Test.YtbooicchghnehaaGreatDoorN17
import Derived.Test.YtbooicchghnehaaGreatDoorN18
import Derived.Test.YtbooicchghnehaaGreatDoorCards
import Derived.Test.YtbooicchghnehaaGreatDoorTie
import Derived.WalkKit
import Derived.ProofKit
import Derived.OpenShut
import Derived.Lay
import Derived.Shelf.Vars
import Derived.Deep.DeepHandedRow
import Derived.Lib.LaidTab
import Derived.LaidSub
import Derived.SevenTiedAt
set_option linter.unusedSimpArgs false
set_option linter.unusedVariables false
set_option maxRecDepth 1000000
namespace Go.Proofs.YtbooicchghnehaaGreatDoor
open Go Go.Vm Go.Proofs Go.ChangeShapes Go.RowKit

theorem law_said : Rows.NbdbNobodySaid :=
  OpenClaim.holds_of_cond 3 Tryz.f3 rfl rfl rfl rfl rfl rfl rfl ⟨rfl, rfl, rfl, rfl, rfl⟩ rfl rfl rfl rfl rfl (by kernel_rfl) Tryz.func3 closed_ok
    (of_decide_eq_true (by kernel_rfl)) (by unfold Func.isWrapper; first | (rw [if_pos (by decide +kernel)]; kernel_rfl) | (rw [if_neg (by decide +kernel)]; exact ⟨rfl, rfl⟩))
    (fun os started H enc _ F => by rw [OpenClaim.pre_eq_preRow]; exact law_lifted os started H enc F)

theorem law_plain (f : FuncId) (fn : Func) (hf : Tryz.pinned.checked.prog.funcNamed "skein/skeinlaw18.NbdbNobody" = some f) (hfn : Tryz.pinned.checked.prog.funcs[f]? = some fn) :
    true = Tryz.pinned.checked.prog.looks [] ∧ ∀ (j : Nat) t, fn.params[j]? = some t → Tryz.pinned.checked.prog.wantsStandIn t = false := by
  obtain rfl : f = 3 := Option.some.inj ((show Tryz.prog.funcNamed "skein/skeinlaw18.NbdbNobody" = some 3 by kernel_rfl).symm.trans hf) |>.symm
  obtain rfl : fn = Tryz.f3 := (Option.some.inj (Tryz.func3.symm.trans hfn)).symm
  refine ⟨by kernel_rfl, fun j t ht => ?_⟩
  rw [Tryz.params3] at ht
  have hm : t ∈ [22, 46, 4, 31, 3, 9, 27, 28, 29, 59] := by
    have := Array.mem_of_getElem? ht
    simp at this
    rcases this with e | e | e <;> (rw [e]; decide +kernel)
  have hall : ([22, 46, 4, 31, 3, 9, 27, 28, 29, 59].all fun u => !Tryz.prog.wantsStandIn u) = true := by kernel_rfl
  exact (show Tryz.prog.wantsStandIn t = false by simpa using List.all_eq_true.1 hall t hm)

/-- The card of the law. -/
theorem nobody_holds : Rows.NbdbNobodyCardSaid :=
  Claim7.holds_tied_plain_at .later [] _ _ _ _ law_said (fun _ h => by cases h) (by kernel_rfl) (fun _ h => by cases h) nbdbNobody_row_tie rfl ⟨rfl, rfl⟩ (by kernel_rfl) rfl law_plain (by kernel_rfl)
#print axioms nobody_holds
end Go.Proofs.YtbooicchghnehaaGreatDoor
