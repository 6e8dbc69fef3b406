/- The law of rows that nobody made, of the program. -/
import Derived.Test.YtbooicchghnehaaGreatDoorNnV7
import Derived.Test.YtbooicchghnehaaGreatDoorN17
import Derived.Test.YtbooicchghnehaaGreatDoorN18
import Derived.Test.YtbooicchghnehaaGreatDoorCards
import Derived.Test.YtbooicchghnehaaGreatDoorTie
import Derived.WalkKit
import Derived.ProofKit
import Derived.OpenShut
import Derived.Lay
import Derived.Shelf.Vars
import Derived.Deep.DeepHandedRow
import Derived.Lib.LaidTab
import Derived.LaidSub
import Derived.SevenTiedAt
set_option linter.unusedSimpArgs false
set_option linter.unusedVariables false
set_option maxRecDepth 1000000
namespace Go.Proofs.YtbooicchghnehaaGreatDoor
open Go Go.Vm Go.Proofs Go.ChangeShapes Go.RowKit

theorem nobody_law : ∀ avs, WfA cz.P reachBytes Tryz.f3.params.toList avs → Vm.Fn cz 3 avs ⟨[], 0⟩ (fun v _ => v = .bool true) := by
  intro avs h
  obtain ⟨n, cs, r, rfl, h1, n2, cs2, r2, rfl, h2, n3, cs3, r3, rfl, h3, h4⟩ := h
  obtain rfl : r3 = [] := h4
  show Vm.Fn cz 3 [packE cz.P 22 cs, packE cz.P 3 cs2, packE cz.P 9 cs3] _ _
  have hr := law_run (packE cz.P 22 cs) (packE cz.P 3 cs2) (packE cz.P 9 cs3)
  cases hc : callF cz 60 3 [packE cz.P 22 cs, packE cz.P 3 cs2, packE cz.P 9 cs3] ⟨[], 0⟩ with
  | none => rw [hc] at hr; cases hr
  | some p =>
    rw [hc] at hr
    exact Fn.ofF hc (Option.some.inj hr)

theorem own : ownKnob Tryz.prog.godebug = none := by kernel_rfl
theorem laid_ok : laidOutB Tryz.prog = true := by kernel_rfl
theorem tys_ok : tysOk Tryz.prog [22, 46, 4, 31, 3, 9, 27, 28, 29, 59] = true := by decide +kernel
/-- What the row lists. -/
def laidL : List (String × DataW Unit) := Rows.nbdbNobodyRow.laid
/-- The world that a call may meet. -/
noncomputable def startW (os : Os) : World := World.laidAll Tryz.prog os laidL
theorem start_shaped (os : Os) (args : Array Value) (hv : ((startW os).forCall (fun _ _ => 0) ⟨#[], args, []⟩).variablesZipB Tryz.prog = true)
    (hr : ((((startW os).forCall (fun _ _ => 0) ⟨#[], args, []⟩)).heap.toList.drop Tryz.prog.globals.size).take ((begin Tryz.prog (fun _ _ => 0) default).world.heap.size - Tryz.prog.globals.size) = (begin Tryz.prog (fun _ _ => 0) default).world.heap.toList.drop Tryz.prog.globals.size) :
    ((startW os).forCall (fun _ _ => 0) ⟨#[], args, []⟩).Shaped Tryz.prog := World.shaped_of_ZipB hv hr
theorem start_laid (os : Os) (args : Array Value) : laidMet Tryz.prog laidL ((startW os).forCall (fun _ _ => 0) ⟨#[], args, []⟩).memory := laidMet_laidAll _ (by kernel_rfl) (by kernel_rfl)
def args0 : Array Value := #[.slice none 0 0, .int .i64 0, .string ⟨#[]⟩]

theorem law_lifted (os : Os) (started : os.Started) (H : Type) (enc : TypeId × Value → H) (F : Stop.Interp) :
    ReturnsInHanded {} Tryz.checked os 3 .any ((OpenSpec.ofChange Rows.nbdbNobodySpec).preRow enc Tryz.prog Tryz.f3 Rows.nbdbNobodyRow.domain false Rows.nbdbNobodyRow.laid) (((OpenSpec.ofChange Rows.nbdbNobodySpec).at F).post enc Tryz.prog Tryz.f3 false true false false) := by
  have hx : ∃ places, DataW.whole enc Tryz.prog ((startW os).forCall (fun _ _ => 0) ⟨#[], args0, []⟩).memory Tryz.f3.params.toList Rows.nbdbNobodySpec.vars false args0.toList 12 = some ([.nil, (.lit (.int .i64 0)), (.lit (.string []))], [], places) := ⟨[], by kernel_rfl⟩
  obtain ⟨places, hx⟩ := hx
  have hok : Input.okWideB Tryz.prog ((startW os).forCall (fun _ _ => 0) ⟨#[], args0, []⟩) 3 ⟨#[], args0, []⟩ = true := by kernel_rfl
  refine returnsInHanded_of_row (C := Tryz.checked) (s := (OpenSpec.ofChange Rows.nbdbNobodySpec)) own started (by kernel_rfl) Tryz.func3
    ⟨startW os, fun _ _ => 0, ⟨#[], args0, []⟩, World.laidAll_os _ _ _, start_shaped os _ (by kernel_rfl) (by kernel_rfl), (Input.okWide_of_okWideB (base := 0) hok).1, (Input.okWide_of_okWideB hok).2,
      OpenSpec.preRow_of_cond 12 hx (by kernel_rfl) (fun k hk => by cases hk) (by kernel_rfl) (start_laid os _), by simp only [Assume.holds]; exact ⟨by simp, by simp, fun _ => Modest.zero, by simp, by simp⟩⟩ ?_
  intro W base args ds gs before hval hW _ hcond hw hL hsh _
  exact law_contract (C := cz) cz_ok cz_glob cz_x (T := [22, 46, 4, 31, 3, 9, 27, 28, 29, 59]) tys_ok (by decide +kernel) laid_ok (by kernel_rfl) rfl (tb := 4) (by kernel_rfl) Tryz.underlying4
    (fun ds hd => match ds, hd with | [d1, d2, d3], _ => rfl) (fun avs h hb => nobody_law avs h) hval hW hw (Nat.le_refl _) ⟨fun i => trivial, trivial, Nat.zero_le _⟩

end Go.Proofs.YtbooicchghnehaaGreatDoor
