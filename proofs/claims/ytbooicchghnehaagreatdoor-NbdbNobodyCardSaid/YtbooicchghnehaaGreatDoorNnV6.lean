/- lives, with the rows in every order. -/
import Derived.Test.YtbooicchghnehaaGreatDoorNnV5
import Derived.Test.YtbooicchghnehaaGreatDoorN34
import Derived.Test.YtbooicchghnehaaGreatDoorN26
set_option linter.unusedSimpArgs false
set_option linter.unusedVariables false
set_option maxRecDepth 1000000
namespace Go.Proofs.YtbooicchghnehaaGreatDoor
open Go Go.Vm Go.Proofs

def nnCol : Col := fun k args st => if k == 14 then (rowsOf args st).map fun r => (perms r.2.2).map fun pre => .sl .none (pre.map fun e => stripAgg e.2) else none
theorem nnCol_ok : ColOk cy nnCol := by
  intro k args st vs h
  unfold nnCol at h
  split at h
  · rename_i hk
    obtain rfl : k = 14 := by simpa using hk
    cases hr : rowsOf args st with
    | none => rw [hr] at h; cases h
    | some r =>
      rw [hr] at h
      cases h
      obtain ⟨bx, mb, es⟩ := r
      refine (Vm.Fn.tr (C' := cy) (rowsOf_sound hr) cn_ok cn_glob cn_x rfl rfl rfl rfl).mono ?_
      rintro v st' ⟨⟨pre, hp, rfl⟩, rfl⟩
      exact ⟨List.mem_map_of_mem (mem_perms _ _ hp), rfl⟩
  · cases h
noncomputable def appX (k : FuncId) (args : List V) (st : St) : Option (V × St) := if k == 4 then ndFn cy nnCol 60 200 4 args st else none
noncomputable def cz : Cfg := { cy with X := fun k args st => match nnX k args st with | some r => some r | none => appX k args st }
theorem cz_ok : COk cz := ⟨cy_ok.1, cy_ok.2, cy_ok.3, fun _ _ _ _ => trivial⟩
theorem cz_glob : GlobPure cz := fun _ => rfl
theorem cz_x : XOk cz := by
  intro k args st v st' h
  replace h : (match nnX k args st with | some r => some r | none => appX k args st) = some (v, st') := h
  split at h
  · rename_i r hr
    cases h
    exact AC.tr (C := cy) (C' := cz) rfl rfl rfl rfl (cy_x k args st v st' hr)
  · rename_i hn
    unfold appX at h
    split at h
    · rename_i hk
      obtain rfl : k = 4 := by simpa using hk
      have h1 := ndFn_sound (C := cy) nnCol_ok (show cy.X 4 args st = none from hn) rfl h
      have hle : st.n ≤ st'.n := ndFn_n (callF_sound cy_ok cy_glob cy_x 60) h
      exact AC.ofFnS (C := cy) (C' := cz) rfl rfl rfl rfl cy_ok cy_glob cy_x hle h1.ex
    · cases h
end Go.Proofs.YtbooicchghnehaaGreatDoor
