/- The configuration of the walks; what is known of closed calls. -/
import Derived.Test.YtbgalenfbmaceaaGreatDoorDeV2
import Derived.Test.YtbgalenfbmaceaaGreatDoorDeV3
import Derived.Test.YtbgalenfbmaceaaGreatDoorN26
import Derived.Test.YtbgalenfbmaceaaGreatDoorF1
set_option linter.unusedSimpArgs false
set_option linter.unusedVariables false
set_option maxRecDepth 1000000
namespace Go.Proofs.YtbgalenfbmaceaaGreatDoor
open Go Go.Vm Go.Proofs

/-- Functions in their caller's memory. -/
def innerD (k : FuncId) : Bool := [3, 6, 20, 21, 36, 37, 5, 7, 10, 11, 12, 13, 14, 17, 22, 26, 27, 28, 29, 30, 33, 47, 53].contains k
noncomputable def cw : Cfg := { cy with keep := fun k => k == 5 || k == 10 || k == 11 || k == 13 || k == 29 || k == 20 || k == 21 || k == 36 || k == 37, grow := fun k => k == 28 || k == 29 || k == 20 || k == 21 || k == 36 || k == 37, pure := fun k => !innerD k, frz := fun k => k == 8 || k == 9 }
theorem cw_ok : COk cw := ⟨cy_ok.eqs, cy_ok.funcs, cy_ok.mixed, cy_ok.inv⟩
theorem cw_glob : GlobPure cw := fun _ => rfl
theorem cw_x : XOk cw := by
  intro k args st v st' h
  have h2 : cloneX k args st = some (v, st') := h
  have hs : st' = st := by
    unfold cloneX at h2
    split at h2
    · split at h2
      · cases h2; rfl
      · cases h2
    · cases h2
  subst hs
  exact AC.ofFn (C := cy) (C' := cw) rfl rfl rfl rfl cy_ok cy_glob cy_x (Vm.Fn.ofX (v := v) (st' := st') h ⟨rfl, rfl⟩)

/-- A key's bytes. -/
def keyT (a : Nat) : List UInt8 := [UInt8.ofNat a, 255, 255]
def actGoF (t : Int) : V := .agg [.int .i64 4, .int .i64 0, .int .i64 0, .int .u64 0, .int .u64 0, .int .i64 t, .int .i64 0, .sl .full [], .sl .full [], .int .u64 0, .int .u32 0, .int .u32 0, .int .u32 0, .int .u32 0, .int .u32 0]
def actOutF : V := .agg [.int .i64 6, .int .i64 0, .int .i64 0, .int .u64 0, .int .u64 0, .int .i64 0, .int .i64 7, .sl .full [], .sl .full [], .int .u64 0, .int .u32 0, .int .u32 0, .int .u32 0, .int .u32 0, .int .u32 0]
def actsA (b : Int) : V := .sl .none [actGoF b]
def actClone' : V := .agg [.int .i64 5, .int .i64 0, .int .i64 0, .int .u64 0, .int .u64 0, .int .i64 0, .int .i64 0, .sl .none [actOutF], .sl .full [], .int .u64 0, .int .u32 0, .int .u32 0, .int .u32 0, .int .u32 0, .int .u32 0]
def actsB (a : Int) : V := .sl .none [actClone', actGoF a]
end Go.Proofs.YtbgalenfbmaceaaGreatDoor
