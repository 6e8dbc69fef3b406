/- What must come of every program: by evaluation. -/
import Derived.Test.YtklcmgodhpediaaGreatDoorExC1
import Derived.Test.YtklcmgodhpediaaGreatDoorExP1
import Derived.Test.YtklcmgodhpediaaGreatDoorExV2
import Derived.Test.YtklcmgodhpediaaGreatDoorN26
set_option linter.unusedSimpArgs false
set_option linter.unusedVariables false
set_option maxRecDepth 100000
namespace Go.Proofs.YtklcmgodhpediaaGreatDoor
open Go Go.Vm Go.Proofs

theorem cmp0 (st : St) : FnS cx 36 [.agg [.int .i64 3, .int .i64 10, .int .i64 1, .int .u64 167772160, .int .u64 4278190080, .sl .none []]] st (.str (cmpL [105, 112, 52, 46, 115, 114, 99] 1 [48, 120, 97, 48, 48, 48, 48, 48, 48] 4294967295 4278190080 [48, 120, 102, 102, 48, 48, 48, 48, 48, 48])) st :=
  comparisonS 3 10 1 167772160 4278190080 false [] [105, 112, 52, 46, 115, 114, 99] [48, 120, 97, 48, 48, 48, 48, 48, 48] [48, 120, 102, 102, 48, 48, 48, 48, 48, 48] 4294967295 (by omega) (by omega) (by decide) (by decide) (by decide) (fun st => ⟨Fn.ofG (n := 100) (by kernel_rfl) ⟨rfl, rfl⟩⟩) (fun st => ⟨Fn.ofG (n := 100) (by kernel_rfl) ⟨rfl, rfl⟩⟩) (fun st => ⟨Fn.ofG (n := 100) (by kernel_rfl) ⟨rfl, rfl⟩⟩) (fun st => ⟨Fn.ofG (n := 100) (by kernel_rfl) ⟨rfl, rfl⟩⟩) st
theorem cmp1 (st : St) : FnS cx 36 [.agg [.int .i64 3, .int .i64 3, .int .i64 1, .int .u64 2048, .int .u64 65535, .sl .none []]] st (.str (cmpL [101, 116, 104, 46, 116, 121, 112, 101] 1 [48, 120, 56, 48, 48] 65535 65535 [48, 120, 102, 102, 102, 102])) st :=
  comparisonS 3 3 1 2048 65535 false [] [101, 116, 104, 46, 116, 121, 112, 101] [48, 120, 56, 48, 48] [48, 120, 102, 102, 102, 102] 65535 (by omega) (by omega) (by decide) (by decide) (by decide) (fun st => ⟨Fn.ofG (n := 100) (by kernel_rfl) ⟨rfl, rfl⟩⟩) (fun st => ⟨Fn.ofG (n := 100) (by kernel_rfl) ⟨rfl, rfl⟩⟩) (fun st => ⟨Fn.ofG (n := 100) (by kernel_rfl) ⟨rfl, rfl⟩⟩) (fun st => ⟨Fn.ofG (n := 100) (by kernel_rfl) ⟨rfl, rfl⟩⟩) st
theorem cmp2 (st : St) : FnS cx 36 [.agg [.int .i64 3, .int .i64 12, .int .i64 1, .int .u64 1, .int .u64 255, .sl .none []]] st (.str (cmpL [105, 112, 46, 112, 114, 111, 116, 111] 1 [48, 120, 49] 255 255 [48, 120, 102, 102])) st :=
  comparisonS 3 12 1 1 255 false [] [105, 112, 46, 112, 114, 111, 116, 111] [48, 120, 49] [48, 120, 102, 102] 255 (by omega) (by omega) (by decide) (by decide) (by decide) (fun st => ⟨Fn.ofG (n := 100) (by kernel_rfl) ⟨rfl, rfl⟩⟩) (fun st => ⟨Fn.ofG (n := 100) (by kernel_rfl) ⟨rfl, rfl⟩⟩) (fun st => ⟨Fn.ofG (n := 100) (by kernel_rfl) ⟨rfl, rfl⟩⟩) (fun st => ⟨Fn.ofG (n := 100) (by kernel_rfl) ⟨rfl, rfl⟩⟩) st

def memo (k : FuncId) (args : List V) : Option V :=
  if k == 13 then
    match args with
    | [.str s, .sl .full []] => if s = T1 then some A1 else if s = T2 then some A2 else none
    | _ => none
  else if k == 36 then
    match args with
    | [.agg [.int .i64 a, .int .i64 f, .int .i64 o, .int .u64 v, .int .u64 m, .sl .none []]] =>
      if a = 3 ∧ f = 10 ∧ o = 1 ∧ v = 167772160 ∧ m = 4278190080 then some (.str (cmpL [105, 112, 52, 46, 115, 114, 99] 1 [48, 120, 97, 48, 48, 48, 48, 48, 48] 4294967295 4278190080 [48, 120, 102, 102, 48, 48, 48, 48, 48, 48]))
      else if a = 3 ∧ f = 3 ∧ o = 1 ∧ v = 2048 ∧ m = 65535 then some (.str (cmpL [101, 116, 104, 46, 116, 121, 112, 101] 1 [48, 120, 56, 48, 48] 65535 65535 [48, 120, 102, 102, 102, 102]))
      else if a = 3 ∧ f = 12 ∧ o = 1 ∧ v = 1 ∧ m = 255 then some (.str (cmpL [105, 112, 46, 112, 114, 111, 116, 111] 1 [48, 120, 49] 255 255 [48, 120, 102, 102]))
      else none
    | _ => none
  else none
def memoX (k : FuncId) (args : List V) (st : St) : Option (V × St) := match memo k args with
  | some v => some (v, st)
  | none => libs k args st
noncomputable def cl : Cfg := { cx with X := memoX }
theorem cl_ok : COk cl := ⟨cx_ok.eqs, cx_ok.funcs, cx_ok.mixed, cx_ok.inv⟩
theorem cl_glob : GlobPure cl := fun _ => rfl
theorem ac_cl {k : FuncId} {args : List V} {st : St} {v : V} (h : FnS cx k args st v st) : AC cl k args st v st := AC.ofFn (C := cx) (C' := cl) rfl rfl rfl rfl cx_ok cx_glob libs_ok h.ex
theorem memo_ok {k : FuncId} {args : List V} {v : V} (h : memo k args = some v) (st : St) : FnS cx k args st v st := by
  unfold memo at h
  split at h
  · rename_i hk
    obtain rfl : k = 13 := by simpa using hk
    split at h
    · rename_i s
      split at h
      · rename_i hs; subst hs; cases h
        exact ⟨Fn.ofG (parse1 st) ⟨rfl, rfl⟩⟩
      · split at h
        · rename_i hs; subst hs; cases h
          exact ⟨Fn.ofG (parse2 st) ⟨rfl, rfl⟩⟩
        · cases h
    · cases h
  · split at h
    · rename_i hk
      obtain rfl : k = 36 := by simpa using hk
      split at h
      · rename_i a f o v m
        split at h
        · rename_i hs; obtain ⟨rfl, rfl, rfl, rfl, rfl⟩ := hs; cases h
          exact cmp0 st
        · split at h
          · rename_i hs; obtain ⟨rfl, rfl, rfl, rfl, rfl⟩ := hs; cases h
            exact cmp1 st
          · split at h
            · rename_i hs; obtain ⟨rfl, rfl, rfl, rfl, rfl⟩ := hs; cases h
              exact cmp2 st
            · cases h
      · cases h
    · cases h
theorem cl_x : XOk cl := by
  intro k args st v st' h
  have h0 : memoX k args st = some (v, st') := h
  unfold memoX at h0
  split at h0
  · rename_i u hu
    cases h0
    exact ac_cl (memo_ok hu st)
  · have h1 : libs k args st = some (v, st') := h0
    have e : st' = st := by
      have : (known k args).map (fun v => (v, st)) = some (v, st') := h0
      rw [Option.map_eq_some_iff] at this
      obtain ⟨_, _, e⟩ := this
      cases e; rfl
    subst e
    exact ac_cl ⟨Fn.ofX h1 ⟨rfl, rfl⟩⟩
end Go.Proofs.YtklcmgodhpediaaGreatDoor
/- What must come of every program. -/
namespace Go.Proofs.YtklcmgodhpediaaGreatDoor
open Go Go.Vm Go.Proofs

theorem livesG (st : St) : callG cl 400 8 [] st = some (.bool true, st) := by kernel_rfl
theorem livesS (st : St) : FnS cx 8 [] st (.bool true) st := ⟨(Fn.ofG (livesG st) ⟨rfl, rfl⟩).tr cl_ok cl_glob cl_x rfl rfl rfl rfl⟩
end Go.Proofs.YtklcmgodhpediaaGreatDoor
