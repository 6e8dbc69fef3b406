/- What must come of every program comes of this one; the program is as the evaluator asks. -/
import Derived.Test.YtfjhanjpacghkaaEthV8
set_option linter.unusedSimpArgs false
set_option linter.unusedVariables false
set_option maxRecDepth 100000
namespace Go.Proofs.Ytfjhanjpacghkaa
open Go Go.Vm Go.Proofs

theorem pure_any {C : Cfg} {n k : Nat} {args : List V} {v : V} {s0 : St} (hp : C.pure k = true) (hx : ∀ st, C.X k args st = none) (h : callF C n k args ⟨[], 0⟩ = some (v, s0)) (st : St) : callF C n k args st = some (v, st) := by
  cases n with
  | zero => simp [callF] at h
  | succ n =>
    simp only [callF, hx, hp, if_true] at h ⊢
    split at h
    · cases h
    · split at h
      · cases h
      · split at h
        · rename_i hl
          simp only [hl, if_true]
          split at h
          · rename_i ha
            simp only [ha, if_true]
            split at h
            · split at h
              · rename_i hok
                simp only [hok, if_true]
                split at h
                · split at h
                  · rename_i hv
                    simp only [hv, if_true]
                    cases h; rfl
                  · cases h
                · cases h
              · cases h
            · cases h
          · cases h
        · cases h

theorem lives_closed : (callF cx 60 10 [] ⟨[], 0⟩).any (fun r => sameV r.1 (.bool true)) = true := by decide +kernel

theorem lives_run (st : St) (Q : V → St → Prop) (hQ : Q (.bool true) st) : Vm.Fn cx 10 [] st Q := by
  cases h : callF cx 60 10 [] ⟨[], 0⟩ with
  | none => have := lives_closed; rw [h] at this; cases this
  | some r =>
    obtain ⟨v, s0⟩ := r
    have := lives_closed
    rw [h] at this
    have hv := sameV_eq this
    subst hv
    exact ⟨60, _, st, pure_any rfl (fun _ => rfl) h st, hQ⟩

theorem glob_pure : GlobPure cx := fun _ => rfl
theorem cx_ok : COk cx := by
  refine ⟨fun t ht => ?_, by decide +kernel, by decide +kernel⟩
  have h : t = 25 ∨ t = 36 := by
    have h : t ∈ [25, 36] := ht
    simpa using h
  rcases h with rfl | rfl
  · exact ⟨by decide +kernel, by decide +kernel⟩
  · exact ⟨by decide +kernel, by decide +kernel⟩
end Go.Proofs.Ytfjhanjpacghkaa
