/- Loops by a label. -/
import Derived.Test.YtomkkdlfoellaaaDoorVm23
set_option linter.unusedSimpArgs false
set_option linter.unusedVariables false
namespace Go.Vm
open Go Go.RowKit

section
variable {C : Cfg} {f : Fr} {st : St} {Q : Ex → Fr → St → Prop}

theorem exec_s {n : Nat} {c : Code} {f : Fr} {st : St} {r : Ex × Fr × St} (h : exec C (callF C (n + 1)) n c f st = some r) : exec C (callF C (n + 1)) (n + 1) c f st = some r := (exec_le (KLe.refl _) n (n + 1) (by omega)).1 h
theorem scope_s {n : Nat} {b c : Code} {f : Fr} {st : St} {r : Ex × Fr × St} (h : inScope C (callF C (n + 1)) n b c f st = some r) : inScope C (callF C (n + 1)) (n + 1) b c f st = some r := (exec_le (KLe.refl _) n (n + 1) (by omega)).2 h
theorem Ev.seq_inv {a b : Code} (h : Ev C (.seq a b) f st Q) : Ev C a f st (Nx (fun f' st' => Ev C b f' st' Q) Q) := by
  obtain ⟨n, e, f', st', h1, h2⟩ := h
  cases n with
  | zero => simp [exec] at h1
  | succ n =>
    simp only [exec] at h1
    split at h1
    · rename_i f1 st1 ha
      exact ⟨n + 1, .normal, f1, st1, exec_s ha, n + 1, e, f', st', exec_s h1, h2⟩
    · rename_i hne
      refine ⟨n + 1, e, f', st', exec_s h1, ?_⟩
      cases e <;> first | exact h2 | exact absurd h1 (hne _ _)
theorem EvS.inv {b c : Code} (h : EvS C b c f st Q) : Ev C c f st (Gx (Jx C b Q) Q) := by
  obtain ⟨n, e, f', st', h1, h2⟩ := h
  cases n with
  | zero => simp [inScope] at h1
  | succ n =>
    simp only [inScope] at h1
    split at h1
    · rename_i l f1 st1 hc
      refine ⟨n + 1, .goto l, f1, st1, exec_s hc, ?_⟩
      show Jx C b Q l f1 st1
      unfold Jx
      cases hf : findLabel b l with
      | some r =>
        rw [hf] at h1
        exact ⟨n + 1, e, f', st', scope_s h1, h2⟩
      | none =>
        rw [hf] at h1
        cases h1
        exact h2
    · rename_i hne
      refine ⟨n + 1, e, f', st', exec_s h1, ?_⟩
      cases e <;> first | exact h2 | exact absurd h1 (hne _ _ _)

/-- The code ahead of a label. -/
def preO (l : Nat) : Code → Option Code
  | .seq a b =>
    match findLabel a l with
    | some _ => preO l a
    | none => match preO l b with
      | some p => some (.seq a p)
      | none => none
  | .label l' => if l' == l then some .skip else none
  | _ => none

theorem ev_split {l : Nat} : ∀ {b pre rest : Code} {f : Fr} {st : St} {Q : Ex → Fr → St → Prop}, preO l b = some pre → findLabel b l = some rest → Ev C pre f st (Nx (fun f' st' => Ev C rest f' st' Q) Q) → Ev C b f st Q := by
  intro b
  induction b with
  | label l' =>
    intro pre rest f st Q hp hf h
    simp only [preO] at hp
    simp only [findLabel] at hf
    split at hp
    · rename_i hl
      rw [if_pos hl] at hf
      cases hp; cases hf
      obtain ⟨n, e, f', st', h1, h2⟩ := h
      cases n with
      | zero => simp [exec] at h1
      | succ n =>
        simp only [exec] at h1
        cases h1
        obtain ⟨n, e, f', st', h1, h2⟩ := h2
        cases n with
        | zero => simp [exec] at h1
        | succ n =>
          simp only [exec] at h1
          cases h1
          exact Ev.label h2
    · cases hp
  | seq a b iha ihb =>
    intro pre rest f st Q hp hf h
    simp only [preO] at hp
    simp only [findLabel] at hf
    cases ha : findLabel a l with
    | some ra =>
      rw [ha] at hp hf
      cases hf
      refine Ev.seq (iha hp ha (h.mono fun e f' st' hq => ?_))
      cases e <;> first | exact hq | exact Ev.seq_inv hq
    | none =>
      rw [ha] at hp hf
      dsimp only at hp hf
      cases hb : preO l b with
      | none => rw [hb] at hp; cases hp
      | some p =>
        rw [hb] at hp
        cases hp
        refine Ev.seq ((Ev.seq_inv h).mono fun e f' st' hq => ?_)
        cases e <;> first | exact hq | exact ihb hb hf hq
  | _ => intro pre rest f st Q hp; simp [preO] at hp

theorem scope_loop {b pre rest : Code} {l : Nat} {t : List (Nat × V)} (hf : findLabel b l = some rest) (hp : preO l b = some pre) (Inv : Nat → List (Nat × V) → St → Prop)
    (start : Ev C pre ⟨t, []⟩ st (Nx (fun f' st' => f'.d = [] ∧ ∃ n, Inv n f'.t st') (Gx (Jx C b Q) Q)))
    (step : ∀ n t st, Inv n t st → (∀ t' st', (∃ m, m < n ∧ Inv m t' st') → EvS C b rest ⟨t', []⟩ st' Q) → EvS C b rest ⟨t, []⟩ st Q) : Ev C (.scope b) ⟨t, []⟩ st Q := by
  have key : ∀ n t st, Inv n t st → EvS C b rest ⟨t, []⟩ st Q := by
    intro n
    induction n using Nat.strongRecOn with
    | _ n ih =>
      intro t st hi
      exact step n t st hi fun t' st' ⟨m, hm, hi'⟩ => ih m hm t' st' hi'
  refine Ev.scope (EvS.of (ev_split hp hf (start.mono fun e f' st' hq => ?_)))
  cases e <;> first | exact hq | skip
  obtain ⟨hd, n, hi⟩ := hq
  obtain ⟨t', d'⟩ := f'
  simp only at hd hi
  subst hd
  exact (key n t' st' hi).inv
end
end Go.Vm
