/- Loops by a label. -/
import Derived.Test.YtfjhanjpacghkaaN23
set_option linter.unusedSimpArgs false
set_option linter.unusedVariables false
namespace Go.Vm
open Go Go.RowKit

section
variable {C : Cfg} {f : Fr} {st : St} {Q : Ex → Fr → St → Prop}

/-- Code, piece behind piece. -/
def EvLd (C : Cfg) : List Code → Fr → St → (Ex → Fr → St → Prop) → Prop
  | [], f, st, Q => Q .normal f st
  | c :: l, f, st, Q => Ev C c f st (Nx (fun f' st' => EvLd C l f' st' Q) Q)
structure EvL (C : Cfg) (l : List Code) (f : Fr) (st : St) (Q : Ex → Fr → St → Prop) : Prop where
  ex : EvLd C l f st Q

theorem EvL.nil (h : Q .normal f st) : EvL C [] f st Q := ⟨h⟩
theorem EvL.cons {c : Code} {l : List Code} (h : Ev C c f st (Nx (fun f' st' => EvL C l f' st' Q) Q)) : EvL C (c :: l) f st Q :=
  ⟨h.mono fun e f' st' hq => by cases e <;> first | exact hq | exact hq.ex⟩

theorem EvLd.mono : ∀ {l : List Code} {f : Fr} {st : St} {Q Q' : Ex → Fr → St → Prop}, EvLd C l f st Q → (∀ e f' st', Q e f' st' → Q' e f' st') → EvLd C l f st Q'
  | [], f, st, Q, Q', h, hq => hq _ _ _ h
  | c :: l, f, st, Q, Q', h, hq => Ev.mono h fun e f' st' h' => by
    cases e <;> first | exact hq _ _ _ h' | exact EvLd.mono h' hq

theorem EvLd.append : ∀ {l m : List Code} {f : Fr} {st : St} {Q : Ex → Fr → St → Prop}, EvLd C l f st (Nx (fun f' st' => EvLd C m f' st' Q) Q) → EvLd C (l ++ m) f st Q
  | [], m, f, st, Q, h => h
  | c :: l, m, f, st, Q, h => Ev.mono h fun e f' st' h' => by
    cases e <;> first | exact h' | exact EvLd.append h'
theorem EvLd.split : ∀ {l m : List Code} {f : Fr} {st : St} {Q : Ex → Fr → St → Prop}, EvLd C (l ++ m) f st Q → EvLd C l f st (Nx (fun f' st' => EvLd C m f' st' Q) Q)
  | [], m, f, st, Q, h => h
  | c :: l, m, f, st, Q, h => Ev.mono h fun e f' st' h' => by
    cases e <;> first | exact h' | exact EvLd.split h'

/-- The pieces of code. -/
def flat : Code → List Code
  | .seq a b => flat a ++ flat b
  | c => [c]

theorem ev_flat : ∀ {c : Code} {f : Fr} {st : St} {Q : Ex → Fr → St → Prop}, EvLd C (flat c) f st Q → Ev C c f st Q := by
  intro c
  induction c with
  | seq a b iha ihb =>
    intro f st Q h
    refine Ev.seq ((iha (EvLd.split h)).mono fun e f' st' hq => ?_)
    cases e <;> first | exact hq | exact ihb hq
  | _ => intro f st Q h; exact Ev.mono h fun e f' st' hq => by cases e <;> exact hq

/-- The pieces ahead of a label, and behind it. -/
def preL (l : Nat) : List Code → List Code
  | [] => []
  | .label l' :: r => if l' = l then [] else .label l' :: preL l r
  | c :: r => c :: preL l r
def postL (l : Nat) : List Code → List Code
  | [] => []
  | .label l' :: r => if l' = l then r else postL l r
  | _ :: r => postL l r

theorem scope_loop {b rest : Code} {l : Nat} {t : List (Nat × V)} (hf : findLabel b l = some rest) (hp : flat b = preL l (flat b) ++ .label l :: postL l (flat b)) (hr : flat rest = .skip :: postL l (flat b)) (Inv : Nat → List (Nat × V) → St → Prop)
    (start : EvL C (preL l (flat b)) ⟨t, []⟩ st (Nx (fun f' st' => f'.d = [] ∧ ∃ n, Inv n f'.t st') (Gx (Jx C b Q) Q)))
    (step : ∀ n t st, Inv n t st → (∀ t' st', (∃ m, m < n ∧ Inv m t' st') → EvS C b rest ⟨t', []⟩ st' Q) → EvL C (postL l (flat b)) ⟨t, []⟩ st (Gx (Jx C b Q) Q)) : Ev C (.scope b) ⟨t, []⟩ st Q := by
  have toS : ∀ t st, EvL C (postL l (flat b)) ⟨t, []⟩ st (Gx (Jx C b Q) Q) → EvS C b rest ⟨t, []⟩ st Q := fun t st h => by
    refine EvS.of (ev_flat ?_)
    rw [hr]
    exact Ev.skip h.ex
  have key : ∀ n t st, Inv n t st → EvL C (postL l (flat b)) ⟨t, []⟩ st (Gx (Jx C b Q) Q) := by
    intro n
    induction n using Nat.strongRecOn with
    | _ n ih =>
      intro t st hi
      exact step n t st hi fun t' st' ⟨m, hm, hi'⟩ => toS t' st' (ih m hm t' st' hi')
  refine Ev.scope (EvS.of (ev_flat ?_))
  rw [hp]
  refine EvLd.append (start.ex.mono fun e f' st' hq => ?_)
  cases e <;> first | exact hq | skip
  obtain ⟨hd, n, hi⟩ := hq
  obtain ⟨t', d'⟩ := f'
  simp only at hd hi
  subst hd
  exact Ev.label (key n t' st' hi).ex
end
end Go.Vm
