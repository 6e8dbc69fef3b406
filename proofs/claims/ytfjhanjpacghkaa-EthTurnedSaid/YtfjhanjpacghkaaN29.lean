/- Memory that is written no more; contracts of one configuration in another. -/
import Derived.Test.YtfjhanjpacghkaaN28
set_option linter.unusedSimpArgs false
set_option linter.unusedVariables false
namespace Go.Vm
open Go Go.RowKit
section
variable {C : Cfg} {c : Code} {f : Fr} {st : St} {Q : Ex → Fr → St → Prop}

/-- A contract speaks of the program and its variables alone. -/
theorem Fn.tr {C C' : Cfg} {k : FuncId} {args : List V} {st : St} {Q : V → St → Prop} (h : Fn C k args st Q) (hc : COk C) (hp : GlobPure C) (hx : XOk C) (e1 : C'.P = C.P) (e2 : C'.glob = C.glob) (e3 : C'.I = C.I) (e4 : C'.lo = C.lo) : Fn C' k args st Q :=
  ⟨fun _ _ _ => by
    obtain ⟨a, b⟩ := h.ex hc hp hx
    refine ⟨by rw [e1]; exact a, fun g w0 base w args' hg hgl ha => ?_⟩
    rw [e1]
    exact b g w0 base w args' hg ⟨fun i => by rw [← e2]; exact hgl.vr i, by rw [← e3]; exact hgl.inv, by rw [← e4]; exact hgl.lo⟩ ha⟩

/-- A frame, all of whose own memory is frozen. -/
def frzF (n0 : Nat) (H : List (Nat × Ob)) (t : List (Nat × V)) : List (Nat × V) := t.map fun p => (p.1, frz n0 H 1 p.2)
theorem tget_frzF (n0 : Nat) (H : List (Nat × Ob)) : ∀ (t : List (Nat × V)) (i : Nat), tget (frzF n0 H t) i = frz n0 H 1 (tget t i)
  | [], i => rfl
  | (j, v) :: r, i => by
    simp only [frzF, List.map_cons, tget]
    split
    · rfl
    · exact tget_frzF n0 H r i

theorem Ev.freeze (n0 : Nat) (H' : List (Nat × Ob)) (hs : H'.Sublist st.H) (hp : ∀ p ∈ H', p.1 < n0 ∨ ∃ sz, p.2 = .tip sz) (h : Ev C c ⟨frzF n0 st.H f.t, f.d⟩ ⟨H', st.n⟩ Q) : Ev C c f st Q :=
  ⟨fun hC hP hX N w0 base g w a hc hG hgl hf hN => by
    obtain ⟨h1, h2, h3⟩ := hG.freeze n0
    have := h.ex hC hP hX hc (h3 H' hs hp) (hgl.mono h1) ⟨fun i => by rw [tget_frzF]; exact VR.frz h1 h2 1 _ _ (hf.t i), hf.d.mono h1⟩ hN
    exact wp_mono this fun x a w hx => hx.up ⟨h1, fun i _ => ⟨rfl, rfl⟩⟩ (Nat.le_refl _)⟩
theorem EvOps.freeze {ops : Array Oper} {l : List Oper} {Q : Fr → St → Prop} (n0 : Nat) (H' : List (Nat × Ob)) (hs : H'.Sublist st.H) (hp : ∀ p ∈ H', p.1 < n0 ∨ ∃ sz, p.2 = .tip sz) (h : EvOps C ops l ⟨frzF n0 st.H f.t, f.d⟩ ⟨H', st.n⟩ Q) : EvOps C ops l f st Q :=
  ⟨fun hC hP hX N w0 base g w a hc hd hG hgl hf hN R hR => by
    obtain ⟨h1, h2, h3⟩ := hG.freeze n0
    refine h.ex hC hP hX hc hd (h3 H' hs hp) (hgl.mono h1) ⟨fun i => by rw [tget_frzF]; exact VR.frz h1 h2 1 _ _ (hf.t i), hf.d.mono h1⟩ hN R fun f' st' g' a' w' q1 q2 q3 q4 q5 q6 => ?_
    exact hR f' st' g' a' w' q1 q2 (Ext.trans ⟨h1, fun i _ => ⟨rfl, rfl⟩⟩ q3 (Nat.le_refl _)) q4 q5 q6⟩
end
end Go.Vm
