/- Known functions, one by one. -/
import Derived.Test.YtfjhanjpacghkaaN27
set_option linter.unusedSimpArgs false
set_option linter.unusedVariables false
namespace Go.Vm
open Go Go.RowKit

/-- A call that leaves the memory as it is, by what it may answer. -/
theorem AC.ofFn {C C' : Cfg} (hP : C'.P = C.P) (hg : C'.glob = C.glob) (hI : C'.I = C.I) (hlo : C'.lo = C.lo) (hC : COk C) (hp : GlobPure C) (hX : XOk C) {k : FuncId} {args : List V} {st : St} {v : V} (h : Fn C k args st fun v1 st1 => v1 = v ∧ st1 = st) : AC C' k args st v st := by
  obtain ⟨h1, h2⟩ := h.ex hC hp hX
  refine ⟨Nat.le_refl _, by rw [hP]; exact h1, fun g w0 base w args' hG hgl ha => ?_⟩
  rw [hP]
  refine (h2 g w0 base w args' hG ⟨fun i => by rw [← hg]; exact hgl.vr i, by rw [← hI]; exact hgl.inv, by rw [← hlo]; exact hgl.lo⟩ ha).mono ?_
  rintro e w' ⟨v1, st1, v', g', ⟨rfl, rfl⟩, _, he, hext, hv, hG'⟩
  exact ⟨v', g', he, hext, hv, hG'⟩

theorem XOk.none {C : Cfg} (h : ∀ k args st, C.X k args st = none) : XOk C := fun k args st v st' hx => by rw [h] at hx; cases hx

/-- A slice of which nothing is known, held against nil. -/
theorem sNil {C : Cfg} {ops : Array Oper} {t : List (Nat × V)} {dd : List (V × List V)} {st : St} {Q : Fr → St → Prop} {d : Tmp} {type : TypeId} {pos : String} {after : Array Edge} {rest : List Oper} {op : BinOp} {ty e yt : TypeId} {x y : Operand} {tip : Tip} {xs : List V}
    (hu : C.P.underlying ty = some (.slice e)) (hx : evalO C ⟨t, dd⟩ x = .sl tip xs) (hy : isNilSl y = true) (ho : op = .eql ∨ op = .neq)
    (h : ∀ b, EvOps C ops rest ⟨tset t d (.bool b), dd⟩ st Q) : EvOps C ops ({ dst := some d, op := .binOp op ty x y yt, type := type, pos := pos, after := after, guard := none } :: rest) ⟨t, dd⟩ st Q := EvOps.nilSl hy hu ho hx h

/-- The cells of a value, one by one. -/
theorem cells_fn {n : Nat} (cs : List V) (h : cs.length = n) : ∃ f : Nat → V, cs = (List.range n).map f := by
  refine ⟨fun i => cs.getD i .any, ?_⟩
  subst h
  apply List.ext_getElem
  · simp
  · intro i h1 h2
    simp [h1]
end Go.Vm
