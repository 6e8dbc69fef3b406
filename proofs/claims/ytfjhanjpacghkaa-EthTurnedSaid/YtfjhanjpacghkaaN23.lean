/- Known functions that answer rows of texts; tables. -/
import Derived.Test.YtfjhanjpacghkaaN22
import Derived.Lib.LaidTab
set_option linter.unusedSimpArgs false
set_option linter.unusedVariables false
namespace Go.Vm
open Go Go.RowKit

theorem VRe_strs_mk {g : Ghost} : ∀ (l : List (List UInt8)), VRe g 1 (l.map .str) (l.map fun s => .string ⟨s.toArray⟩)
  | [] => rfl
  | s :: l => VRe_cons.2 ⟨[.string ⟨s.toArray⟩], _, rfl, rfl, rfl, ⟨_, rfl, rfl, rfl⟩, VRe_strs_mk l⟩

/-- A call that makes a row of texts, and answers it. -/
theorem AC_rows {C : Cfg} (hC : COk C) {k : FuncId} {args : List V} {st : St} {l : List (List UInt8)} {T : TypeId} (hf : ∃ fn, C.P.funcs[k]? = some fn ∧ fn.body.isSome = true)
    (h : ∀ (g : Ghost) (w : World) (args' : Array Value), (∀ B o u, g.st B o = some u → w.cell? ⟨B, o, none⟩ = some u) → (∀ i, VR g (C.glob i) (.pointer (some ⟨i, 0, none⟩))) → C.I w → VRl g args args'.toList →
      Calls C.P k args' w fun e w' => e = .returned (.slice (some ⟨w.heap.size, 0, none⟩) l.length l.length) ∧ w' = w.alloc (.cells (l.map fun s => Value.string ⟨s.toArray⟩).toArray T)) : AC C k args st (.sl .full (l.map .str)) st := by
  refine ⟨Nat.le_refl _, hf, fun g w0 base w args' hG hgl ha => (h g w args' hG.stab hgl.vr (hC.inv _ _ (fun k hk => hG.below.block k (Nat.lt_of_lt_of_le hk hgl.lo)) hgl.inv) ha).mono fun e w' ⟨he, hw⟩ => ?_⟩
  subst hw
  have hal := hG.alloc_row (l.map fun s => Value.string ⟨s.toArray⟩) #[] T (0, 0)
  rw [Array.append_empty] at hal
  refine ⟨_, g.withRow w.heap.size (l.map fun s => Value.string ⟨s.toArray⟩), he, ⟨hal.2, fun i _ => ⟨rfl, rfl⟩⟩, ?_, hal.1⟩
  refine ⟨some ⟨w.heap.size, 0, none⟩, l.length, l.map fun s => Value.string ⟨s.toArray⟩, 1, by rw [List.length_map], VRe_strs_mk l, ?_, ?_, fun _ => ⟨w.heap.size, 0, rfl, Ghost.row_withRow _ _⟩⟩
  · simp [TipR]
  · simp

/-- Arguments, one by one. -/
theorem VRl_one {g : Ghost} {x : V} {args' : Array Value} (h : VRl g [x] args'.toList) : ∃ v, args' = #[v] ∧ VR g x v := by
  obtain ⟨v, r, e, hv, rfl⟩ := h
  exact ⟨v, by cases args'; simp_all, hv⟩
theorem VRl_two {g : Ghost} {x y : V} {args' : Array Value} (h : VRl g [x, y] args'.toList) : ∃ v u, args' = #[v, u] ∧ VR g x v ∧ VR g y u := by
  obtain ⟨v, r, e, hv, u, r2, e2, hu, rfl⟩ := h
  subst e2
  exact ⟨v, u, by cases args'; simp_all, hv, hu⟩

/-- A table stands where its block is the same. -/
theorem tab_same {P : Program} {w w' : World} {name : String} {k : IntKind} {zs : List Int} {i : Nat} (hi : P.globalNamed name = some i) (hb : w'.heap[i]? = w.heap[i]?) (h : Lib.TabIs P w name k zs) : Lib.TabIs P w' name k zs := by
  unfold Lib.TabIs World.var? at h ⊢
  rw [hi] at h ⊢
  simp only [Option.bind_some] at h ⊢
  rw [hb]; exact h
end Go.Vm
