/- The law of a nil program, of the program. -/
import Derived.Test.YtgffpmhpmkmkeaaGreatDoorDnV2
import Derived.Test.YtgffpmhpmkmkeaaGreatDoorN21
import Derived.Test.YtgffpmhpmkmkeaaGreatDoorCards
import Derived.Test.YtgffpmhpmkmkeaaGreatDoorTie
import Derived.WalkKit
import Derived.ProofKit
import Derived.OpenShut
import Derived.Lay
import Derived.Shelf.Vars
import Derived.Deep.DeepHandedRow
import Derived.Lib.LaidTab
import Derived.LaidSub
import Derived.SevenTiedAt
set_option linter.unusedSimpArgs false
set_option linter.unusedVariables false
set_option maxRecDepth 1000000
namespace Go.Proofs.YtgffpmhpmkmkeaaGreatDoor
open Go Go.Vm Go.Proofs Go.ChangeShapes Go.RowKit

theorem cat_length {P : Program} {F : TypeId → List V → Prop} : ∀ {ts : List TypeId} {vs : List V}, Cat P F ts vs → vs.length = (ts.map P.cellsOf).sum
  | [], vs, h => by obtain rfl : vs = [] := h; rfl
  | t :: ts, vs, h => by
    obtain ⟨a, b, rfl, h1, _, h2⟩ := h
    simp only [List.length_append, h1, cat_length h2, List.map_cons, List.sum_cons]
theorem arg_state {n r : Nat} {cs : List V} (h : Wf Tryz.prog r n 39 cs) : ∃ f : Nat → V, packE Tryz.prog 39 cs = .agg ((List.range 49).map f) := by
  cases n with
  | zero => exact h.elim
  | succ n =>
    simp only [Wf, Tryz.underlying39] at h
    have hl := cat_length h
    have hs : cs.length = 49 := hl.trans (by kernel_rfl)
    obtain ⟨f, hf⟩ := cells_fn cs hs
    refine ⟨f, ?_⟩
    simp only [packE, Tryz.underlying39, isAggT, if_true]
    rw [hf]
theorem nobody_law : ∀ avs, WfA cy.P reachBytes Tryz.f3.params.toList avs → Vm.Fn cy 3 avs ⟨[], 0⟩ (fun v _ => v = .bool true) := by
  intro avs h
  obtain ⟨n, cs, r, rfl, h1, n2, cs2, r2, rfl, h2, n3, cs3, r3, rfl, h3, h4⟩ := h
  obtain rfl : r3 = [] := h4
  obtain ⟨f, e⟩ := arg_state h2
  have e : packE cy.P 39 cs2 = .agg ((List.range 49).map f) := e
  show Vm.Fn cy 3 [packE cy.P 22 cs, packE cy.P 39 cs2, packE cy.P 3 cs3] _ _
  rw [e]
  have hr := law_run (packE cy.P 22 cs) (packE cy.P 3 cs3) f
  cases hc : callF cy 400 3 [packE cy.P 22 cs, .agg ((List.range 49).map f), packE cy.P 3 cs3] ⟨[], 0⟩ with
  | none => rw [hc] at hr; cases hr
  | some p =>
    rw [hc] at hr
    exact Fn.ofF hc (Option.some.inj hr)

theorem own : ownKnob Tryz.prog.godebug = none := by kernel_rfl
theorem laid_ok : laidOutB Tryz.prog = true := by kernel_rfl
theorem tys_ok : tysOk Tryz.prog [22, 76, 3, 74, 109, 23, 62, 89, 85, 142, 26, 87, 39, 34, 25, 4, 28, 30, 9, 32, 35, 37] = true := by decide +kernel
/-- What the row lists. -/
def laidL : List (String × DataW Unit) := Rows.dpathNobodyRow.laid
/-- The world that a call may meet. -/
noncomputable def startW (os : Os) : World := World.laidAll Tryz.prog os laidL
theorem start_shaped (os : Os) (args : Array Value) (hv : ((startW os).forCall (fun _ _ => 0) ⟨#[], args, []⟩).variablesZipB Tryz.prog = true)
    (hr : ((((startW os).forCall (fun _ _ => 0) ⟨#[], args, []⟩)).heap.toList.drop Tryz.prog.globals.size).take ((begin Tryz.prog (fun _ _ => 0) default).world.heap.size - Tryz.prog.globals.size) = (begin Tryz.prog (fun _ _ => 0) default).world.heap.toList.drop Tryz.prog.globals.size) :
    ((startW os).forCall (fun _ _ => 0) ⟨#[], args, []⟩).Shaped Tryz.prog := World.shaped_of_ZipB hv hr
theorem start_laid (os : Os) (args : Array Value) : laidMet Tryz.prog laidL ((startW os).forCall (fun _ _ => 0) ⟨#[], args, []⟩).memory := laidMet_laidAll _ (by kernel_rfl) (by kernel_rfl)
def args0 : Array Value := #[.slice none 0 0, .agg #[.int .u64 0, .int .u64 0, .bool false, .int .i64 0, .int .i64 0, .bool false, .int .i64 0, .int .u64 0, .int .u32 0, .int .u64 0, .int .u32 0, .bool false, .int .i64 0, .int .i64 0, .int .i64 0, .int .i64 0, .int .i64 0, .int .u32 0, .int .u32 0, .string ⟨#[]⟩, .int .i64 0, .int .i64 0, .int .i64 0, .int .u32 0, .int .i64 0, .int .i64 0, .bool false, .int .u32 0, .int .u32 0, .int .i64 0, .int .i64 0, .int .i64 0, .string ⟨#[]⟩, .string ⟨#[]⟩, .string ⟨#[]⟩, .string ⟨#[]⟩, .int .i64 0, .int .i64 0, .int .i64 0, .int .i64 0, .int .u32 0, .int .u32 0, .int .u32 0, .int .u32 0, .int .i64 0, .int .u32 0, .int .u32 0, .int .i64 0, .int .i64 0], .int .i64 0]

theorem law_lifted (os : Os) (started : os.Started) (H : Type) (enc : TypeId × Value → H) (F : Stop.Interp) :
    ReturnsInHanded {} Tryz.checked os 3 .any ((OpenSpec.ofChange Rows.dpathNobodySpec).preRow enc Tryz.prog Tryz.f3 Rows.dpathNobodyRow.domain false Rows.dpathNobodyRow.laid) (((OpenSpec.ofChange Rows.dpathNobodySpec).at F).post enc Tryz.prog Tryz.f3 false true false false) := by
  have hx : ∃ places, DataW.whole enc Tryz.prog ((startW os).forCall (fun _ _ => 0) ⟨#[], args0, []⟩).memory Tryz.f3.params.toList Rows.dpathNobodySpec.vars false args0.toList 12 = some ([.nil, (.agg [(.agg [(.agg [(.lit (.int .u64 0)), (.lit (.int .u64 0)), (.lit (.bool .false)), (.lit (.int .i64 0)), (.lit (.int .i64 0))]), (.lit (.bool .false)), (.agg [(.lit (.int .i64 0)), (.lit (.int .u64 0)), (.lit (.int .u32 0)), (.lit (.int .u64 0)), (.lit (.int .u32 0))]), (.lit (.bool .false)), (.agg [(.lit (.int .i64 0)), (.lit (.int .i64 0)), (.lit (.int .i64 0)), (.lit (.int .i64 0)), (.lit (.int .i64 0)), (.lit (.int .u32 0)), (.lit (.int .u32 0)), (.lit (.string []))]), (.agg [(.lit (.int .i64 0)), (.lit (.int .i64 0)), (.lit (.int .i64 0)), (.lit (.int .u32 0)), (.lit (.int .i64 0)), (.lit (.int .i64 0)), (.lit (.bool .false)), (.lit (.int .u32 0)), (.lit (.int .u32 0)), (.lit (.int .i64 0)), (.lit (.int .i64 0)), (.lit (.int .i64 0)), (.lit (.string [])), (.lit (.string []))]), (.lit (.string [])), (.lit (.string []))]), (.lit (.int .i64 0)), (.lit (.int .i64 0)), (.lit (.int .i64 0)), (.lit (.int .i64 0)), (.agg [(.lit (.int .u32 0)), (.lit (.int .u32 0)), (.lit (.int .u32 0)), (.lit (.int .u32 0))]), (.agg [(.lit (.int .i64 0)), (.lit (.int .u32 0)), (.lit (.int .u32 0)), (.lit (.int .i64 0)), (.lit (.int .i64 0))])]), (.lit (.int .i64 0))], [], places) := ⟨[], by kernel_rfl⟩
  obtain ⟨places, hx⟩ := hx
  have hok : Input.okWideB Tryz.prog ((startW os).forCall (fun _ _ => 0) ⟨#[], args0, []⟩) 3 ⟨#[], args0, []⟩ = true := by kernel_rfl
  refine returnsInHanded_of_row (C := Tryz.checked) (s := (OpenSpec.ofChange Rows.dpathNobodySpec)) own started (by kernel_rfl) Tryz.func3
    ⟨startW os, fun _ _ => 0, ⟨#[], args0, []⟩, World.laidAll_os _ _ _, start_shaped os _ (by kernel_rfl) (by kernel_rfl), (Input.okWide_of_okWideB (base := 0) hok).1, (Input.okWide_of_okWideB hok).2,
      OpenSpec.preRow_of_cond 12 hx (by kernel_rfl) (fun k hk => by cases hk) (by kernel_rfl) (start_laid os _), by simp only [Assume.holds]; exact ⟨by simp, by simp, fun _ => Modest.zero, by simp, by simp⟩⟩ ?_
  intro W base args ds gs before hval hW _ hcond hw hL hsh _
  exact law_contract (C := cy) cy_ok cy_glob cy_x (T := [22, 76, 3, 74, 109, 23, 62, 89, 85, 142, 26, 87, 39, 34, 25, 4, 28, 30, 9, 32, 35, 37]) tys_ok (by decide +kernel) laid_ok (by kernel_rfl) rfl (tb := 4) (by kernel_rfl) Tryz.underlying4
    (fun ds hd => match ds, hd with | [d1, d2, d3], _ => rfl) (fun avs h hb => nobody_law avs h) hval hW hw (Nat.le_refl _) ⟨fun i => trivial, trivial, Nat.zero_le _⟩

theorem law_said : Rows.DpathNobodySaid :=
  OpenClaim.holds_of_cond 3 Tryz.f3 rfl rfl rfl rfl rfl rfl rfl ⟨rfl, rfl, rfl, rfl, rfl⟩ rfl rfl rfl rfl rfl (by kernel_rfl) Tryz.func3 (by kernel_rfl)
    (of_decide_eq_true (by kernel_rfl)) (by unfold Func.isWrapper; first | (rw [if_pos (by decide +kernel)]; kernel_rfl) | (rw [if_neg (by decide +kernel)]; exact ⟨rfl, rfl⟩))
    (fun os started H enc _ F => by rw [OpenClaim.pre_eq_preRow]; exact law_lifted os started H enc F)

theorem law_plain (f : FuncId) (fn : Func) (hf : Tryz.pinned.checked.prog.funcNamed "skein/skeinlaw13.DpathNobody" = some f) (hfn : Tryz.pinned.checked.prog.funcs[f]? = some fn) :
    false = Tryz.pinned.checked.prog.looks [] ∧ ∀ (j : Nat) t, fn.params[j]? = some t → Tryz.pinned.checked.prog.wantsStandIn t = false := by
  obtain rfl : f = 3 := Option.some.inj ((show Tryz.prog.funcNamed "skein/skeinlaw13.DpathNobody" = some 3 by kernel_rfl).symm.trans hf) |>.symm
  obtain rfl : fn = Tryz.f3 := (Option.some.inj (Tryz.func3.symm.trans hfn)).symm
  refine ⟨by kernel_rfl, fun j t ht => ?_⟩
  rw [Tryz.params3] at ht
  have hm : t ∈ [22, 76, 3, 74, 109, 23, 62, 89, 85, 142, 26, 87, 39, 34, 25, 4, 28, 30, 9, 32, 35, 37] := by
    have := Array.mem_of_getElem? ht
    simp at this
    rcases this with e | e | e <;> (rw [e]; decide +kernel)
  have hall : ([22, 76, 3, 74, 109, 23, 62, 89, 85, 142, 26, 87, 39, 34, 25, 4, 28, 30, 9, 32, 35, 37].all fun u => !Tryz.prog.wantsStandIn u) = true := by kernel_rfl
  exact (show Tryz.prog.wantsStandIn t = false by simpa using List.all_eq_true.1 hall t hm)

/-- The card of the law. -/
theorem nobody_holds : Rows.DpathNobodyCardSaid :=
  Claim7.holds_tied_plain_at .later [] _ _ _ _ law_said (fun _ h => by cases h) (by kernel_rfl) (fun _ h => by cases h) dpathNobody_row_tie rfl ⟨rfl, rfl⟩ (by kernel_rfl) rfl law_plain (by kernel_rfl)
#print axioms nobody_holds
end Go.Proofs.YtgffpmhpmkmkeaaGreatDoor
