/- What holds of the world at a law's start; the arguments; the witness. -/
import Derived.Test.YtomkkdlfoellaaaDoorTxtV2
import Derived.Test.YtomkkdlfoellaaaDoorVm21
import Derived.Test.YtomkkdlfoellaaaDoorCards
import Derived.Test.YtomkkdlfoellaaaDoorTie
import Derived.WalkKit
import Derived.ProofKit
import Derived.OpenShut
import Derived.Lay
import Derived.Shelf.Vars
import Derived.Deep.DeepHandedRow
import Derived.Lib.LaidTab
import Derived.LaidSub
import Derived.SevenTiedAt
set_option linter.unusedSimpArgs false
set_option linter.unusedVariables false
set_option maxRecDepth 100000
namespace Go.Proofs.YtomkkdlfoellaaaDoor
open Go Go.Vm Go.Proofs Go.ChangeShapes Go.RowKit

theorem own : ownKnob Tryd.prog.godebug = none := by kernel_rfl
theorem laid_ok : laidOutB Tryd.prog = true := by kernel_rfl
theorem tys_ok : tysOk Tryd.prog [9, 22, 23] = true := by decide +kernel

/-- What all four rows list. -/
def laidL : List (String × DataW Unit) := Rows.ethTextsUptoRow.laid
theorem laid_plain {W : World} (h : laidMetH Tryd.prog laidL W) : laidMet Tryd.prog laidL W := by
  have e : laidL.filter (fun x => x.2.handleName?.isSome) = [] := by kernel_rfl
  unfold laidMetH at h
  rw [e] at h
  exact h
theorem laid_one {W : World} (h : laidMetH Tryd.prog laidL W) (name : String) {d : DataW Unit} (e : laidL.filter (fun x => x.1 == name) = [(name, d)]) : laidMet Tryd.prog [(name, d)] W := by
  have := (laid_plain h).filter (fun x => x.1 == name)
  rw [e] at this
  exact this
theorem errAt_of {W : World} {name n : String} {d : DataW Unit} {g : Nat} (h : laidMet Tryd.prog [(name, .iface n d)] W) (hg : Tryd.prog.globalNamed name = some g) (hty : (Tryd.prog.globals[g]?).map (·.type) = some 36) : errAt W g := by
  obtain ⟨ps, ⟨g', t', cs, fuel, p, q, hg', ht', hvar, hd, _, _⟩, _⟩ := h
  obtain rfl := Option.some.inj (hg.symm.trans hg')
  obtain rfl := Option.some.inj (hty.symm.trans ht')
  have hc := World.var?_cell hg hvar 0
  cases fuel with
  | zero => simp [DataW.trod] at hd
  | succ fuel =>
    simp only [DataW.trod, Tryd.underlying36] at hd
    split at hd
    all_goals first
      | (cases hd; done)
      | (rename_i h1 h2; cases h1; done)
      | (rename_i h1; cases h1; done)
      | (rename_i u v h1 h2; refine .inr ⟨u, v, ?_⟩; rw [hc, ← Array.getElem?_toList, h2]; rfl)
      | (rename_i h1 h2; refine .inl ?_; rw [hc, ← Array.getElem?_toList, h2]; rfl)
theorem inv_of {W : World} (h : laidMetH Tryd.prog laidL W) (hs : W.ShapedOpen Tryd.prog) : cx.I W ∧ cx.lo ≤ W.heap.size := by
  have t2 : Lib.TabIs Tryd.prog W "internal/strconv.uint64pow10" .u64 Lib.pow10Tab :=
    Lib.tabIs_of_head (rest := []) (g := 3) (t := 90) (e := 22) (n := 20) (by kernel_rfl) (by kernel_rfl) (by kernel_rfl) Tryd.underlying22 (by kernel_rfl) (by kernel_rfl) (laid_one h "internal/strconv.uint64pow10" (by kernel_rfl))
  have e3 : errAt W 0 := errAt_of (laid_one h "strconv.ErrSyntax" (d := Rows.laid_strconv_ErrSyntax) (by kernel_rfl)) (by kernel_rfl) (by kernel_rfl)
  have e4 : errAt W 1 := errAt_of (laid_one h "strconv.ErrRange" (d := Rows.laid_strconv_ErrRange) (by kernel_rfl)) (by kernel_rfl) (by kernel_rfl)
  obtain ⟨m, hm⟩ := cell_of_shapedOpen_int (P := Tryd.prog) (g := 2) (t := 3) (zero := #[.int .i64 0]) hs (of_decide_eq_true (by kernel_rfl)) (by kernel_rfl) rfl (by kernel_rfl) (by kernel_rfl) Tryd.underlying3
  refine ⟨⟨t2, e3, e4, m, hm⟩, ?_⟩
  have hc := t2.cell (g := 3) (by kernel_rfl) 0 (by decide)
  have : 3 < W.heap.size := lt_of_cell hc
  exact this

/-- A text that comes in. -/
theorem arg_str {n r : Nat} {cs : List V} (h : Wf Tryd.prog r n 9 cs) : ∃ s : List UInt8, packE Tryd.prog 9 cs = .str s ∧ s.length ≤ r := by
  cases n with
  | zero => exact h.elim
  | succ n =>
    simp only [Wf, Tryd.underlying9] at h
    obtain ⟨s, rfl, h1, h2⟩ := h
    exact ⟨s, by simp only [packE, Tryd.underlying9]; rfl, h2⟩

/-- The world that a call may meet. -/
noncomputable def startW (os : Os) : World := World.laidAll Tryd.prog os laidL
theorem start_shaped (os : Os) (args : Array Value) (hv : ((startW os).forCall (fun _ _ => 0) ⟨#[], args, []⟩).variablesZipB Tryd.prog = true)
    (hr : ((((startW os).forCall (fun _ _ => 0) ⟨#[], args, []⟩)).heap.toList.drop Tryd.prog.globals.size).take ((begin Tryd.prog (fun _ _ => 0) default).world.heap.size - Tryd.prog.globals.size) = (begin Tryd.prog (fun _ _ => 0) default).world.heap.toList.drop Tryd.prog.globals.size) :
    ((startW os).forCall (fun _ _ => 0) ⟨#[], args, []⟩).Shaped Tryd.prog := World.shaped_of_ZipB hv hr
theorem start_laid (os : Os) (args : Array Value) : laidMet Tryd.prog laidL ((startW os).forCall (fun _ _ => 0) ⟨#[], args, []⟩).memory := laidMet_laidAll _ (by kernel_rfl) (by kernel_rfl)
end Go.Proofs.YtomkkdlfoellaaaDoor
