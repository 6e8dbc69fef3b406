/- What holds of the world at a law's start. -/
import Derived.Test.YtklcmgodhpediaaGreatDoorExSD
import Derived.Test.YtklcmgodhpediaaGreatDoorExV2
import Derived.Test.YtklcmgodhpediaaGreatDoorN18
import Derived.Test.YtklcmgodhpediaaGreatDoorCards
import Derived.Test.YtklcmgodhpediaaGreatDoorTie
import Derived.WalkKit
import Derived.ProofKit
import Derived.OpenShut
import Derived.Lay
import Derived.Shelf.Vars
import Derived.Deep.DeepHandedRow
import Derived.Lib.LaidTab
import Derived.LaidSub
import Derived.SevenTiedAt
set_option linter.unusedSimpArgs false
set_option linter.unusedVariables false
set_option maxRecDepth 1000000
namespace Go.Proofs.YtklcmgodhpediaaGreatDoor
open Go Go.Vm Go.Proofs Go.ChangeShapes Go.RowKit

def laidX : List (String × DataW Unit) := Rows.exprHoldsRow.laid
theorem laidX_plain {W : World} (h : laidMetH Tryz.prog laidX W) : laidMet Tryz.prog laidX W := by
  have e : laidX.filter (fun x => x.2.handleName?.isSome) = [] := by kernel_rfl
  unfold laidMetH at h
  rw [e] at h
  exact h
theorem laidX_one {W : World} (h : laidMetH Tryz.prog laidX W) (name : String) {d : DataW Unit} (e : laidX.filter (fun x => x.1 == name) = [(name, d)]) : laidMet Tryz.prog [(name, d)] W := by
  have := (laidX_plain h).filter (fun x => x.1 == name)
  rw [e] at this
  exact this
theorem errAt_of {W : World} {name n : String} {d : DataW Unit} {g : Nat} (h : laidMet Tryz.prog [(name, .iface n d)] W) (hg : Tryz.prog.globalNamed name = some g) (hty : (Tryz.prog.globals[g]?).map (·.type) = some 109) : errAt W g := by
  obtain ⟨ps, ⟨g', t', cs, fuel, p, q, hg', ht', hvar, hd, _, _⟩, _⟩ := h
  obtain rfl := Option.some.inj (hg.symm.trans hg')
  obtain rfl := Option.some.inj (hty.symm.trans ht')
  have hc := World.var?_cell hg hvar 0
  cases fuel with
  | zero => simp [DataW.trod] at hd
  | succ fuel =>
    simp only [DataW.trod, Tryz.underlying109] at hd
    split at hd
    all_goals first
      | (cases hd; done)
      | (rename_i h1 h2; cases h1; done)
      | (rename_i h1; cases h1; done)
      | (rename_i u v h1 h2; refine .inr ⟨u, v, ?_⟩; rw [hc, ← Array.getElem?_toList, h2]; rfl)
      | (rename_i h1 h2; refine .inl ?_; rw [hc, ← Array.getElem?_toList, h2]; rfl)
theorem inv_of {W : World} (h : laidMetH Tryz.prog laidX W) (hs : W.ShapedOpen Tryz.prog) : cx.I W ∧ cx.lo ≤ W.heap.size := by
  have t1 : Lib.TabIs Tryz.prog W "strings.asciiSpace" .u8 Lib.asciiSpaceTab :=
    Lib.tabIs_of_head (rest := []) (g := 0) (t := 132) (e := 5) (n := 256) (by kernel_rfl) (by kernel_rfl) (by kernel_rfl) Tryz.underlying5 (by kernel_rfl) (by kernel_rfl) (laidX_one h "strings.asciiSpace" (by kernel_rfl))
  have t2 : Lib.TabIs Tryz.prog W "internal/strconv.uint64pow10" .u64 Lib.pow10Tab :=
    Lib.tabIs_of_head (rest := []) (g := 5) (t := 196) (e := 22) (n := 20) (by kernel_rfl) (by kernel_rfl) (by kernel_rfl) Tryz.underlying22 (by kernel_rfl) (by kernel_rfl) (laidX_one h "internal/strconv.uint64pow10" (by kernel_rfl))
  have t3 : Lib.TabIs Tryz.prog W "math/bits.deBruijn64tab" .u8 deB :=
    Lib.tabIs_of_head (rest := []) (g := 7) (t := 212) (e := 5) (n := 64) (by kernel_rfl) (by kernel_rfl) (by kernel_rfl) Tryz.underlying5 (by kernel_rfl) (by kernel_rfl) (laidX_one h "math/bits.deBruijn64tab" (by kernel_rfl))
  have e3 : errAt W 3 := errAt_of (laidX_one h "strconv.ErrSyntax" (d := Rows.laid_strconv_ErrSyntax) (by kernel_rfl)) (by kernel_rfl) (by kernel_rfl)
  have e4 : errAt W 4 := errAt_of (laidX_one h "strconv.ErrRange" (d := Rows.laid_strconv_ErrRange) (by kernel_rfl)) (by kernel_rfl) (by kernel_rfl)
  obtain ⟨m, hm⟩ := cell_of_shapedOpen_int (P := Tryz.prog) (g := 1) (t := 3) (zero := #[.int .i64 0]) hs (of_decide_eq_true (by kernel_rfl)) (by kernel_rfl) rfl (by kernel_rfl) (by kernel_rfl) Tryz.underlying3
  refine ⟨⟨t1, t2, t3, e3, e4, m, hm⟩, ?_⟩
  have hc := t3.cell (g := 7) (by kernel_rfl) 0 (by decide)
  have : 7 < W.heap.size := lt_of_cell hc
  exact this
end Go.Proofs.YtklcmgodhpediaaGreatDoor
