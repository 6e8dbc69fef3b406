/-
  DERIVED. GIVEN WITH THE SEED: THE CARDS: each row of YtgffpmhpmkmkeaaGreatDoorRows.lean that lists a variable, with what it lists TIED to the program's text (the seventh form; the later family's looks); each row that meets fmt, with fmt's text TOLD by the authors' own Lean function (tested against real Go, not proved from fmt's source: count such statements apart). THE CARD IS WHAT COUNTS. Prove the row's statement (the work); the ties are given (YtgffpmhpmkmkeaaGreatDoorTie.lean); close each card by the builder's one call (the guide's Derived/Test/ToyasCard.lean, 'card_holds'). Laid BY PROGRAM, IN A SANDBOX (cutbox-door.mjs). By AI agents, Wed Nov 11 2026. No macro, syntax, notation, axiom, sorry.
-/
import Derived.Test.YtgffpmhpmkmkeaaGreatDoorRows
import GoSem.ClaimSeven
namespace Go.Proofs.YtgffpmhpmkmkeaaGreatDoor
namespace Rows

/-- THE TIED CARD OF 'skeinlaw13.DpathNobody'. -/
def dpathNobodyCard : Claim7 := { stood := { row := dpathNobodyRow, standIns := [], harness := (true, "b391978879594d41f13997e6e1c1bdb0482654164048d74073f8a8e2cf601b00"), looks := false }, kinds := [], alts := [], laidByText := true, laidKinds := [.data, .data, .data], laidTests := true, laidLooks := .later }
def DpathNobodyCardSaid : Prop := Claim7.holds Tryz.pinned (.plain (OpenSpec.ofChange dpathNobodySpec)) dpathNobodyCard

/-- THE SECOND FORM's CARD OF 'skeinlaw13.DpathNobody'. -/
def dpathNobodyUptoCard : Claim7 := { stood := { row := dpathNobodyUptoRow, standIns := [], harness := (true, "b391978879594d41f13997e6e1c1bdb0482654164048d74073f8a8e2cf601b00"), looks := false }, kinds := [], alts := [], laidByText := true, laidKinds := [.data, .data, .data], laidTests := true, laidLooks := .later }
def DpathNobodyUptoCardSaid : Prop := Claim7.holds Tryz.pinned (.plain (OpenSpec.upto dpathNobodySpec)) dpathNobodyUptoCard
end Rows
end Go.Proofs.YtgffpmhpmkmkeaaGreatDoor
