/-
  DERIVED. GIVEN WITH THE SEED: THE CARDS: each row of YtbooicchghnehaaGreatDoorRows.lean that lists a variable, with what it lists TIED to the program's text (the seventh form; the later family's looks); each row that meets fmt, with fmt's text TOLD by the authors' own Lean function (tested against real Go, not proved from fmt's source: count such statements apart). THE CARD IS WHAT COUNTS. Prove the row's statement (the work); the ties are given (YtbooicchghnehaaGreatDoorTie.lean); close each card by the builder's one call (the guide's Derived/Test/ToyasCard.lean, 'card_holds'). Laid BY PROGRAM, IN A SANDBOX (cutbox-door.mjs). By AI agents, Wed Nov 11 2026. No macro, syntax, notation, axiom, sorry.
-/
import Derived.Test.YtbooicchghnehaaGreatDoorRows
import GoSem.ClaimSeven
namespace Go.Proofs.YtbooicchghnehaaGreatDoor
namespace Rows

/-- THE TIED CARD OF 'skeinlaw18.NbdbNobody'. -/
def nbdbNobodyCard : Claim7 := { stood := { row := nbdbNobodyRow, standIns := [], harness := (true, "84c36981a5bda8da501dbb5fce4b104137de5657cf8c478123d0163912bdb54f"), looks := true }, kinds := [], alts := [], laidByText := true, laidKinds := [.data, .data, .data, .data, .sentinel, .sentinel, .listed, .data, .pinned], laidTests := true, laidLooks := .later }
def NbdbNobodyCardSaid : Prop := Claim7.holds Tryz.pinned (.plain (OpenSpec.ofChange nbdbNobodySpec)) nbdbNobodyCard

/-- THE SECOND FORM's CARD OF 'skeinlaw18.NbdbNobody'. -/
def nbdbNobodyUptoCard : Claim7 := { stood := { row := nbdbNobodyUptoRow, standIns := [], harness := (true, "84c36981a5bda8da501dbb5fce4b104137de5657cf8c478123d0163912bdb54f"), looks := true }, kinds := [], alts := [], laidByText := true, laidKinds := [.data, .data, .data, .data, .sentinel, .sentinel, .listed, .data, .pinned], laidTests := true, laidLooks := .later }
def NbdbNobodyUptoCardSaid : Prop := Claim7.holds Tryz.pinned (.plain (OpenSpec.upto nbdbNobodySpec)) nbdbNobodyUptoCard
end Rows
end Go.Proofs.YtbooicchghnehaaGreatDoor
