/-
  DERIVED. GIVEN WITH THE SEED: THE CARDS: each row of YtklcmgodhpediaaGreatDoorRows.lean that lists a variable, with what it lists TIED to the program's text (the seventh form; the later family's looks); each row that meets fmt, with fmt's text TOLD by the authors' own Lean function (tested against real Go, not proved from fmt's source: count such statements apart). THE CARD IS WHAT COUNTS. Prove the row's statement (the work); the ties are given (YtklcmgodhpediaaGreatDoorTie.lean); close each card by the builder's one call (the guide's Derived/Test/ToyasCard.lean, 'card_holds'). Laid BY PROGRAM, IN A SANDBOX (cutbox-door.mjs). By AI agents, Wed Nov 11 2026. No macro, syntax, notation, axiom, sorry.
-/
import Derived.Test.YtklcmgodhpediaaGreatDoorRows
import GoSem.ClaimSeven
namespace Go.Proofs.YtklcmgodhpediaaGreatDoor
namespace Rows

/-- THE TIED CARD OF 'skeinlaw15.ExprPrints'. -/
def exprPrintsCard : Claim7 := { stood := { row := exprPrintsRow, standIns := [], harness := (true, "126006c880afcb78e9c615da75abb6c05b3a1eb85ae47a8b7b13dbb3bc15f97b"), looks := true }, kinds := [], alts := [], laidByText := true, laidKinds := [.data, .data, .data, .data, .sentinel, .sentinel, .listed, .data, .pinned], laidTests := true, laidLooks := .later }
def ExprPrintsCardSaid : Prop := Claim7.holds Tryz.pinned (.plain (OpenSpec.ofChange exprPrintsSpec)) exprPrintsCard

/-- THE TIED CARD OF 'skeinlaw15.ExprSets'. -/
def exprSetsCard : Claim7 := { stood := { row := exprSetsRow, standIns := [], harness := (true, "126006c880afcb78e9c615da75abb6c05b3a1eb85ae47a8b7b13dbb3bc15f97b"), looks := true }, kinds := [], alts := [], laidByText := true, laidKinds := [.data, .data, .data, .data, .sentinel, .sentinel, .listed, .data, .pinned], laidTests := true, laidLooks := .later }
def ExprSetsCardSaid : Prop := Claim7.holds Tryz.pinned (.plain (OpenSpec.ofChange exprSetsSpec)) exprSetsCard

/-- THE TIED CARD OF 'skeinlaw15.ExprHolds'. -/
def exprHoldsCard : Claim7 := { stood := { row := exprHoldsRow, standIns := [], harness := (true, "126006c880afcb78e9c615da75abb6c05b3a1eb85ae47a8b7b13dbb3bc15f97b"), looks := true }, kinds := [], alts := [], laidByText := true, laidKinds := [.data, .data, .data, .data, .sentinel, .sentinel, .listed, .data, .pinned], laidTests := true, laidLooks := .later }
def ExprHoldsCardSaid : Prop := Claim7.holds Tryz.pinned (.plain (OpenSpec.ofChange exprHoldsSpec)) exprHoldsCard

/-- THE TIED CARD OF 'skeinlaw15.ExprOne'. -/
def exprOneCard : Claim7 := { stood := { row := exprOneRow, standIns := [], harness := (true, "126006c880afcb78e9c615da75abb6c05b3a1eb85ae47a8b7b13dbb3bc15f97b"), looks := true }, kinds := [], alts := [], laidByText := true, laidKinds := [.data, .data, .data, .data, .sentinel, .sentinel, .listed, .data, .pinned], laidTests := true, laidLooks := .later }
def ExprOneCardSaid : Prop := Claim7.holds Tryz.pinned (.plain (OpenSpec.ofChange exprOneSpec)) exprOneCard

/-- THE SECOND FORM's CARD OF 'skeinlaw15.ExprPrints'. -/
def exprPrintsUptoCard : Claim7 := { stood := { row := exprPrintsUptoRow, standIns := [], harness := (true, "126006c880afcb78e9c615da75abb6c05b3a1eb85ae47a8b7b13dbb3bc15f97b"), looks := true }, kinds := [], alts := [], laidByText := true, laidKinds := [.data, .data, .data, .data, .sentinel, .sentinel, .listed, .data, .pinned], laidTests := true, laidLooks := .later }
def ExprPrintsUptoCardSaid : Prop := Claim7.holds Tryz.pinned (.plain (OpenSpec.upto exprPrintsSpec)) exprPrintsUptoCard

/-- THE SECOND FORM's CARD OF 'skeinlaw15.ExprSets'. -/
def exprSetsUptoCard : Claim7 := { stood := { row := exprSetsUptoRow, standIns := [], harness := (true, "126006c880afcb78e9c615da75abb6c05b3a1eb85ae47a8b7b13dbb3bc15f97b"), looks := true }, kinds := [], alts := [], laidByText := true, laidKinds := [.data, .data, .data, .data, .sentinel, .sentinel, .listed, .data, .pinned], laidTests := true, laidLooks := .later }
def ExprSetsUptoCardSaid : Prop := Claim7.holds Tryz.pinned (.plain (OpenSpec.upto exprSetsSpec)) exprSetsUptoCard

/-- THE SECOND FORM's CARD OF 'skeinlaw15.ExprHolds'. -/
def exprHoldsUptoCard : Claim7 := { stood := { row := exprHoldsUptoRow, standIns := [], harness := (true, "126006c880afcb78e9c615da75abb6c05b3a1eb85ae47a8b7b13dbb3bc15f97b"), looks := true }, kinds := [], alts := [], laidByText := true, laidKinds := [.data, .data, .data, .data, .sentinel, .sentinel, .listed, .data, .pinned], laidTests := true, laidLooks := .later }
def ExprHoldsUptoCardSaid : Prop := Claim7.holds Tryz.pinned (.plain (OpenSpec.upto exprHoldsSpec)) exprHoldsUptoCard

/-- THE SECOND FORM's CARD OF 'skeinlaw15.ExprOne'. -/
def exprOneUptoCard : Claim7 := { stood := { row := exprOneUptoRow, standIns := [], harness := (true, "126006c880afcb78e9c615da75abb6c05b3a1eb85ae47a8b7b13dbb3bc15f97b"), looks := true }, kinds := [], alts := [], laidByText := true, laidKinds := [.data, .data, .data, .data, .sentinel, .sentinel, .listed, .data, .pinned], laidTests := true, laidLooks := .later }
def ExprOneUptoCardSaid : Prop := Claim7.holds Tryz.pinned (.plain (OpenSpec.upto exprOneSpec)) exprOneUptoCard
end Rows
end Go.Proofs.YtklcmgodhpediaaGreatDoor
