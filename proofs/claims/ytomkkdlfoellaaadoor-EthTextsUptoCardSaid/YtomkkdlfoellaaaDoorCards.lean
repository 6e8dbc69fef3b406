/-
  DERIVED. GIVEN WITH THE SEED: THE CARDS: each row of YtomkkdlfoellaaaDoorRows.lean that lists a variable, with what it lists TIED to the program's text (the seventh form; the later family's looks); each row that meets fmt, with fmt's text TOLD by the authors' own Lean function (tested against real Go, not proved from fmt's source: count such statements apart). THE CARD IS WHAT COUNTS. Prove the row's statement (the work); the ties are given (YtomkkdlfoellaaaDoorTie.lean); close each card by the builder's one call (the guide's Derived/Test/ToyasCard.lean, 'card_holds'). Laid BY PROGRAM, IN A SANDBOX (cutbox-door.mjs). By AI agents, Wed Nov 11 2026. No macro, syntax, notation, axiom, sorry.
-/
import Derived.Test.YtomkkdlfoellaaaDoorRows
import GoSem.ClaimSeven
namespace Go.Proofs.YtomkkdlfoellaaaDoor
namespace Rows

/-- THE TIED CARD OF 'skeinlaw02.EthTexts'. -/
def ethTextsCard : Claim7 := { stood := { row := ethTextsRow, standIns := [], harness := (true, "b2502525171b4fc7ded3b03513ed7521a92793d7b7457838ab3961ecd20c7569"), looks := true }, kinds := [], alts := [], laidByText := true, laidKinds := [.data, .data, .data, .data, .sentinel, .sentinel, .pinned], laidTests := true, laidLooks := .later }
def EthTextsCardSaid : Prop := Claim7.holds Tryd.pinned (.plain (OpenSpec.ofChange ethTextsSpec)) ethTextsCard

/-- THE SECOND FORM's CARD OF 'skeinlaw02.EthTexts'. -/
def ethTextsUptoCard : Claim7 := { stood := { row := ethTextsUptoRow, standIns := [], harness := (true, "b2502525171b4fc7ded3b03513ed7521a92793d7b7457838ab3961ecd20c7569"), looks := true }, kinds := [], alts := [], laidByText := true, laidKinds := [.data, .data, .data, .data, .sentinel, .sentinel, .pinned], laidTests := true, laidLooks := .later }
def EthTextsUptoCardSaid : Prop := Claim7.holds Tryd.pinned (.plain (OpenSpec.upto ethTextsSpec)) ethTextsUptoCard
end Rows
end Go.Proofs.YtomkkdlfoellaaaDoor
