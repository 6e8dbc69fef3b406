/-
  DERIVED. GIVEN WITH THE SEED: THE CARDS: each row of YtbgalenfbmaceaaGreatDoorRows.lean that lists a variable, with what it lists TIED to the program's text (the seventh form; the later family's looks); each row that meets fmt, with fmt's text TOLD by the authors' own Lean function (tested against real Go, not proved from fmt's source: count such statements apart). THE CARD IS WHAT COUNTS. Prove the row's statement (the work); the ties are given (YtbgalenfbmaceaaGreatDoorTie.lean); close each card by the builder's one call (the guide's Derived/Test/ToyasCard.lean, 'card_holds'). Laid BY PROGRAM, IN A SANDBOX (cutbox-door.mjs). By AI agents, Wed Nov 11 2026. No macro, syntax, notation, axiom, sorry.
-/
import Derived.Test.YtbgalenfbmaceaaGreatDoorRows
import GoSem.ClaimSeven
namespace Go.Proofs.YtbgalenfbmaceaaGreatDoor
namespace Rows

/-- THE TIED CARD OF 'skeinlaw13.DpathEnds'. -/
def dpathEndsCard : Claim7 := { stood := { row := dpathEndsRow, standIns := [], harness := (true, "14b547c08bdda19ec9e6ca600075ebf3a7b62163cadc7e9dc2151c0a2e248cad"), looks := false }, kinds := [], alts := [], laidByText := true, laidKinds := [.data, .data, .data], laidTests := true, laidLooks := .later }
def DpathEndsCardSaid : Prop := Claim7.holds Tryz.pinned (.plain (OpenSpec.ofChange dpathEndsSpec)) dpathEndsCard

/-- THE SECOND FORM's CARD OF 'skeinlaw13.DpathEnds'. -/
def dpathEndsUptoCard : Claim7 := { stood := { row := dpathEndsUptoRow, standIns := [], harness := (true, "14b547c08bdda19ec9e6ca600075ebf3a7b62163cadc7e9dc2151c0a2e248cad"), looks := false }, kinds := [], alts := [], laidByText := true, laidKinds := [.data, .data, .data], laidTests := true, laidLooks := .later }
def DpathEndsUptoCardSaid : Prop := Claim7.holds Tryz.pinned (.plain (OpenSpec.upto dpathEndsSpec)) dpathEndsUptoCard
end Rows
end Go.Proofs.YtbgalenfbmaceaaGreatDoor
