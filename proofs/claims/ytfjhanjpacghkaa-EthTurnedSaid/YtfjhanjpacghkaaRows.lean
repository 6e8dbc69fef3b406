/-
  No cell of these rows narrows 'for every input' (looked for: loops, veiled, ifaces, maps, wideKeys, modest, calm, conditions, laid).
  DERIVED. THE GIVEN ROWS OF THIS SEAT. 5 by the template 'for every input the law returns true; each argument reads behind the call as it read before'; 0 by the template 'total and deterministic' (their statements: YtfjhanjpacghkaaTotals.lean).
  GIVEN WITH THE SEED: the statements are not yours to turn. If you find one false, say at which input.
  Laid BY PROGRAM, IN A SANDBOX (cutbox-rows.mjs): the forced cells as the released guide's own fill.sh prints them over the translation b32a3f2f299081d3… (all of the seat's roots in one cut). By AI agents, Wed Nov 11 2026. No macro, syntax, notation, axiom, sorry.
-/
import Derived.Test.YtfjhanjpacghkaaChecked
import GoSem.Claim
import GoSem.ClaimJoined
import GoSem.ClaimMapViews
import Derived.JoinedTies
import Derived.KernelRfl
namespace Go.Proofs.Ytfjhanjpacghkaa
/- THE CELL 'sum', in the pinned program and in every row, IS THE sha256 OF THE DUMP (.gsa) THAT YtfjhanjpacghkaaProg.lean LOADS. Nothing in Lean hashes anything: it is a label: what it is worth is what the hold of that sum in a sandbox is worth. -/
noncomputable def Try.pinned : Pinned := { name := "ytfjhanjpacghkaa", sum := "b32a3f2f299081d3ed9ce496a0ea5b12e7ed01ec6196dd64a1e1fc1ad6eec5b5", checked := Try.checked }
namespace Rows
def none {H : Type} : Left H := { results := [], args := [] }

/-- 'skeinlaw02.EthHeads': WHATEVER THE INPUT: true; the input reads as it did. -/
def ethHeadsSpec : ChangeSpec := { name := "ethHeads", fn := fun _ => fun
  | [d] => { results := [.lit (.bool true)], args := [d] }
  | _ => none }
def ethHeadsRow : OpenClaim := { program := "ytfjhanjpacghkaa", sum := "b32a3f2f299081d3ed9ce496a0ea5b12e7ed01ec6196dd64a1e1fc1ad6eec5b5", func := "skein/skeinlaw02.EthHeads", spec := "ethHeads", inPlace := ["internal/abi.NoEscape", "internal/bytealg.MakeNoZero"], apart := false }
def EthHeadsSaid : Prop := ethHeadsRow.holds Try.pinned (OpenSpec.ofChange ethHeadsSpec)

/-- ITS FALSE NEIGHBOUR: 'it returns false'. Refute it at one input. -/
def ethHeadsWrong : ChangeSpec := { name := "ethHeads", fn := fun _ => fun
  | [d] => { results := [.lit (.bool false)], args := [d] }
  | _ => none }
def EthHeadsWrongFalsely : Prop := ethHeadsRow.holds Try.pinned (OpenSpec.ofChange ethHeadsWrong)

/-- 'skeinlaw02.EthEncodes': WHATEVER THE INPUT: true; the input reads as it did. -/
def ethEncodesSpec : ChangeSpec := { name := "ethEncodes", fn := fun _ => fun
  | [d1, d2] => { results := [.lit (.bool true)], args := [d1, d2] }
  | _ => none }
def ethEncodesRow : OpenClaim := { program := "ytfjhanjpacghkaa", sum := "b32a3f2f299081d3ed9ce496a0ea5b12e7ed01ec6196dd64a1e1fc1ad6eec5b5", func := "skein/skeinlaw02.EthEncodes", spec := "ethEncodes", inPlace := ["internal/abi.NoEscape", "internal/bytealg.MakeNoZero"], apart := false }
def EthEncodesSaid : Prop := ethEncodesRow.holds Try.pinned (OpenSpec.ofChange ethEncodesSpec)

/-- ITS FALSE NEIGHBOUR: 'it returns false'. Refute it at one input. -/
def ethEncodesWrong : ChangeSpec := { name := "ethEncodes", fn := fun _ => fun
  | [d1, d2] => { results := [.lit (.bool false)], args := [d1, d2] }
  | _ => none }
def EthEncodesWrongFalsely : Prop := ethEncodesRow.holds Try.pinned (OpenSpec.ofChange ethEncodesWrong)

/-- 'skeinlaw02.EthArps': WHATEVER THE INPUT: true; the input reads as it did. -/
def ethArpsSpec : ChangeSpec := { name := "ethArps", fn := fun _ => fun
  | [d] => { results := [.lit (.bool true)], args := [d] }
  | _ => none }
def ethArpsRow : OpenClaim := { program := "ytfjhanjpacghkaa", sum := "b32a3f2f299081d3ed9ce496a0ea5b12e7ed01ec6196dd64a1e1fc1ad6eec5b5", func := "skein/skeinlaw02.EthArps", spec := "ethArps", inPlace := ["internal/abi.NoEscape", "internal/bytealg.MakeNoZero"], unfollowed := true, recurses := true, apart := false }
def EthArpsSaid : Prop := ethArpsRow.holds Try.pinned (OpenSpec.ofChange ethArpsSpec)

/-- ITS FALSE NEIGHBOUR: 'it returns false'. Refute it at one input. -/
def ethArpsWrong : ChangeSpec := { name := "ethArps", fn := fun _ => fun
  | [d] => { results := [.lit (.bool false)], args := [d] }
  | _ => none }
def EthArpsWrongFalsely : Prop := ethArpsRow.holds Try.pinned (OpenSpec.ofChange ethArpsWrong)

/-- 'skeinlaw02.EthArpBytes': WHATEVER THE INPUT: true; the input reads as it did. -/
def ethArpBytesSpec : ChangeSpec := { name := "ethArpBytes", fn := fun _ => fun
  | [d1, d2] => { results := [.lit (.bool true)], args := [d1, d2] }
  | _ => none }
def ethArpBytesRow : OpenClaim := { program := "ytfjhanjpacghkaa", sum := "b32a3f2f299081d3ed9ce496a0ea5b12e7ed01ec6196dd64a1e1fc1ad6eec5b5", func := "skein/skeinlaw02.EthArpBytes", spec := "ethArpBytes", inPlace := ["internal/abi.NoEscape", "internal/bytealg.MakeNoZero"], unfollowed := true, recurses := true, apart := false }
def EthArpBytesSaid : Prop := ethArpBytesRow.holds Try.pinned (OpenSpec.ofChange ethArpBytesSpec)

/-- ITS FALSE NEIGHBOUR: 'it returns false'. Refute it at one input. -/
def ethArpBytesWrong : ChangeSpec := { name := "ethArpBytes", fn := fun _ => fun
  | [d1, d2] => { results := [.lit (.bool false)], args := [d1, d2] }
  | _ => none }
def EthArpBytesWrongFalsely : Prop := ethArpBytesRow.holds Try.pinned (OpenSpec.ofChange ethArpBytesWrong)

/-- 'skeinlaw02.EthTurned': WHATEVER THE INPUT: true; the input reads as it did. -/
def ethTurnedSpec : ChangeSpec := { name := "ethTurned", fn := fun _ => fun
  | [d1, d2, d3, d4] => { results := [.lit (.bool true)], args := [d1, d2, d3, d4] }
  | _ => none }
def ethTurnedRow : OpenClaim := { program := "ytfjhanjpacghkaa", sum := "b32a3f2f299081d3ed9ce496a0ea5b12e7ed01ec6196dd64a1e1fc1ad6eec5b5", func := "skein/skeinlaw02.EthTurned", spec := "ethTurned", inPlace := ["internal/abi.NoEscape", "internal/bytealg.MakeNoZero"], unfollowed := true, recurses := true, apart := false }
def EthTurnedSaid : Prop := ethTurnedRow.holds Try.pinned (OpenSpec.ofChange ethTurnedSpec)

/-- ITS FALSE NEIGHBOUR: 'it returns false'. Refute it at one input. -/
def ethTurnedWrong : ChangeSpec := { name := "ethTurned", fn := fun _ => fun
  | [d1, d2, d3, d4] => { results := [.lit (.bool false)], args := [d1, d2, d3, d4] }
  | _ => none }
def EthTurnedWrongFalsely : Prop := ethTurnedRow.holds Try.pinned (OpenSpec.ofChange ethTurnedWrong)

/- THE SECOND FORM. 'bulk': how many values and letters a reading holds, each counted each time it is reached (what is shared counts as often as it is met; a slice's spare places count too). A statement '..UptoSaid' is the law's where the arguments, and the package variables that the reading takes, are together of bulk at most 1048576: NARROWER than '..Said'. Prove '..Said' where nothing that the law and all that it calls make is longer than what came in: it says more and counts as full. Else prove '..UptoSaid'. A law counts once. -/
mutual
def uptoBulk {H : Type} : DataW H → Nat
  | .lit (.string bytes) => bytes.length + 1
  | .lit _ => 1
  | .nil => 1
  | .ptr d => uptoBulk d + 1
  | .slice elems spare => uptoBulkAll elems + uptoBulkAll spare + 1
  | .agg parts => uptoBulkAll parts + 1
  | .iface _ d => uptoBulk d + 1
  | .map entries => uptoBulkEntries entries + 1
  | .held _ => 1
def uptoBulkAll {H : Type} : List (DataW H) → Nat
  | [] => 0
  | d :: r => uptoBulk d + uptoBulkAll r
def uptoBulkEntries {H : Type} : List (Lit × DataW H) → Nat
  | [] => 0
  | x :: r => uptoBulkEntry x + uptoBulkEntries r
def uptoBulkEntry {H : Type} : Lit × DataW H → Nat
  | (.string bytes, d) => bytes.length + uptoBulk d + 1
  | (_, d) => uptoBulk d + 1
 end
def uptoSmall : (H : Type) → List (DataW H) → Bool := fun _ ds => decide (uptoBulkAll ds ≤ 1048576)
def OpenSpec.upto (s : _root_.Go.ChangeSpec) : _root_.Go.OpenSpec := { _root_.Go.OpenSpec.ofChange s with cond := some uptoSmall }

/-- 'skeinlaw02.EthHeads', WHERE WHAT IT READS IS OF BULK AT MOST 1048576: true; the input reads as it did. -/
def ethHeadsUptoRow : OpenClaim := { program := "ytfjhanjpacghkaa", sum := "b32a3f2f299081d3ed9ce496a0ea5b12e7ed01ec6196dd64a1e1fc1ad6eec5b5", func := "skein/skeinlaw02.EthHeads", spec := "ethHeads", inPlace := ["internal/abi.NoEscape", "internal/bytealg.MakeNoZero"], apart := false, narrowed := true }
def EthHeadsUptoSaid : Prop := ethHeadsUptoRow.holds Try.pinned (OpenSpec.upto ethHeadsSpec)

/-- 'skeinlaw02.EthEncodes', WHERE WHAT IT READS IS OF BULK AT MOST 1048576: true; the input reads as it did. -/
def ethEncodesUptoRow : OpenClaim := { program := "ytfjhanjpacghkaa", sum := "b32a3f2f299081d3ed9ce496a0ea5b12e7ed01ec6196dd64a1e1fc1ad6eec5b5", func := "skein/skeinlaw02.EthEncodes", spec := "ethEncodes", inPlace := ["internal/abi.NoEscape", "internal/bytealg.MakeNoZero"], apart := false, narrowed := true }
def EthEncodesUptoSaid : Prop := ethEncodesUptoRow.holds Try.pinned (OpenSpec.upto ethEncodesSpec)

/-- 'skeinlaw02.EthArps', WHERE WHAT IT READS IS OF BULK AT MOST 1048576: true; the input reads as it did. -/
def ethArpsUptoRow : OpenClaim := { program := "ytfjhanjpacghkaa", sum := "b32a3f2f299081d3ed9ce496a0ea5b12e7ed01ec6196dd64a1e1fc1ad6eec5b5", func := "skein/skeinlaw02.EthArps", spec := "ethArps", inPlace := ["internal/abi.NoEscape", "internal/bytealg.MakeNoZero"], unfollowed := true, recurses := true, apart := false, narrowed := true }
def EthArpsUptoSaid : Prop := ethArpsUptoRow.holds Try.pinned (OpenSpec.upto ethArpsSpec)

/-- 'skeinlaw02.EthArpBytes', WHERE WHAT IT READS IS OF BULK AT MOST 1048576: true; the input reads as it did. -/
def ethArpBytesUptoRow : OpenClaim := { program := "ytfjhanjpacghkaa", sum := "b32a3f2f299081d3ed9ce496a0ea5b12e7ed01ec6196dd64a1e1fc1ad6eec5b5", func := "skein/skeinlaw02.EthArpBytes", spec := "ethArpBytes", inPlace := ["internal/abi.NoEscape", "internal/bytealg.MakeNoZero"], unfollowed := true, recurses := true, apart := false, narrowed := true }
def EthArpBytesUptoSaid : Prop := ethArpBytesUptoRow.holds Try.pinned (OpenSpec.upto ethArpBytesSpec)

/-- 'skeinlaw02.EthTurned', WHERE WHAT IT READS IS OF BULK AT MOST 1048576: true; the input reads as it did. -/
def ethTurnedUptoRow : OpenClaim := { program := "ytfjhanjpacghkaa", sum := "b32a3f2f299081d3ed9ce496a0ea5b12e7ed01ec6196dd64a1e1fc1ad6eec5b5", func := "skein/skeinlaw02.EthTurned", spec := "ethTurned", inPlace := ["internal/abi.NoEscape", "internal/bytealg.MakeNoZero"], unfollowed := true, recurses := true, apart := false, narrowed := true }
def EthTurnedUptoSaid : Prop := ethTurnedUptoRow.holds Try.pinned (OpenSpec.upto ethTurnedSpec)

end Rows
end Go.Proofs.Ytfjhanjpacghkaa
