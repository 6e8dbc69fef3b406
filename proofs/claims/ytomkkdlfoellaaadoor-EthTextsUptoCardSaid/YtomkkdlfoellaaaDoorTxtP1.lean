/- Addresses' texts, in plain words. -/
import Derived.Test.YtomkkdlfoellaaaDoorTxtV3
import Derived.Lib.SplitLaws
set_option linter.unusedSimpArgs false
set_option linter.unusedVariables false
namespace Go.Proofs.YtomkkdlfoellaaaDoor
open Go Go.Vm Go.Proofs

theorem strAt {s : List UInt8} {i : Nat} (h : i < s.length) : s[i]? = some (s.getD i 0) := by
  rw [List.getElem?_eq_getElem h]; simp [h]

def letP (c : Int) : Prop := (97 ≤ c ∧ c ≤ 122) ∨ (65 ≤ c ∧ c ≤ 90) ∨ c = 95
def digP (c : Int) : Prop := 48 ≤ c ∧ c ≤ 57
instance (c : Int) : Decidable (letP c) := by unfold letP; infer_instance
instance (c : Int) : Decidable (digP c) := by unfold digP; infer_instance
def endsB (s : List UInt8) (i : Nat) : Prop := s.length ≤ i ∨ ¬ (letP (s.getD i 0).toNat ∨ digP (s.getD i 0).toNat)
def lineP (c : Int) : Prop := c ≠ 10
def nameP (c : Int) : Prop := (letP c ∨ digP c) ∨ c = 46
def dotP (c : Int) : Prop := digP c ∨ c = 46
def hexP (c : Int) : Prop := digP c ∨ (97 ≤ c ∧ c ≤ 102)
def textP (c : Int) : Prop := 32 ≤ c ∧ c ≤ 126 ∧ c ≠ 34 ∧ c ≠ 92
instance (c : Int) : Decidable (lineP c) := by unfold lineP; infer_instance
instance (c : Int) : Decidable (nameP c) := by unfold nameP; infer_instance
instance (c : Int) : Decidable (dotP c) := by unfold dotP; infer_instance
instance (c : Int) : Decidable (hexP c) := by unfold hexP; infer_instance
instance (c : Int) : Decidable (textP c) := by unfold textP; infer_instance

/-- How many bytes ahead are of a kind. -/
def spanU (p : Int → Prop) [DecidablePred p] (u : List UInt8) : Nat := (u.takeWhile fun b => decide (p b.toNat)).length
def endsU : List UInt8 → Bool
  | [] => true
  | c :: _ => !decide (letP c.toNat ∨ digP c.toNat)

/-! Numbers. -/
def digV (c : UInt8) : Option Nat :=
  if 48 ≤ c.toNat ∧ c.toNat ≤ 57 then some (c.toNat - 48) else
  if 97 ≤ (c ||| 32).toNat ∧ (c ||| 32).toNat ≤ 122 then some ((c ||| 32).toNat - 87) else none
/-- A number's digits; 2: bytes of no number, 1: too great. -/
def puL (base mx : Nat) : Nat → List UInt8 → Nat × Nat
  | n, [] => (n, 0)
  | n, c :: r =>
    match digV c with
    | none => (0, 2)
    | some d => if base ≤ d then (0, 2) else if mx < n * base + d then (mx, 1) else puL base mx (n * base + d) r
def puE (base mx : Nat) (s : List UInt8) : Nat × Nat := if s = [] then (0, 2) else puL base mx 0 s
def puR (base mx : Nat) (s : List UInt8) : Option Nat := if (puE base mx s).2 = 0 then some (puE base mx s).1 else none

def partsR (base M : Nat) : Nat → List (List UInt8) → Option Nat
  | x, [] => some x
  | x, p :: r => (puR base 255 p).bind fun n => partsR base M ((x * 256 + n) % M) r

def hexD (n : Nat) : UInt8 := if n < 10 then UInt8.ofNat (48 + n) else UInt8.ofNat (87 + n)
/-- The lowest k bytes, the highest first. -/
def lowBytes (x : Nat) : Nat → List Nat
  | 0 => []
  | k + 1 => x / 256 ^ k % 256 :: lowBytes x k
def macText (x : Nat) : List UInt8 := Lib.join ((lowBytes x 6).map fun b => [hexD (b / 16), hexD (b % 16)]) [58]
def addrText (x : Nat) : List UInt8 := Lib.join ((lowBytes x 4).map fun (b : Nat) => Lib.itoa b) [46]
def macR (s : List UInt8) : Option Nat := (partsR 16 (2 ^ 64) 0 (splitC 58 s)).bind fun x => if macText x = s then some x else none
def addrR (s : List UInt8) : Option Nat := (partsR 10 (2 ^ 32) 0 (splitC 46 s)).bind fun x => if addrText x = s then some x else none
end Go.Proofs.YtomkkdlfoellaaaDoor
