/- The seat's program, for the evaluator; known functions. -/
import Derived.Test.YtklcmgodhpediaaGreatDoorN26
import Derived.Test.YtklcmgodhpediaaGreatDoorProg
import Derived.Lib.Join
import Derived.Lib.Fields
import Derived.Lib.ItoaNum
import Derived.Lib.Bytealg
import Derived.Lib.Space
import Derived.Lib.SplitLaws
import Derived.Lib.TrailingZeros
set_option linter.unusedSimpArgs false
set_option linter.unusedVariables false
set_option maxRecDepth 100000
namespace Go.Proofs.YtklcmgodhpediaaGreatDoor
open Go Go.Vm Go.Proofs

def textsOf : List V → Option (List (List UInt8))
  | [] => some []
  | .str s :: r => (textsOf r).map (s :: ·)
  | _ => none

theorem texts_str : ∀ {xs : List V} {l : List (List UInt8)}, textsOf xs = some l → xs = l.map .str
  | [], l, h => by simp only [textsOf, Option.some.injEq] at h; subst h; rfl
  | x :: xs, l, h => by
    cases x <;> simp only [textsOf, Option.map_eq_some_iff, reduceCtorEq] at h
    obtain ⟨r, hr, rfl⟩ := h
    rw [texts_str hr]; rfl

def splitC (c : UInt8) : List UInt8 → List (List UInt8)
  | [] => [[]]
  | b :: r => if b = c then [] :: splitC c r else
    match splitC c r with
    | [] => [[b]]
    | x :: l => (b :: x) :: l

def known (k : FuncId) (args : List V) : Option V :=
  match k with
  | 37 => match args with
    | [.sl _ xs, .str sep] => (textsOf xs).bind fun l => if (Lib.join l sep).length ≤ 1048576 ∧ xs.length ≤ 1048576 then some (.str (Lib.join l sep)) else none
    | _ => none
  | 44 => match args with
    | [.str s, .int .u8 c] => some (.int .i64 (Lib.indexByte s c.toNat.toUInt8))
    | _ => none
  | 78 => match args with
    | [.str s, .str p] => some (.bool (Lib.hasPrefix s p))
    | _ => none
  | 82 => match args with
    | [.str s] => if s.length < 4294967281 ∧ s.all (fun b => decide (b.toNat < 128)) = true then some (.sl .full ((Lib.fields s).map .str)) else none
    | _ => none
  | 149 => match args with
    | [.int .i64 n] => if -9223372036854775808 ≤ n ∧ n ≤ 9223372036854775807 then some (.str (Lib.itoa n)) else none
    | _ => none
  | 95 => match args with
    | [.str s, .str [c]] => if s.length < 4294967281 then some (.sl .full ((splitC c s).map .str)) else none
    | _ => none
  | 187 => match args with
    | [.int .u64 n] => if n = 16 then some (.int .i64 4) else none
    | _ => none
  | 177 => match args with
    | [.str s] => if s.length ≤ 281474976710656 then some (.str s) else none
    | _ => none
  | 100 => match args with
    | [.str _, .str x, .int .i64 _, .int .i64 _, .iface 158 (.int .i64 c)] => if x.length ≤ 1000000 ∧ (c = 1 ∨ c = 2) then some (.iface 160 .any) else none
    | _ => none
  | _ => none
def libs (k : FuncId) (args : List V) (st : St) : Option (V × St) := (known k args).map fun v => (v, st)

def inner (k : FuncId) : Bool := [45, 47, 48, 50, 54, 55, 56, 75, 148, 27, 28, 29, 57, 58, 83, 84, 103, 104, 107, 159, 160, 157, 181, 64, 63, 70, 93, 108].contains k || (109 ≤ k && k ≤ 143) || k == 85 || k == 88 || k == 89 || (161 ≤ k && k ≤ 168)
def deB : List Int := Lib.deBruijn64tab.map Int.ofNat
def errAt (w : World) (i : Nat) : Prop := w.cell? ⟨i, 0, none⟩ = some .nilIface ∨ ∃ t v, w.cell? ⟨i, 0, none⟩ = some (.iface t v)
theorem errAt_same {w w' : World} {i : Nat} (hb : w'.heap[i]? = w.heap[i]?) (h : errAt w i) : errAt w' i := by
  unfold errAt World.cell? at h ⊢
  rw [hb]; exact h
noncomputable def cx : Cfg :=
  { P := Tryz.prog, glob := fun _ => .any, X := libs, keep := fun k => inner k, frz := fun _ => false, grow := fun k => inner k, pure := fun k => !inner k, eqs := [],
    I := fun w => Lib.TabIs Tryz.prog w "strings.asciiSpace" .u8 Lib.asciiSpaceTab ∧ Lib.TabIs Tryz.prog w "internal/strconv.uint64pow10" .u64 Lib.pow10Tab ∧ Lib.TabIs Tryz.prog w "math/bits.deBruijn64tab" .u8 deB ∧ errAt w 3 ∧ errAt w 4 ∧ ∃ m, w.cell? ⟨1, 0, none⟩ = some (.int .i64 m), lo := 8 }
theorem cx_ok : COk cx := by
  refine ⟨fun t ht => (by cases ht), by decide +kernel, by decide +kernel, fun w w' hb ⟨h1, h2, hd, e3, e4, m, h3⟩ => ⟨tab_same (i := 0) (by kernel_rfl) (hb 0 (by show 0 < 8; omega)) h1, tab_same (i := 5) (by kernel_rfl) (hb 5 (by show 5 < 8; omega)) h2, tab_same (i := 7) (by kernel_rfl) (hb 7 (by show 7 < 8; omega)) hd, errAt_same (hb 3 (by show 3 < 8; omega)) e3, errAt_same (hb 4 (by show 4 < 8; omega)) e4, m, by rw [← h3]; unfold World.cell?; rw [hb 1 (by show 1 < 8; omega)]⟩⟩
theorem cx_glob : GlobPure cx := fun _ => rfl
end Go.Proofs.YtklcmgodhpediaaGreatDoor
