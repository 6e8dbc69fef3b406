/- The seat's program, for the evaluator; known functions. -/
import Derived.Test.YtomkkdlfoellaaaDoorVm23
import Derived.Test.YtomkkdlfoellaaaDoorProg
import Derived.Lib.Join
import Derived.Lib.Fields
import Derived.Lib.ItoaNum
import Derived.Lib.Bytealg
import Derived.Lib.Space
import Derived.Lib.SplitLaws
set_option linter.unusedSimpArgs false
set_option linter.unusedVariables false
set_option maxRecDepth 100000
namespace Go.Proofs.YtomkkdlfoellaaaDoor
open Go Go.Vm Go.Proofs

/-- Texts. -/
def textsOf : List V → Option (List (List UInt8))
  | [] => some []
  | .str s :: r => (textsOf r).map (s :: ·)
  | _ => none

theorem texts_str : ∀ {xs : List V} {l : List (List UInt8)}, textsOf xs = some l → xs = l.map .str
  | [], l, h => by simp only [textsOf, Option.some.injEq] at h; subst h; rfl
  | x :: xs, l, h => by
    cases x <;> simp only [textsOf, Option.map_eq_some_iff, reduceCtorEq] at h
    obtain ⟨r, hr, rfl⟩ := h
    rw [texts_str hr]; rfl

/-- Pieces between the bytes c. -/
def splitC (c : UInt8) : List UInt8 → List (List UInt8)
  | [] => [[]]
  | b :: r => if b = c then [] :: splitC c r else
    match splitC c r with
    | [] => [[b]]
    | x :: l => (b :: x) :: l

def known : FuncId → List V → Option V
  | 19, [.sl _ xs, .str sep] => (textsOf xs).bind fun l => if (Lib.join l sep).length ≤ 1048576 ∧ xs.length ≤ 1048576 then some (.str (Lib.join l sep)) else none
  | 20, [.int .i64 n] => if -9223372036854775808 ≤ n ∧ n ≤ 9223372036854775807 then some (.str (Lib.itoa n)) else none
  | 15, [.str s, .str [c]] => if s.length < 4294967281 then some (.sl .full ((splitC c s).map .str)) else none
  | 46, [.str s] => if s.length ≤ 281474976710656 then some (.str s) else none
  | 24, [.str _, .str x, .int .i64 _, .int .i64 _, .iface 61 (.int .i64 c)] => if x.length ≤ 1100000 ∧ (c = 1 ∨ c = 2) then some (.iface 64 .any) else none
  | _, _ => none
def libs (k : FuncId) (args : List V) (st : St) : Option (V × St) := (known k args).map fun v => (v, st)

/-- Functions in their caller's memory. -/
def inner (k : FuncId) : Bool := k == 18

/-- A variable of type error. -/
def errAt (w : World) (i : Nat) : Prop := w.cell? ⟨i, 0, none⟩ = some .nilIface ∨ ∃ t v, w.cell? ⟨i, 0, none⟩ = some (.iface t v)
theorem errAt_same {w w' : World} {i : Nat} (hb : w'.heap[i]? = w.heap[i]?) (h : errAt w i) : errAt w' i := by
  unfold errAt World.cell? at h ⊢
  rw [hb]; exact h
noncomputable def cx : Cfg :=
  { P := Tryd.prog, glob := fun _ => .any, X := libs, keep := fun k => false, frz := fun _ => false, grow := fun k => k == 18, pure := fun k => !inner k, eqs := [],
    I := fun w => Lib.TabIs Tryd.prog w "internal/strconv.uint64pow10" .u64 Lib.pow10Tab ∧ errAt w 0 ∧ errAt w 1 ∧ ∃ m, w.cell? ⟨2, 0, none⟩ = some (.int .i64 m), lo := 4 }

theorem cx_ok : COk cx := by
  refine ⟨fun t ht => (by cases ht), by decide +kernel, by decide +kernel, fun w w' hb ⟨h2, e3, e4, m, h3⟩ => ⟨tab_same (i := 3) (by kernel_rfl) (hb 3 (by show 3 < 4; omega)) h2, errAt_same (hb 0 (by show 0 < 4; omega)) e3, errAt_same (hb 1 (by show 1 < 4; omega)) e4, m, by rw [← h3]; unfold World.cell?; rw [hb 2 (by show 2 < 4; omega)]⟩⟩

theorem glob_pure : GlobPure cx := by
  intro i
  rfl
end Go.Proofs.YtomkkdlfoellaaaDoor
