/- What the laws use: lives, same, and the tokens' text. -/
import Derived.Test.YtmdiieignlidhaaDoorLexV13
import Derived.Test.YtmdiieignlidhaaDoorLexP5
set_option linter.unusedSimpArgs false
set_option linter.unusedVariables false
set_option linter.unusedSectionVars false
set_option maxRecDepth 100000
namespace Go.Proofs.YtmdiieignlidhaaDoor
open Go Go.Vm Go.Proofs

theorem toksX {sx : List UInt8} {l : List Tok} {e p : Nat} (h : lexA sx = (l, e, p)) (hmax : sx.length ≤ 4611686018427387904) (st : St) : FnS cx 7 [.str sx] st (.tup [.sl .none (l.map Tok.v), .int .i64 e, .int .i64 p]) st := by
  have := tokS sx hmax st
  rw [h] at this
  exact this
def live1 : List UInt8 := [105, 112, 52, 46, 115, 114, 99, 61, 61, 49, 48, 46, 48, 46, 48, 46, 48, 47, 56]
theorem lex1 : lexA live1 = ([⟨1, [105, 112, 52, 46, 115, 114, 99], 0, 0⟩, ⟨5, [61, 61], 0, 7⟩, ⟨4, [49, 48, 46, 48, 46, 48, 46, 48], 167772160, 9⟩, ⟨5, [47], 0, 17⟩, ⟨2, [56], 8, 18⟩, ⟨7, [], 0, 19⟩], 0, 0) := by kernel_rfl
theorem lex2 : lexA [97, 32, 48, 49] = ([], 140, 2) := by kernel_rfl
theorem live1X (st : St) : FnS cx 7 [.str [105, 112, 52, 46, 115, 114, 99, 61, 61, 49, 48, 46, 48, 46, 48, 46, 48, 47, 56]] st (.tup [.sl .none [.agg [.int .i64 1, .str [105, 112, 52, 46, 115, 114, 99], .int .u64 0, .int .i64 0], .agg [.int .i64 5, .str [61, 61], .int .u64 0, .int .i64 7], .agg [.int .i64 4, .str [49, 48, 46, 48, 46, 48, 46, 48], .int .u64 167772160, .int .i64 9], .agg [.int .i64 5, .str [47], .int .u64 0, .int .i64 17], .agg [.int .i64 2, .str [56], .int .u64 8, .int .i64 18], .agg [.int .i64 7, .str [], .int .u64 0, .int .i64 19]], .int .i64 0, .int .i64 0]) st := toksX lex1 (by decide) st
theorem live2X (st : St) : FnS cx 7 [.str [97, 32, 48, 49]] st (.tup [.sl .none [], .int .i64 140, .int .i64 2]) st := toksX lex2 (by decide) st

def tokA (a : Int) (b : List UInt8) (c d : Int) : V := .agg [.int .i64 a, .str b, .int .u64 c, .int .i64 d]
theorem castE : ((0 : Nat) : Int) = 0 ∧ ((6 : Nat) : Int) = 6 ∧ ((7 : Nat) : Int) = 7 := ⟨rfl, rfl, rfl⟩
theorem tok_refl (a c d : Int) (b : List UInt8) : eqT cx 9 30 (.agg [.int .i64 a, .str b, .int .u64 c, .int .i64 d]) (.agg [.int .i64 a, .str b, .int .u64 c, .int .i64 d]) = some true := by
  have h : 30 ∈ cx.eqs := by show 30 ∈ [30]; simp
  simp [eqT, eqF, eqU, partV, isAggT, tyE, Tryd.underlying30, h]
theorem livesS (st : St) : FnS cx 8 [] st (.bool true) st := by
  refine goP Tryd.func8 rfl rfl rfl rfl ?_ ?_
  · rfl
  intro t ht
  clear ht
  have ex := And.intro @tok_refl @castE
  repeat' (first
   | (with_reducible refine isO ?_); first
     | refine mvA (h := ?_)
     | refine asA (h := ?_)
     | refine quA (h := ?_)
     | refine caA (hc := live1X _) (h := ?_)
     | refine caA (hc := live2X _) (h := ?_)
   | (with_reducible refine isG ?_); first
     | refine stA (h := ?_)
     | refine srA (h := ?_)
     | refine swA (h := ?_)
     | refine s1A (h := ?_)
     | refine s0A (h := ?_)
     | refine sgA (h1 := fun _ => ?_) (h0 := fun _ => ?_)
     | refine sbA (h1 := fun _ => ?_) (h0 := fun _ => ?_)
   | (with_reducible refine isC ?_); first
     | refine ctA (h := ?_)
     | refine cfA (h := ?_)
     | refine cdA (h1 := fun _ => ?_) (h0 := fun _ => ?_)
     | refine cbA (h1 := fun _ => ?_) (h0 := fun _ => ?_)
   | with_reducible refine Ev.seq ?_
   | with_reducible refine Ev.ops ?_
   | with_reducible refine NxE ?_
   | with_reducible refine BxN ?_
   | with_reducible refine BxX ?_
   | with_reducible refine NxX ?_
   | with_reducible refine NxR ?_
   | with_reducible refine BxR ?_
   | with_reducible refine NxG ?_
   | with_reducible refine BxG ?_
   | with_reducible refine GxR ?_
   | with_reducible refine GxN ?_
   | with_reducible refine GxX ?_
   | with_reducible refine Ev.goto ?_
   | with_reducible refine Ev.block ?_
   | with_reducible refine Ev.skip ?_
   | with_reducible refine Ev.exit ?_
   | with_reducible refine Ev.ret ?_
   | with_reducible refine Ev.label ?_
   | with_reducible refine EvOps.nil ?_
   | with_reducible refine EvPlan.nil ?_
   | (with_reducible refine BxO ?_ ?_; · decide)
   )
  all_goals refine lfA (rl := [.tmp 0]) rfl (hv := by
      simp only [packV, strip, stripAgg, stripCell, List.map_cons, List.map_nil]
      (first | done | rfl)) (hp := rfl)
end Go.Proofs.YtmdiieignlidhaaDoor
