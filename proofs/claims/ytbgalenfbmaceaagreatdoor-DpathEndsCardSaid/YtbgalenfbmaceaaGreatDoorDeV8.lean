/- How keys stand to one another. -/
import Derived.Test.YtbgalenfbmaceaaGreatDoorDeV7
set_option linter.unusedSimpArgs false
set_option linter.unusedVariables false
set_option maxRecDepth 1000000
namespace Go.Proofs.YtbgalenfbmaceaaGreatDoor.D
open Go Go.Vm Go.Proofs Go.Proofs.YtbgalenfbmaceaaGreatDoor

theorem keyLt' : ∀ a b : Fin 64, a < b → bytesLess (keyT a.val) (keyT b.val) = true ∧ bytesLess (keyT b.val) (keyT a.val) = false ∧ (keyT b.val == keyT a.val) = false := by decide +kernel
theorem keyLt {a b : Nat} (hb : b < 64) (h : a < b) : bytesLess (keyT a) (keyT b) = true ∧ bytesLess (keyT b) (keyT a) = false ∧ (keyT b == keyT a) = false := keyLt' ⟨a, by omega⟩ ⟨b, hb⟩ h
theorem nanS (x : List UInt8) (st : St) : FnS cw 35 [.str x] st (.bool false) st := by
  refine goP Tryz.func35 rfl rfl rfl rfl ?_ ?_
  · rfl
  intro t ht
  have a0 : tget t 0 = .str x := ht 0 _ rfl
  clear ht
  have e1 : decide (x = x) = true := by simp
  have ex := And.intro @a0 (And.intro @hpB @e1)
  repeat' (first
   | (with_reducible refine isO ?_); first | refine mvA (h := ?_) | refine asA (h := ?_) | refine quA (h := ?_)
   | (with_reducible refine isC ?_); first | refine ctA (h := ?_) | refine cfA (h := ?_) | refine cdA (h1 := fun _ => ?_) (h0 := fun _ => ?_) | refine cbA (h1 := fun _ => ?_) (h0 := fun _ => ?_)
   | with_reducible first | refine Ev.seq ?_ | refine Ev.ops ?_ | refine NxE ?_ | refine BxN ?_ | refine BxX ?_ | refine NxX ?_ | refine NxR ?_ | refine BxR ?_ | refine Ev.block ?_ | refine Ev.skip ?_ | refine Ev.exit ?_ | refine Ev.ret ?_ | refine EvOps.nil ?_ | refine EvPlan.nil ?_
   | (with_reducible refine BxO ?_ ?_; · decide)
   )
  refine lfA (rl := [.tmp 2]) rfl (hv := by
      simp only [packV, strip, stripAgg, stripCell, List.map_cons, List.map_nil]
      first | done | rfl) (hp := rfl)
theorem cmpLt {x y : List UInt8} (h : bytesLess x y = true) (st : St) : FnS cw 19 [.str x, .str y] st (.int .i64 (-1)) st := by
  refine goP Tryz.func19 rfl rfl rfl rfl ?_ ?_
  · rfl
  intro t ht
  have a0 : tget t 0 = .str x := ht 0 _ rfl
  have a1 : tget t 1 = .str y := ht 1 _ rfl
  clear ht
  have ex := And.intro @a0 (And.intro @a1 (And.intro @hpB @h))
  repeat' (first
   | (with_reducible refine isO ?_); first | refine mvA (h := ?_) | refine asA (h := ?_) | refine quA (h := ?_) | refine caA (hc := (nanS _ _)) (h := ?_)
   | (with_reducible refine isC ?_); first | refine ctA (h := ?_) | refine cfA (h := ?_) | refine cdA (h1 := fun _ => ?_) (h0 := fun _ => ?_) | refine cbA (h1 := fun _ => ?_) (h0 := fun _ => ?_)
   | with_reducible first | refine Ev.seq ?_ | refine Ev.ops ?_ | refine NxE ?_ | refine BxN ?_ | refine BxX ?_ | refine NxX ?_ | refine NxR ?_ | refine BxR ?_ | refine Ev.block ?_ | refine Ev.skip ?_ | refine Ev.exit ?_ | refine Ev.ret ?_ | refine EvOps.nil ?_ | refine EvPlan.nil ?_
   | (with_reducible refine BxO ?_ ?_; · decide)
   )
  refine lfA (rl := [.tmp 4]) rfl (hv := by
      simp only [packV, strip, stripAgg, stripCell, List.map_cons, List.map_nil]
      first | done | rfl) (hp := rfl)
theorem cmpGt {x y : List UInt8} (h : bytesLess x y = false) (he : (x == y) = false) (st : St) : FnS cw 19 [.str x, .str y] st (.int .i64 1) st := by
  refine goP Tryz.func19 rfl rfl rfl rfl ?_ ?_
  · rfl
  intro t ht
  have a0 : tget t 0 = .str x := ht 0 _ rfl
  have a1 : tget t 1 = .str y := ht 1 _ rfl
  clear ht
  have ex := And.intro @a0 (And.intro @a1 (And.intro @hpB (And.intro @h @he)))
  repeat' (first
   | (with_reducible refine isO ?_); first | refine mvA (h := ?_) | refine asA (h := ?_) | refine quA (h := ?_) | refine caA (hc := (nanS _ _)) (h := ?_)
   | (with_reducible refine isC ?_); first | refine ctA (h := ?_) | refine cfA (h := ?_) | refine cdA (h1 := fun _ => ?_) (h0 := fun _ => ?_) | refine cbA (h1 := fun _ => ?_) (h0 := fun _ => ?_)
   | with_reducible first | refine Ev.seq ?_ | refine Ev.ops ?_ | refine NxE ?_ | refine BxN ?_ | refine BxX ?_ | refine NxX ?_ | refine NxR ?_ | refine BxR ?_ | refine Ev.block ?_ | refine Ev.skip ?_ | refine Ev.exit ?_ | refine Ev.ret ?_ | refine EvOps.nil ?_ | refine EvPlan.nil ?_
   | (with_reducible refine BxO ?_ ?_; · decide)
   )
  · refine lfA (rl := [.tmp 4]) rfl (hv := by
      simp only [packV, strip, stripAgg, stripCell, List.map_cons, List.map_nil]
      first | done | rfl) (hp := rfl)
  all_goals (rename_i hh; exact absurd hh (by decide))
theorem byKey {x10 x11 x12 x13 x20 x21 x22 x23 : V} {k1 k2 : List UInt8} {r : Int} (hu : ([V.agg [x10, x11, x12, x13, .str k1], .agg [x20, x21, x22, x23, .str k2]] : List V).map unown = [.agg [x10, x11, x12, x13, .str k1], .agg [x20, x21, x22, x23, .str k2]]) (hp : pureVs [.agg [x10, x11, x12, x13, .str k1], .agg [x20, x21, x22, x23, .str k2]] = true) (hc : ∀ st, FnS cw 19 [.str k1, .str k2] st (.int .i64 r) st) (st : St) :
    FnS cw 18 [.agg [x10, x11, x12, x13, .str k1], .agg [x20, x21, x22, x23, .str k2]] st (.int .i64 r) st := by
  refine goP Tryz.func18 rfl rfl rfl rfl ?_ ?_
  · rw [hu]; exact hp
  intro t ht
  have a0 : tget t 0 = .agg [x10, x11, x12, x13, .str k1] := ht 0 _ (by rw [hu]; rfl)
  have a1 : tget t 1 = .agg [x20, x21, x22, x23, .str k2] := ht 1 _ (by rw [hu]; rfl)
  clear ht
  have ex := And.intro @a0 (And.intro @a1 (And.intro @hpB (And.intro @hpE @zvE)))
  repeat' (first
   | (with_reducible refine isO ?_); first | refine mvA (h := ?_) | refine asA (h := ?_) | refine quA (h := ?_) | refine caA (hc := (hc _)) (h := ?_)
   | (with_reducible refine isC ?_); first | refine ctA (h := ?_) | refine cfA (h := ?_) | refine cdA (h1 := fun _ => ?_) (h0 := fun _ => ?_) | refine cbA (h1 := fun _ => ?_) (h0 := fun _ => ?_)
   | with_reducible first | refine Ev.seq ?_ | refine Ev.ops ?_ | refine NxE ?_ | refine BxN ?_ | refine BxX ?_ | refine NxX ?_ | refine NxR ?_ | refine BxR ?_ | refine Ev.block ?_ | refine Ev.skip ?_ | refine Ev.exit ?_ | refine Ev.ret ?_ | refine EvOps.nil ?_ | refine EvPlan.nil ?_
   | (with_reducible refine BxO ?_ ?_; · decide)
   )
  refine lfA (rl := [.tmp 4]) rfl (hv := by
      simp only [packV, strip, stripAgg, stripCell, List.map_cons, List.map_nil]
      first | done | rfl) (hp := rfl)
end Go.Proofs.YtbgalenfbmaceaaGreatDoor.D
