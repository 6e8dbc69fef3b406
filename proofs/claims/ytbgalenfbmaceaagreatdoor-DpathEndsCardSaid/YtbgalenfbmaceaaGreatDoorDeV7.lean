/- Flows that may be, whole; how keys stand to one another. -/
import Derived.Test.YtbgalenfbmaceaaGreatDoorDeV6
set_option linter.unusedSimpArgs false
set_option linter.unusedVariables false
set_option maxRecDepth 1000000
namespace Go.Proofs.YtbgalenfbmaceaaGreatDoor.D
open Go Go.Vm Go.Proofs Go.Proofs.YtbgalenfbmaceaaGreatDoor

theorem matchS (st : St) : FnS cw 23 [.sl .none []] st (.int .i64 0) st := ⟨Vm.Fn.ofG (n := 100) (by kernel_rfl) ⟨rfl, rfl⟩⟩
theorem zvF : zeroV cw 52 = some (.agg [.int .i64 0, .int .i64 0, .sl .full [], .sl .full []]) := by rfl
theorem checkG {xs : List V} {tb : Int} (hp : pureVs xs = true) (htb : 0 ≤ tb ∧ tb < 64) (ha : ∀ st, FnS cw 31 [.sl .none xs] st (.int .i64 0) st) (st : St) : FnS cw 15 [.agg [.int .i64 tb, .int .i64 0, .sl .none [], .sl .none xs]] st (.int .i64 0) st := by
  have hpz : pureVs ([V.agg [.int .i64 tb, .int .i64 0, .sl .none [], .sl .none xs]].map unown) = true := by
    show ((true && (true && (true && (pureVs xs && true)))) && true) = true
    rw [hp]; rfl
  have hm := matchS
  have e1 : decide (tb < 0) = false := by simp; omega
  have e2 : decide (tb ≥ 64) = false := by simp; omega
  refine goP Tryz.func15 rfl rfl rfl rfl ?_ ?_
  · exact hpz
  intro t ht
  have a0 : tget t 0 = .agg [.int .i64 tb, .int .i64 0, .sl .none [], .sl .none xs] := ht 0 _ rfl
  clear ht
  have ex := And.intro @a0 (And.intro @hpB (And.intro @hpE (And.intro @zvE (And.intro @zvF (And.intro @e1 @e2)))))
  repeat' (first
   | (with_reducible refine isO ?_); first | refine mvA (h := ?_) | refine asA (h := ?_) | refine quA (h := ?_) | refine caA (hc := (hm _)) (h := ?_) | refine caA (hc := (ha _)) (h := ?_)
   | (with_reducible refine isG ?_); first | refine stA (h := ?_) | refine srA (h := ?_) | refine swA (h := ?_) | refine s1A (h := ?_) | refine s0A (h := ?_) | refine sgA (h1 := fun _ => ?_) (h0 := fun _ => ?_) | refine sbA (h1 := fun _ => ?_) (h0 := fun _ => ?_)
   | (with_reducible refine isC ?_); first | refine ctA (h := ?_) | refine cfA (h := ?_) | refine cdA (h1 := fun _ => ?_) (h0 := fun _ => ?_) | refine cbA (h1 := fun _ => ?_) (h0 := fun _ => ?_)
   | with_reducible first | refine Ev.seq ?_ | refine Ev.ops ?_ | refine NxE ?_ | refine BxN ?_ | refine BxX ?_ | refine NxX ?_ | refine NxR ?_ | refine BxR ?_ | refine Ev.block ?_ | refine Ev.skip ?_ | refine Ev.exit ?_ | refine Ev.ret ?_ | refine EvOps.nil ?_ | refine EvPlan.nil ?_
   | (with_reducible refine BxO ?_ ?_; · decide)
   )
  refine lfA (rl := [.tmp 2]) rfl (hv := by
      simp only [packV, strip, stripAgg, stripCell, List.map_cons, List.map_nil]
      first | done | rfl) (hp := rfl)
theorem checkA (a b : Nat) (ha : a < 64) (hb : b < 64) (st : St) : FnS cw 15 [flowA (a : Nat) (b : Nat)] st (.int .i64 0) st :=
  checkG (xs := [actGo (b : Nat)]) rfl ⟨by omega, by omega⟩ (fun st => allS (c := 1) rfl rfl (by simp) (fun i x hx => by
    match i, hx with
    | 0, hx => exact ⟨_, (Option.some.inj hx).symm, rfl, fun st => ckG 0 b hb st⟩) (countA _) (by omega) st) st
theorem checkB (a b : Nat) (ha : a < 64) (hb : b < 64) (st : St) : FnS cw 15 [flowB (a : Nat) (b : Nat)] st (.int .i64 0) st :=
  checkG (xs := [actClone, actGo (a : Nat)]) rfl ⟨by omega, by omega⟩ (fun st => allS (c := 3) rfl rfl (by simp) (fun i x hx => by
    match i, hx with
    | 0, hx => exact ⟨_, (Option.some.inj hx).symm, rfl, fun st => ckC st⟩
    | 1, hx => exact ⟨_, (Option.some.inj hx).symm, rfl, fun st => ckG 0 a ha st⟩) (countB _) (by omega) st) st
end Go.Proofs.YtbgalenfbmaceaaGreatDoor.D
