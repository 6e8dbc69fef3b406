/- The law's own function, by the program. -/
import Derived.Test.YtomkkdlfoellaaaDoorTxtV11
set_option linter.unusedSimpArgs false
set_option linter.unusedVariables false
set_option linter.unusedSectionVars false
set_option maxRecDepth 100000
namespace Go.Proofs.YtomkkdlfoellaaaDoor
open Go Go.Vm Go.Proofs

theorem pure_any {C : Cfg} {n k : Nat} {args : List V} {v : V} {s0 : St} (hp : C.pure k = true) (hx : ∀ st, C.X k args st = none) (h : callF C n k args ⟨[], 0⟩ = some (v, s0)) (st : St) : callF C n k args st = some (v, st) := by
  cases n with
  | zero => simp [callF] at h
  | succ n =>
    simp only [callF, hx, hp, if_true] at h ⊢
    split at h
    · cases h
    · split at h
      · cases h
      · split at h
        · rename_i hl
          simp only [hl, if_true]
          split at h
          · rename_i ha
            simp only [ha, if_true]
            split at h
            · split at h
              · rename_i hok
                simp only [hok, if_true]
                split at h
                · split at h
                  · rename_i hv
                    simp only [hv, if_true]
                    cases h; rfl
                  · cases h
                · cases h
              · cases h
            · cases h
          · cases h
        · cases h

theorem lives_closed : (callF cx 60 8 [] ⟨[], 0⟩).any (fun r => sameV r.1 (.bool true)) = true := by decide +kernel
theorem livesS (st : St) : FnS cx 8 [] st (.bool true) st := by
  refine ⟨?_⟩
  cases h : callF cx 60 8 [] ⟨[], 0⟩ with
  | none => have := lives_closed; rw [h] at this; cases this
  | some r =>
    obtain ⟨v, s0⟩ := r
    have := lives_closed
    rw [h] at this
    have hv := sameV_eq this
    subst hv
    exact ⟨60, _, st, pure_any rfl (fun _ => rfl) h st, ⟨rfl, rfl⟩⟩
theorem and1 (x : Nat) (hx : x < 18446744073709551616) : ((BitVec.ofInt 64 (x : Int) &&& BitVec.ofInt 64 1).toNat : Int) = (x : Int) % 2 := by
  have h : (BitVec.ofInt 64 (x : Int) &&& BitVec.ofInt 64 1).toNat = x % 2 := by
    rw [show BitVec.ofInt 64 1 = BitVec.ofNat 64 1 from rfl, BitVec.ofInt_natCast, BitVec.toNat_and, BitVec.toNat_ofNat, BitVec.toNat_ofNat, Nat.mod_eq_of_lt hx]
    exact Nat.and_one_is_mod x
  rw [h]
  omega
theorem and1I (x : Nat) (hx : x < 18446744073709551616) : ((BitVec.ofInt 64 ((x : Int) / 1099511627776) &&& BitVec.ofInt 64 1).toNat : Int) = (x : Int) / 1099511627776 % 2 := by
  have := and1 (x / 1099511627776) (by omega)
  rw [show ((x / 1099511627776 : Nat) : Int) = (x : Int) / 1099511627776 by omega] at this
  exact this
theorem eqB : eqT cx 9 4 (.bool true) (.bool true) = some true ∧ eqT cx 9 4 (.bool false) (.bool false) = some true ∧ eqT cx 9 4 (.bool true) (.bool false) = some false ∧ eqT cx 9 4 (.bool false) (.bool true) = some false := by refine ⟨?_, ?_, ?_, ?_⟩ <;> decide +kernel
theorem fdivM (x : Int) : Int.fdiv x 1099511627776 = x / 1099511627776 := Int.fdiv_eq_ediv_of_nonneg _ (by omega)

theorem multiS (x : Nat) (hx : x < 18446744073709551616) (st : St) : FnS cx 9 [.int .u64 x] st (.bool (decide ((x : Int) / 1099511627776 % 2 = 1))) st := by
  have hA := and1I x hx
  refine goP Tryd.func9 rfl rfl rfl rfl ?_ ?_
  · rfl
  intro t ht
  have a0 : tget t 0 = .int .u64 x := ht 0 _ rfl
  clear ht
  have ex := And.intro @a0 (And.intro @hA @fdivM)
  repeat' (first
   | (with_reducible refine isO ?_); first
     | refine mvA (h := ?_)
     | refine asA (h := ?_)
     | refine quA (h := ?_)
   | (with_reducible refine isC ?_); first
     | refine ctA (h := ?_)
     | refine cfA (h := ?_)
     | refine cdA (h1 := fun _ => ?_) (h0 := fun _ => ?_)
     | refine cbA (h1 := fun _ => ?_) (h0 := fun _ => ?_)
   | with_reducible refine Ev.seq ?_
   | with_reducible refine Ev.ops ?_
   | with_reducible refine NxE ?_
   | with_reducible refine BxN ?_
   | with_reducible refine BxX ?_
   | with_reducible refine NxX ?_
   | with_reducible refine NxR ?_
   | with_reducible refine BxR ?_
   | with_reducible refine NxG ?_
   | with_reducible refine BxG ?_
   | with_reducible refine GxR ?_
   | with_reducible refine GxN ?_
   | with_reducible refine GxX ?_
   | with_reducible refine Ev.goto ?_
   | with_reducible refine Ev.block ?_
   | with_reducible refine Ev.skip ?_
   | with_reducible refine Ev.exit ?_
   | with_reducible refine Ev.ret ?_
   | with_reducible refine Ev.label ?_
   | with_reducible refine EvOps.nil ?_
   | with_reducible refine EvPlan.nil ?_
   | (with_reducible refine BxO ?_ ?_; · decide)
   )
  all_goals refine lfA (rl := [.tmp 2]) rfl (hv := by
      simp only [packV, strip, stripAgg, stripCell, List.map_cons, List.map_nil]
      exact congrArg (fun z : Int => V.bool (decide (z = 1))) hA) (hp := rfl)
theorem multiR (x : Nat) (hx : x < 18446744073709551616) (st : St) : FnS cx 10 [.int .u64 x] st (.bool (decide ((x : Int) / 1099511627776 % 2 = 1))) st := by
  refine goP Tryd.func10 rfl rfl rfl rfl ?_ ?_
  · rfl
  intro t ht
  have a0 : tget t 0 = .int .u64 x := ht 0 _ rfl
  clear ht
  have ex := @a0
  repeat' (first
   | (with_reducible refine isO ?_); first
     | refine mvA (h := ?_)
     | refine asA (h := ?_)
     | refine quA (h := ?_)
   | (with_reducible refine isC ?_); first
     | refine ctA (h := ?_)
     | refine cfA (h := ?_)
     | refine cdA (h1 := fun _ => ?_) (h0 := fun _ => ?_)
     | refine cbA (h1 := fun _ => ?_) (h0 := fun _ => ?_)
   | with_reducible refine Ev.seq ?_
   | with_reducible refine Ev.ops ?_
   | with_reducible refine NxE ?_
   | with_reducible refine BxN ?_
   | with_reducible refine BxX ?_
   | with_reducible refine NxX ?_
   | with_reducible refine NxR ?_
   | with_reducible refine BxR ?_
   | with_reducible refine NxG ?_
   | with_reducible refine BxG ?_
   | with_reducible refine GxR ?_
   | with_reducible refine GxN ?_
   | with_reducible refine GxX ?_
   | with_reducible refine Ev.goto ?_
   | with_reducible refine Ev.block ?_
   | with_reducible refine Ev.skip ?_
   | with_reducible refine Ev.exit ?_
   | with_reducible refine Ev.ret ?_
   | with_reducible refine Ev.label ?_
   | with_reducible refine EvOps.nil ?_
   | with_reducible refine EvPlan.nil ?_
   | (with_reducible refine BxO ?_ ?_; · decide)
   )
  all_goals refine lfA (rl := [.tmp 2]) rfl (hv := by
      simp only [packV, strip, stripAgg, stripCell, List.map_cons, List.map_nil]
      first | done | rfl | exact congrArg V.bool (decide_eq_decide.2 (by omega)) | exact congrArg V.bool (decide_eq_false (by omega)).symm | exact congrArg V.bool (decide_eq_true (by omega)).symm) (hp := rfl)
theorem addrText_max (x : Nat) : (addrText x).length ≤ 100 := by
  have h (y : Nat) (hy : y < 256) : (Lib.decDigits y).length ≤ 20 := decD_len y 19 (Nat.lt_of_lt_of_le hy (by decide))
  have h0 := h (x / 256 ^ 3 % 256) (Nat.mod_lt _ (by omega))
  have h1 := h (x / 256 ^ 2 % 256) (Nat.mod_lt _ (by omega))
  have h2 := h (x / 256 % 256) (Nat.mod_lt _ (by omega))
  have h3 := h (x % 256) (Nat.mod_lt _ (by omega))
  rw [addrText_eq]
  simp only [List.length_append, List.length_cons]
  omega

set_option maxHeartbeats 8000000 in
theorem textsS (sx : List UInt8) (hs : sx.length ≤ 1050000) (x ip : Nat) (hx : x < 18446744073709551616) (hip : ip < 4294967296) (st : St) : FnS cx 3 [.str sx, .int .u64 x, .int .u32 ip] st (.bool true) st := by
  have h9 := multiS x hx
  have h10 := multiR x hx
  generalize decide ((x : Int) / 1099511627776 % 2 = 1) = B at h9 h10
  have hM2 : ∀ st, FnS cx 4 [.str (macText x)] st (.tup [.int .u64 (x % 281474976710656 : Nat), .bool true]) st := fun st => by
    have := macS (macText x) (by rw [macText_length]; omega) st
    rw [macR_text] at this; exact this
  have hA2 : ∀ st, FnS cx 6 [.str (addrText ip)] st (.tup [.int .u32 ip, .bool true]) st := fun st => by
    have := addrS (addrText ip) (by have := addrText_max ip; omega) st
    rw [addrR_text hip] at this; exact this
  have hA := macS sx (by omega)
  have hB := refMacS sx hs
  have hC := addrS sx (by omega)
  have hD := refAddrS sx hs
  have hT1 := macTextS x hx
  have hT2 := addrTextS ip hip
  have hT3 := macTextR x hx
  have hT4 := addrTextR ip hip
  generalize macText x = T1 at *
  generalize addrText ip = T2 at *
  cases B <;> (rcases hm : macR sx with _ | a) <;> (rcases ha : addrR sx with _ | c) <;> rw [hm] at hA hB <;> rw [ha] at hC hD <;> simp only [okV] at hA hB hC hD
  all_goals
    refine goP Tryd.func3 rfl rfl rfl rfl ?_ ?_
    · rfl
    intro t ht
    have a0 : tget t 0 = .str sx := ht 0 _ rfl
    have a1 : tget t 1 = .int .u64 x := ht 1 _ rfl
    have a2 : tget t 2 = .int .u32 ip := ht 2 _ rfl
    clear ht
    have ex := And.intro @a0 (And.intro @a1 (And.intro @a2 @eqB))
    repeat' (first
     | (with_reducible refine isO ?_); first
       | refine mvA (h := ?_)
       | refine asA (h := ?_)
       | refine quA (h := ?_)
       | refine caA (hc := hA _) (h := ?_)
       | refine caA (hc := hM2 _) (h := ?_)
       | refine caA (hc := hB _) (h := ?_)
       | refine caA (hc := hC _) (h := ?_)
       | refine caA (hc := hA2 _) (h := ?_)
       | refine caA (hc := hD _) (h := ?_)
       | refine caA (hc := livesS _) (h := ?_)
       | refine caA (hc := h9 _) (h := ?_)
       | refine caA (hc := h10 _) (h := ?_)
       | refine caA (hc := hT1 _) (h := ?_)
       | refine caA (hc := hT2 _) (h := ?_)
       | refine caA (hc := hT3 _) (h := ?_)
       | refine caA (hc := hT4 _) (h := ?_)
     | (with_reducible refine isG ?_); first
       | refine stA (h := ?_)
       | refine srA (h := ?_)
       | refine swA (h := ?_)
       | refine s1A (h := ?_)
       | refine s0A (h := ?_)
       | refine sgA (h1 := fun _ => ?_) (h0 := fun _ => ?_)
       | refine sbA (h1 := fun _ => ?_) (h0 := fun _ => ?_)
     | (with_reducible refine isC ?_); first
       | refine ctA (h := ?_)
       | refine cfA (h := ?_)
       | refine cdA (h1 := fun _ => ?_) (h0 := fun _ => ?_)
       | refine cbA (h1 := fun _ => ?_) (h0 := fun _ => ?_)
     | with_reducible refine Ev.seq ?_
     | with_reducible refine Ev.ops ?_
     | with_reducible refine NxE ?_
     | with_reducible refine BxN ?_
     | with_reducible refine BxX ?_
     | with_reducible refine NxX ?_
     | with_reducible refine NxR ?_
     | with_reducible refine BxR ?_
     | with_reducible refine NxG ?_
     | with_reducible refine BxG ?_
     | with_reducible refine GxR ?_
     | with_reducible refine GxN ?_
     | with_reducible refine GxX ?_
     | with_reducible refine Ev.goto ?_
     | with_reducible refine Ev.block ?_
     | with_reducible refine Ev.skip ?_
     | with_reducible refine Ev.exit ?_
     | with_reducible refine Ev.ret ?_
     | with_reducible refine Ev.label ?_
     | with_reducible refine EvOps.nil ?_
     | with_reducible refine EvPlan.nil ?_
     | (with_reducible refine BxO ?_ ?_; · decide)
     )
    all_goals first
      | (exfalso; omega)
      | refine lfA (rl := [.tmp 6]) rfl (hv := by
      simp only [packV, strip, stripAgg, stripCell, List.map_cons, List.map_nil]
      first | done | rfl | exact congrArg V.bool (decide_eq_decide.2 (by omega)) | exact congrArg V.bool (decide_eq_false (by omega)).symm | exact congrArg V.bool (decide_eq_true (by omega)).symm) (hp := rfl)
end Go.Proofs.YtomkkdlfoellaaaDoor
