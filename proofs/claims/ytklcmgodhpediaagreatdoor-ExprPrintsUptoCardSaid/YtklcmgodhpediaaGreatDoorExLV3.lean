/- The lexer's configuration, and the seat's types. -/
import Derived.Test.YtklcmgodhpediaaGreatDoorExV2
import Derived.Test.YtklcmgodhpediaaGreatDoorN22
import Derived.Test.YtklcmgodhpediaaGreatDoorN26
set_option linter.unusedSimpArgs false
set_option linter.unusedVariables false
set_option maxRecDepth 100000
namespace Go.Proofs.YtklcmgodhpediaaGreatDoor.L
open Go Go.Vm Go.Proofs Go.Proofs.YtklcmgodhpediaaGreatDoor

def innerL (k : FuncId) : Bool := k == 45 || k == 47 || k == 48 || k == 50 || k == 54 || k == 55 || k == 56 || k == 75 || k == 148
noncomputable def cx : Cfg :=
  { YtklcmgodhpediaaGreatDoor.cx with keep := fun k => k == 47 || k == 48 || k == 50 || k == 54 || k == 55 || k == 56, grow := fun k => k == 148, pure := fun k => !innerL k, eqs := [68] }
theorem cx_ok : COk cx := ⟨fun t ht => by
  obtain rfl : t = 68 := by
    have h : t ∈ [68] := ht
    simpa using h
  exact ⟨by decide +kernel, by decide +kernel⟩, YtklcmgodhpediaaGreatDoor.cx_ok.funcs, YtklcmgodhpediaaGreatDoor.cx_ok.mixed, YtklcmgodhpediaaGreatDoor.cx_ok.inv⟩
theorem glob_pure : GlobPure cx := fun _ => rfl
theorem libs_ok : XOk cx := by
  intro k args st v st' h
  have e : st' = st := by
    have : (known k args).map (fun v => (v, st)) = some (v, st') := h
    rw [Option.map_eq_some_iff] at this
    obtain ⟨_, _, e⟩ := this
    cases e; rfl
  subst e
  exact AC.ofFn (C := YtklcmgodhpediaaGreatDoor.cx) (C' := cx) rfl rfl rfl rfl YtklcmgodhpediaaGreatDoor.cx_ok cx_glob YtklcmgodhpediaaGreatDoor.libs_ok (Fn.ofX (v := v) (st' := st') h ⟨rfl, rfl⟩)
theorem tr {k : FuncId} {args : List V} {st st' : St} {v : V} (h : FnS cx k args st v st') : FnS YtklcmgodhpediaaGreatDoor.cx k args st v st' := ⟨h.ex.tr cx_ok glob_pure libs_ok rfl rfl rfl rfl⟩

theorem tyE : cx.P = Tryz.prog ∧
    (Tryz.prog.underlying 3 = some (.int .i64) ∧ Tryz.prog.underlying 4 = some .bool ∧ Tryz.prog.underlying 5 = some (.int .u8) ∧ Tryz.prog.underlying 9 = some .string ∧ Tryz.prog.underlying 58 = some (.slice 68) ∧ Tryz.prog.underlying 44 = some (.int .i64) ∧ Tryz.prog.underlying 22 = some (.int .u64) ∧ Tryz.prog.underlying 28 = some (.int .u32) ∧
      Tryz.prog.underlying 74 = some (.slice 9) ∧ Tryz.prog.underlying 104 = some (.slice 5) ∧ Tryz.prog.underlying 158 = some (.int .i64) ∧ Tryz.prog.underlying 130 = some (.int .u64)) ∧
    (szOf cx 3 = some 1 ∧ szOf cx 4 = some 1 ∧ szOf cx 5 = some 1 ∧ szOf cx 9 = some 1 ∧ szOf cx 58 = some 1 ∧ szOf cx 44 = some 1 ∧ szOf cx 22 = some 1 ∧ szOf cx 68 = some 4 ∧ szOf cx 28 = some 1 ∧ szOf cx 83 = some 3 ∧ szOf cx 74 = some 1 ∧ szOf cx 109 = some 1 ∧ szOf cx 104 = some 1) := by
  refine ⟨rfl, ⟨Tryz.underlying3, Tryz.underlying4, Tryz.underlying5, Tryz.underlying9, Tryz.underlying58, Tryz.underlying44, Tryz.underlying22, Tryz.underlying28, Tryz.underlying74, Tryz.underlying104, Tryz.underlying158, Tryz.underlying130⟩, ?_⟩
  refine ⟨?_, ?_, ?_, ?_, ?_, ?_, ?_, ?_, ?_, ?_, ?_, ?_, ?_⟩ <;> decide +kernel

theorem tyX : (Tryz.prog.underlying 68 = some (TypeDesc.struct #[{ name := "Kind", type := 3, offset := 0, embedded := false, tag := "", pkgPath := "", byteOffset := 0 }, { name := "Text", type := 9, offset := 1, embedded := false, tag := "", pkgPath := "", byteOffset := 8 }, { name := "Num", type := 22, offset := 2, embedded := false, tag := "", pkgPath := "", byteOffset := 24 }, { name := "At", type := 3, offset := 3, embedded := false, tag := "", pkgPath := "", byteOffset := 32 }])) ∧ (Tryz.prog.underlying 83 = some (TypeDesc.struct #[{ name := "s", type := 9, offset := 0, embedded := false, tag := "", pkgPath := "skein/lex", byteOffset := 0 }, { name := "at", type := 3, offset := 1, embedded := false, tag := "", pkgPath := "skein/lex", byteOffset := 16 }, { name := "out", type := 58, offset := 2, embedded := false, tag := "", pkgPath := "skein/lex", byteOffset := 24 }])) := ⟨Tryz.underlying68, Tryz.underlying83⟩
theorem bdE : (∀ a b c d, buildV cx 68 [(0, .int .i64 a), (1, .str b), (2, .int .u64 c), (3, .int .i64 d)] = some (.agg [.int .i64 a, .str b, .int .u64 c, .int .i64 d])) ∧
    (∀ a d, buildV cx 68 [(0, .int .i64 a), (3, .int .i64 d)] = some (.agg [.int .i64 a, .str [], .int .u64 0, .int .i64 d])) ∧
    (∀ s, buildV cx 83 [(0, .str s)] = some (.agg [.str s, .int .i64 0, .sl .full []])) := ⟨fun _ _ _ _ => by rfl, fun _ _ => by rfl, fun _ => by rfl⟩
theorem cvE : (∀ H n, convV cx H 3 22 (.int .i64 n) = some (.int .u64 (IntKind.u64.wrap n))) ∧ (∀ H n, convV cx H 28 22 (.int .u32 n) = some (.int .u64 (IntKind.u64.wrap n))) ∧ (∀ H n, convV cx H 5 22 (.int .u8 n) = some (.int .u64 (IntKind.u64.wrap n))) ∧
    (∀ H n, convV cx H 3 5 (.int .i64 n) = some (.int .u8 (IntKind.u8.wrap n))) ∧ (∀ H n, convV cx H 3 130 (.int .i64 n) = some (.int .u64 (IntKind.u64.wrap n))) ∧ (∀ H n, convV cx H 22 28 (.int .u64 n) = some (.int .u32 (IntKind.u32.wrap n))) := by
  refine ⟨?_, ?_, ?_, ?_, ?_, ?_⟩ <;> intros <;> simp only [convV, tyE]
end Go.Proofs.YtklcmgodhpediaaGreatDoor.L
/- Kinds of bytes. -/
namespace Go.Proofs.YtklcmgodhpediaaGreatDoor.L
open Go Go.Vm Go.Proofs Go.Proofs.YtklcmgodhpediaaGreatDoor

theorem digitS (c : Int) (st : St) : FnS cx 49 [.int .u8 c] st (.bool (decide ((48 ≤ c ∧ c ≤ 57)))) st := by
  refine goP Tryz.func49 rfl rfl rfl rfl ?_ ?_
  · rfl
  intro t ht
  have a0 : tget t 0 = .int .u8 c := ht 0 _ rfl
  clear ht
  have ex := @a0
  repeat' (first
   | (with_reducible refine isO ?_); first | refine mvA (h := ?_) | refine asA (h := ?_) | refine quA (h := ?_)
   | (with_reducible refine isG ?_); first | refine stA (h := ?_) | refine srA (h := ?_) | refine swA (h := ?_) | refine s1A (h := ?_) | refine s0A (h := ?_) | refine sgA (h1 := fun _ => ?_) (h0 := fun _ => ?_) | refine sbA (h1 := fun _ => ?_) (h0 := fun _ => ?_)
   | (with_reducible refine isC ?_); first | refine ctA (h := ?_) | refine cfA (h := ?_) | refine cdA (h1 := fun _ => ?_) (h0 := fun _ => ?_) | refine cbA (h1 := fun _ => ?_) (h0 := fun _ => ?_)
   | with_reducible first | refine Ev.seq ?_ | refine Ev.ops ?_ | refine NxE ?_ | refine BxN ?_ | refine BxX ?_ | refine NxX ?_ | refine NxR ?_ | refine BxR ?_ | refine Ev.block ?_ | refine Ev.skip ?_ | refine Ev.exit ?_ | refine Ev.ret ?_ | refine EvOps.nil ?_ | refine EvPlan.nil ?_
   | (with_reducible refine BxO ?_ ?_; · decide)
   )
  repeat' refine lfA (rl := [.tmp 2]) rfl (hv := by
      simp only [packV, strip, stripAgg, stripCell, List.map_cons, List.map_nil]
      first | done | rfl | exact congrArg V.bool (decide_eq_decide.2 (by omega)) | exact congrArg V.bool (decide_eq_false (by omega)).symm | exact congrArg V.bool (decide_eq_true (by omega)).symm) (hp := rfl)
theorem letterS (c : Int) (st : St) : FnS cx 51 [.int .u8 c] st (.bool (decide (((97 ≤ c ∧ c ≤ 122) ∨ (65 ≤ c ∧ c ≤ 90) ∨ c = 95)))) st := by
  refine goP Tryz.func51 rfl rfl rfl rfl ?_ ?_
  · rfl
  intro t ht
  have a0 : tget t 0 = .int .u8 c := ht 0 _ rfl
  clear ht
  have ex := @a0
  repeat' (first
   | (with_reducible refine isO ?_); first | refine mvA (h := ?_) | refine asA (h := ?_) | refine quA (h := ?_)
   | (with_reducible refine isG ?_); first | refine stA (h := ?_) | refine srA (h := ?_) | refine swA (h := ?_) | refine s1A (h := ?_) | refine s0A (h := ?_) | refine sgA (h1 := fun _ => ?_) (h0 := fun _ => ?_) | refine sbA (h1 := fun _ => ?_) (h0 := fun _ => ?_)
   | (with_reducible refine isC ?_); first | refine ctA (h := ?_) | refine cfA (h := ?_) | refine cdA (h1 := fun _ => ?_) (h0 := fun _ => ?_) | refine cbA (h1 := fun _ => ?_) (h0 := fun _ => ?_)
   | with_reducible first | refine Ev.seq ?_ | refine Ev.ops ?_ | refine NxE ?_ | refine BxN ?_ | refine BxX ?_ | refine NxX ?_ | refine NxR ?_ | refine BxR ?_ | refine Ev.block ?_ | refine Ev.skip ?_ | refine Ev.exit ?_ | refine Ev.ret ?_ | refine EvOps.nil ?_ | refine EvPlan.nil ?_
   | (with_reducible refine BxO ?_ ?_; · decide)
   )
  repeat' refine lfA (rl := [.tmp 2]) rfl (hv := by
      simp only [packV, strip, stripAgg, stripCell, List.map_cons, List.map_nil]
      first | done | rfl | exact congrArg V.bool (decide_eq_decide.2 (by omega)) | exact congrArg V.bool (decide_eq_false (by omega)).symm | exact congrArg V.bool (decide_eq_true (by omega)).symm) (hp := rfl)
theorem wordS (c : Int) (st : St) : FnS cx 53 [.int .u8 c] st (.bool (decide (((97 ≤ c ∧ c ≤ 122) ∨ (65 ≤ c ∧ c ≤ 90) ∨ c = 95) ∨ (48 ≤ c ∧ c ≤ 57)))) st := by
  refine goP Tryz.func53 rfl rfl rfl rfl ?_ ?_
  · rfl
  intro t ht
  have a0 : tget t 0 = .int .u8 c := ht 0 _ rfl
  clear ht
  have ex := @a0
  repeat' (first
   | (with_reducible refine isO ?_); first | refine mvA (h := ?_) | refine asA (h := ?_) | refine quA (h := ?_) | refine caA (hc := letterS _ _) (h := ?_) | refine caA (hc := digitS _ _) (h := ?_)
   | (with_reducible refine isG ?_); first | refine stA (h := ?_) | refine srA (h := ?_) | refine swA (h := ?_) | refine s1A (h := ?_) | refine s0A (h := ?_) | refine sgA (h1 := fun _ => ?_) (h0 := fun _ => ?_) | refine sbA (h1 := fun _ => ?_) (h0 := fun _ => ?_)
   | (with_reducible refine isC ?_); first | refine ctA (h := ?_) | refine cfA (h := ?_) | refine cdA (h1 := fun _ => ?_) (h0 := fun _ => ?_) | refine cbA (h1 := fun _ => ?_) (h0 := fun _ => ?_)
   | with_reducible first | refine Ev.seq ?_ | refine Ev.ops ?_ | refine NxE ?_ | refine BxN ?_ | refine BxX ?_ | refine NxX ?_ | refine NxR ?_ | refine BxR ?_ | refine Ev.block ?_ | refine Ev.skip ?_ | refine Ev.exit ?_ | refine Ev.ret ?_ | refine EvOps.nil ?_ | refine EvPlan.nil ?_
   | (with_reducible refine BxO ?_ ?_; · decide)
   )
  repeat' refine lfA (rl := [.tmp 2]) rfl (hv := by
      simp only [packV, strip, stripAgg, stripCell, List.map_cons, List.map_nil]
      first | done | rfl | exact congrArg V.bool (decide_eq_decide.2 (by omega)) | exact congrArg V.bool (decide_eq_false (by omega)).symm | exact congrArg V.bool (decide_eq_true (by omega)).symm) (hp := rfl)
theorem lineS (c : Int) (st : St) : FnS cx 46 [.int .u8 c] st (.bool (decide (c ≠ 10))) st := by
  refine goP Tryz.func46 rfl rfl rfl rfl ?_ ?_
  · rfl
  intro t ht
  have a0 : tget t 0 = .int .u8 c := ht 0 _ rfl
  clear ht
  have ex := @a0
  repeat' (first
   | (with_reducible refine isO ?_); first | refine mvA (h := ?_) | refine asA (h := ?_) | refine quA (h := ?_)
   | (with_reducible refine isC ?_); first | refine ctA (h := ?_) | refine cfA (h := ?_) | refine cdA (h1 := fun _ => ?_) (h0 := fun _ => ?_) | refine cbA (h1 := fun _ => ?_) (h0 := fun _ => ?_)
   | with_reducible first | refine Ev.seq ?_ | refine Ev.ops ?_ | refine NxE ?_ | refine BxN ?_ | refine BxX ?_ | refine NxX ?_ | refine NxR ?_ | refine BxR ?_ | refine Ev.block ?_ | refine Ev.skip ?_ | refine Ev.exit ?_ | refine Ev.ret ?_ | refine EvOps.nil ?_ | refine EvPlan.nil ?_
   | (with_reducible refine BxO ?_ ?_; · decide)
   )
  repeat' refine lfA (rl := [.tmp 2]) rfl (hv := by
      simp only [packV, strip, stripAgg, stripCell, List.map_cons, List.map_nil]
      first | done | rfl | exact congrArg V.bool (decide_eq_decide.2 (by omega)) | exact congrArg V.bool (decide_eq_false (by omega)).symm | exact congrArg V.bool (decide_eq_true (by omega)).symm) (hp := rfl)
theorem nameS (c : Int) (st : St) : FnS cx 52 [.int .u8 c] st (.bool (decide ((((97 ≤ c ∧ c ≤ 122) ∨ (65 ≤ c ∧ c ≤ 90) ∨ c = 95) ∨ (48 ≤ c ∧ c ≤ 57)) ∨ c = 46))) st := by
  refine goP Tryz.func52 rfl rfl rfl rfl ?_ ?_
  · rfl
  intro t ht
  have a0 : tget t 0 = .int .u8 c := ht 0 _ rfl
  clear ht
  have ex := @a0
  repeat' (first
   | (with_reducible refine isO ?_); first | refine mvA (h := ?_) | refine asA (h := ?_) | refine quA (h := ?_) | refine caA (hc := wordS _ _) (h := ?_)
   | (with_reducible refine isG ?_); first | refine stA (h := ?_) | refine srA (h := ?_) | refine swA (h := ?_) | refine s1A (h := ?_) | refine s0A (h := ?_) | refine sgA (h1 := fun _ => ?_) (h0 := fun _ => ?_) | refine sbA (h1 := fun _ => ?_) (h0 := fun _ => ?_)
   | (with_reducible refine isC ?_); first | refine ctA (h := ?_) | refine cfA (h := ?_) | refine cdA (h1 := fun _ => ?_) (h0 := fun _ => ?_) | refine cbA (h1 := fun _ => ?_) (h0 := fun _ => ?_)
   | with_reducible first | refine Ev.seq ?_ | refine Ev.ops ?_ | refine NxE ?_ | refine BxN ?_ | refine BxX ?_ | refine NxX ?_ | refine NxR ?_ | refine BxR ?_ | refine Ev.block ?_ | refine Ev.skip ?_ | refine Ev.exit ?_ | refine Ev.ret ?_ | refine EvOps.nil ?_ | refine EvPlan.nil ?_
   | (with_reducible refine BxO ?_ ?_; · decide)
   )
  repeat' refine lfA (rl := [.tmp 2]) rfl (hv := by
      simp only [packV, strip, stripAgg, stripCell, List.map_cons, List.map_nil]
      first | done | rfl | exact congrArg V.bool (decide_eq_decide.2 (by omega)) | exact congrArg V.bool (decide_eq_false (by omega)).symm | exact congrArg V.bool (decide_eq_true (by omega)).symm) (hp := rfl)
theorem dotsS (c : Int) (st : St) : FnS cx 76 [.int .u8 c] st (.bool (decide ((48 ≤ c ∧ c ≤ 57) ∨ c = 46))) st := by
  refine goP Tryz.func76 rfl rfl rfl rfl ?_ ?_
  · rfl
  intro t ht
  have a0 : tget t 0 = .int .u8 c := ht 0 _ rfl
  clear ht
  have ex := @a0
  repeat' (first
   | (with_reducible refine isO ?_); first | refine mvA (h := ?_) | refine asA (h := ?_) | refine quA (h := ?_) | refine caA (hc := digitS _ _) (h := ?_)
   | (with_reducible refine isG ?_); first | refine stA (h := ?_) | refine srA (h := ?_) | refine swA (h := ?_) | refine s1A (h := ?_) | refine s0A (h := ?_) | refine sgA (h1 := fun _ => ?_) (h0 := fun _ => ?_) | refine sbA (h1 := fun _ => ?_) (h0 := fun _ => ?_)
   | (with_reducible refine isC ?_); first | refine ctA (h := ?_) | refine cfA (h := ?_) | refine cdA (h1 := fun _ => ?_) (h0 := fun _ => ?_) | refine cbA (h1 := fun _ => ?_) (h0 := fun _ => ?_)
   | with_reducible first | refine Ev.seq ?_ | refine Ev.ops ?_ | refine NxE ?_ | refine BxN ?_ | refine BxX ?_ | refine NxX ?_ | refine NxR ?_ | refine BxR ?_ | refine Ev.block ?_ | refine Ev.skip ?_ | refine Ev.exit ?_ | refine Ev.ret ?_ | refine EvOps.nil ?_ | refine EvPlan.nil ?_
   | (with_reducible refine BxO ?_ ?_; · decide)
   )
  repeat' refine lfA (rl := [.tmp 2]) rfl (hv := by
      simp only [packV, strip, stripAgg, stripCell, List.map_cons, List.map_nil]
      first | done | rfl | exact congrArg V.bool (decide_eq_decide.2 (by omega)) | exact congrArg V.bool (decide_eq_false (by omega)).symm | exact congrArg V.bool (decide_eq_true (by omega)).symm) (hp := rfl)
theorem hexS (c : Int) (st : St) : FnS cx 79 [.int .u8 c] st (.bool (decide ((48 ≤ c ∧ c ≤ 57) ∨ (97 ≤ c ∧ c ≤ 102)))) st := by
  refine goP Tryz.func79 rfl rfl rfl rfl ?_ ?_
  · rfl
  intro t ht
  have a0 : tget t 0 = .int .u8 c := ht 0 _ rfl
  clear ht
  have ex := @a0
  repeat' (first
   | (with_reducible refine isO ?_); first | refine mvA (h := ?_) | refine asA (h := ?_) | refine quA (h := ?_) | refine caA (hc := digitS _ _) (h := ?_)
   | (with_reducible refine isG ?_); first | refine stA (h := ?_) | refine srA (h := ?_) | refine swA (h := ?_) | refine s1A (h := ?_) | refine s0A (h := ?_) | refine sgA (h1 := fun _ => ?_) (h0 := fun _ => ?_) | refine sbA (h1 := fun _ => ?_) (h0 := fun _ => ?_)
   | (with_reducible refine isC ?_); first | refine ctA (h := ?_) | refine cfA (h := ?_) | refine cdA (h1 := fun _ => ?_) (h0 := fun _ => ?_) | refine cbA (h1 := fun _ => ?_) (h0 := fun _ => ?_)
   | with_reducible first | refine Ev.seq ?_ | refine Ev.ops ?_ | refine NxE ?_ | refine BxN ?_ | refine BxX ?_ | refine NxX ?_ | refine NxR ?_ | refine BxR ?_ | refine Ev.block ?_ | refine Ev.skip ?_ | refine Ev.exit ?_ | refine Ev.ret ?_ | refine EvOps.nil ?_ | refine EvPlan.nil ?_
   | (with_reducible refine BxO ?_ ?_; · decide)
   )
  repeat' refine lfA (rl := [.tmp 2]) rfl (hv := by
      simp only [packV, strip, stripAgg, stripCell, List.map_cons, List.map_nil]
      first | done | rfl | exact congrArg V.bool (decide_eq_decide.2 (by omega)) | exact congrArg V.bool (decide_eq_false (by omega)).symm | exact congrArg V.bool (decide_eq_true (by omega)).symm) (hp := rfl)
theorem textS (c : Int) (st : St) : FnS cx 81 [.int .u8 c] st (.bool (decide (32 ≤ c ∧ c ≤ 126 ∧ c ≠ 34 ∧ c ≠ 92))) st := by
  refine goP Tryz.func81 rfl rfl rfl rfl ?_ ?_
  · rfl
  intro t ht
  have a0 : tget t 0 = .int .u8 c := ht 0 _ rfl
  clear ht
  have ex := @a0
  repeat' (first
   | (with_reducible refine isO ?_); first | refine mvA (h := ?_) | refine asA (h := ?_) | refine quA (h := ?_)
   | (with_reducible refine isG ?_); first | refine stA (h := ?_) | refine srA (h := ?_) | refine swA (h := ?_) | refine s1A (h := ?_) | refine s0A (h := ?_) | refine sgA (h1 := fun _ => ?_) (h0 := fun _ => ?_) | refine sbA (h1 := fun _ => ?_) (h0 := fun _ => ?_)
   | (with_reducible refine isC ?_); first | refine ctA (h := ?_) | refine cfA (h := ?_) | refine cdA (h1 := fun _ => ?_) (h0 := fun _ => ?_) | refine cbA (h1 := fun _ => ?_) (h0 := fun _ => ?_)
   | with_reducible first | refine Ev.seq ?_ | refine Ev.ops ?_ | refine NxE ?_ | refine BxN ?_ | refine BxX ?_ | refine NxX ?_ | refine NxR ?_ | refine BxR ?_ | refine Ev.block ?_ | refine Ev.skip ?_ | refine Ev.exit ?_ | refine Ev.ret ?_ | refine EvOps.nil ?_ | refine EvPlan.nil ?_
   | (with_reducible refine BxO ?_ ?_; · decide)
   )
  repeat' refine lfA (rl := [.tmp 2]) rfl (hv := by
      simp only [packV, strip, stripAgg, stripCell, List.map_cons, List.map_nil]
      first | done | rfl | exact congrArg V.bool (decide_eq_decide.2 (by omega)) | exact congrArg V.bool (decide_eq_false (by omega)).symm | exact congrArg V.bool (decide_eq_true (by omega)).symm) (hp := rfl)
end Go.Proofs.YtklcmgodhpediaaGreatDoor.L
/- The reader: spans, ends, tokens taken. -/
namespace Go.Proofs.YtklcmgodhpediaaGreatDoor.L
open Go Go.Vm Go.Proofs Go.Proofs.YtklcmgodhpediaaGreatDoor

theorem strAt {s : List UInt8} {i : Nat} (h : i < s.length) : s[i]? = some (s.getD i 0) := by
  rw [List.getElem?_eq_getElem h]; simp [h]

def spanN (p : Int → Bool) (s : List UInt8) (i : Nat) : Nat := ((s.drop i).takeWhile fun b => p b.toNat).length

theorem spanN_end (p : Int → Bool) {s : List UInt8} {i : Nat} (h : s.length ≤ i) : spanN p s i = 0 := by
  unfold spanN; rw [List.drop_of_length_le h]; rfl
theorem spanN_step (p : Int → Bool) {s : List UInt8} {i : Nat} (h : i < s.length) : spanN p s i = if p (s.getD i 0).toNat then spanN p s (i + 1) + 1 else 0 := by
  unfold spanN
  have : s.drop i = s.getD i 0 :: s.drop (i + 1) := by rw [List.drop_eq_getElem_cons h]; simp [h]
  rw [this, List.takeWhile_cons]
  split <;> simp
set_option maxHeartbeats 4000000 in
theorem spanS {k : Nat} {p : Int → Prop} [DecidablePred p] (hp : ∀ c st, FnS cx k [.int .u8 c] st (.bool (decide (p c))) st) (sx : List UInt8) (hs : sx.length ≤ 1000000) (at_ out : V) (H : List (Nat × Ob)) (n : Nat) (hg : hget H 0 = some (.cells [.str sx, at_, out])) (hH : hdrop n H = H) (i : Nat) (hi : i ≤ 1000000) :
    FnS cx 45 [.ptr 0 0, .int .i64 i, .func (.func k) [] []] ⟨H, n⟩ (.int .i64 (spanN (fun c => decide (p c)) sx i)) ⟨H, n⟩ := by
  refine goS Tryz.func45 rfl rfl rfl rfl ?_
  intro t ht
  have a0 : tget t 0 = .ptr 0 0 := ht 0 _ rfl
  have a1 : tget t 1 = .int .i64 i := ht 1 _ rfl
  have a2 : tget t 2 = .func (.func k) [] [] := ht 2 _ rfl
  clear ht
  have ex := And.intro @a0 (And.intro @a1 (And.intro @a2 @hg))
  repeat' (first
   | (with_reducible refine isO ?_); first | refine mvA (h := ?_) | refine asA (h := ?_) | refine quA (h := ?_)
   | (with_reducible refine isG ?_); first | refine stA (h := ?_) | refine srA (h := ?_) | refine swA (h := ?_) | refine s1A (h := ?_) | refine s0A (h := ?_) | refine sgA (h1 := fun _ => ?_) (h0 := fun _ => ?_) | refine sbA (h1 := fun _ => ?_) (h0 := fun _ => ?_)
   | (with_reducible refine isC ?_); first | refine ctA (h := ?_) | refine cfA (h := ?_) | refine cdA (h1 := fun _ => ?_) (h0 := fun _ => ?_) | refine cbA (h1 := fun _ => ?_) (h0 := fun _ => ?_)
   | with_reducible first | refine Ev.seq ?_ | refine Ev.ops ?_ | refine NxE ?_ | refine BxN ?_ | refine BxX ?_ | refine NxX ?_ | refine NxR ?_ | refine BxR ?_ | refine Ev.block ?_ | refine Ev.skip ?_ | refine Ev.exit ?_ | refine Ev.ret ?_ | refine EvOps.nil ?_ | refine EvPlan.nil ?_
   | (with_reducible refine BxO ?_ ?_; · decide)
   )
  refine loopT (fun r t st => ∃ j : Nat, r = 1000001 - j ∧ i ≤ j ∧ j ≤ 1000000 ∧ spanN (fun c => decide (p c)) sx i = (j - i) + spanN (fun c => decide (p c)) sx j ∧ tget t 0 = .ptr 0 0 ∧ tget t 1 = .int .i64 i ∧ tget t 2 = .func (.func k) [] [] ∧ tget t 7 = .int .i64 j ∧ st = ⟨H, n⟩) (n := 1000001 - i) ?_ ?_
  · refine ⟨i, rfl, Nat.le_refl _, hi, by omega, ?_, ?_, ?_, ?_, rfl⟩
    · simp only [↓evP, ↓tgP, ↓reduceIte, Nat.reduceEqDiff, reduceCtorEq, List.map_cons, List.map_nil, List.nil_append, List.append_nil, List.toList_toArray, a0]
    · simp only [↓evP, ↓tgP, ↓reduceIte, Nat.reduceEqDiff, reduceCtorEq, List.map_cons, List.map_nil, List.nil_append, List.append_nil, List.toList_toArray, a1]
    · simp only [↓evP, ↓tgP, ↓reduceIte, Nat.reduceEqDiff, reduceCtorEq, List.map_cons, List.map_nil, List.nil_append, List.append_nil, List.toList_toArray, a2]
    · simp only [↓evP, ↓tgP, ↓reduceIte, Nat.reduceEqDiff, reduceCtorEq, List.map_cons, List.map_nil, List.nil_append, List.append_nil, List.toList_toArray, a0]
  rintro r t st ⟨j, rfl, hj, hj2, he, c0, c1, c2, c7, rfl⟩
  have ex := And.intro @c0 (And.intro @c1 (And.intro @c2 (And.intro @c7 (And.intro @hg @strAt))))
  repeat' (first
   | (with_reducible refine isO ?_); first | refine mvA (h := ?_) | refine asA (h := ?_) | refine quA (h := ?_) | refine caA (hc := hp _ _) (h := ?_)
   | (with_reducible refine isG ?_); first | refine stA (h := ?_) | refine srA (h := ?_) | refine swA (h := ?_) | refine s1A (h := ?_) | refine s0A (h := ?_) | refine sgA (h1 := fun _ => ?_) (h0 := fun _ => ?_) | refine sbA (h1 := fun _ => ?_) (h0 := fun _ => ?_)
   | (with_reducible refine isC ?_); first | refine ctA (h := ?_) | refine cfA (h := ?_) | refine cdA (h1 := fun _ => ?_) (h0 := fun _ => ?_) | refine cbA (h1 := fun _ => ?_) (h0 := fun _ => ?_)
   | with_reducible first | refine Ev.seq ?_ | refine Ev.ops ?_ | refine NxE ?_ | refine BxN ?_ | refine BxX ?_ | refine NxX ?_ | refine NxR ?_ | refine BxR ?_ | refine Ev.block ?_ | refine Ev.skip ?_ | refine Ev.exit ?_ | refine Ev.ret ?_ | refine EvOps.nil ?_ | refine EvPlan.nil ?_
   | (with_reducible refine BxO ?_ ?_; · decide)
   )
  · rename_i h1 h2
    have h1' : j < sx.length := by omega
    have e2 : spanN (fun c => decide (p c)) sx j = spanN (fun c => decide (p c)) sx (j + 1) + 1 := by rw [spanN_step _ h1', if_pos (by simpa using h2)]
    refine ⟨1000001 - (j + 1), by omega, rfl, j + 1, rfl, by omega, by omega, by omega, ?_, ?_, ?_, ?_, rfl⟩
    · simp only [↓evP, ↓tgP, ↓reduceIte, Nat.reduceEqDiff, reduceCtorEq, List.map_cons, List.map_nil, List.nil_append, List.append_nil, List.toList_toArray, c0]
    · simp only [↓evP, ↓tgP, ↓reduceIte, Nat.reduceEqDiff, reduceCtorEq, List.map_cons, List.map_nil, List.nil_append, List.append_nil, List.toList_toArray, c1]
    · simp only [↓evP, ↓tgP, ↓reduceIte, Nat.reduceEqDiff, reduceCtorEq, List.map_cons, List.map_nil, List.nil_append, List.append_nil, List.toList_toArray, c2]
    · simp only [↓evP, ↓tgP, ↓reduceIte, Nat.reduceEqDiff, reduceCtorEq, List.map_cons, List.map_nil, List.nil_append, List.append_nil, List.toList_toArray, c7]; rfl
  · rename_i h1 h2
    have h1' : j < sx.length := by omega
    have e2 : spanN (fun c => decide (p c)) sx j = 0 := by rw [spanN_step _ h1', if_neg (by simpa using h2)]
    refine lsA (rl := [.tmp 6]) rfl (hv := by
      simp only [leaveV, packV, strip, stripAgg, stripCell, hdrop, Nat.reduceLeDiff, List.map_cons, List.map_nil, show cx.grow 45 = false from rfl, show cx.keep 45 = false from rfl, show cx.frz 45 = false from rfl, if_false, if_true, Bool.false_eq_true]
      rw [hH, show ((j : Int) - i) = ((spanN (fun c => decide (p c)) sx i : Nat) : Int) by omega])
  · have e2 : spanN (fun c => decide (p c)) sx j = 0 := spanN_end _ (by omega)
    refine lsA (rl := [.tmp 6]) rfl (hv := by
      simp only [leaveV, packV, strip, stripAgg, stripCell, hdrop, Nat.reduceLeDiff, List.map_cons, List.map_nil, show cx.grow 45 = false from rfl, show cx.keep 45 = false from rfl, show cx.frz 45 = false from rfl, if_false, if_true, Bool.false_eq_true]
      rw [hH, show ((j : Int) - i) = ((spanN (fun c => decide (p c)) sx i : Nat) : Int) by omega])

def letP (c : Int) : Prop := (97 ≤ c ∧ c ≤ 122) ∨ (65 ≤ c ∧ c ≤ 90) ∨ c = 95
def digP (c : Int) : Prop := 48 ≤ c ∧ c ≤ 57
instance (c : Int) : Decidable (letP c) := by unfold letP; infer_instance
instance (c : Int) : Decidable (digP c) := by unfold digP; infer_instance
def endsB (s : List UInt8) (i : Nat) : Prop := s.length ≤ i ∨ ¬ (letP (s.getD i 0).toNat ∨ digP (s.getD i 0).toNat)
instance (s : List UInt8) (i : Nat) : Decidable (endsB s i) := by unfold endsB; infer_instance

set_option maxHeartbeats 4000000 in
theorem endsS (sx : List UInt8) (hs : sx.length ≤ 1000000) (at_ out : V) (H : List (Nat × Ob)) (n : Nat) (hg : hget H 0 = some (.cells [.str sx, at_, out])) (hH : hdrop n H = H) (i : Nat) (hi : i ≤ 1000000) :
    FnS cx 75 [.ptr 0 0, .int .i64 i] ⟨H, n⟩ (.bool (decide (endsB sx i))) ⟨H, n⟩ := by
  refine goS Tryz.func75 rfl rfl rfl rfl ?_
  intro t ht
  have a0 : tget t 0 = .ptr 0 0 := ht 0 _ rfl
  have a1 : tget t 1 = .int .i64 i := ht 1 _ rfl
  clear ht
  have ex := And.intro @a0 (And.intro @a1 (And.intro @hg @strAt))
  repeat' (first
   | (with_reducible refine isO ?_); first | refine mvA (h := ?_) | refine asA (h := ?_) | refine quA (h := ?_) | refine caA (hc := wordS _ _) (h := ?_)
   | (with_reducible refine isG ?_); first | refine stA (h := ?_) | refine srA (h := ?_) | refine swA (h := ?_) | refine s1A (h := ?_) | refine s0A (h := ?_) | refine sgA (h1 := fun _ => ?_) (h0 := fun _ => ?_) | refine sbA (h1 := fun _ => ?_) (h0 := fun _ => ?_)
   | (with_reducible refine isC ?_); first | refine ctA (h := ?_) | refine cfA (h := ?_) | refine cdA (h1 := fun _ => ?_) (h0 := fun _ => ?_) | refine cbA (h1 := fun _ => ?_) (h0 := fun _ => ?_)
   | with_reducible first | refine Ev.seq ?_ | refine Ev.ops ?_ | refine NxE ?_ | refine BxN ?_ | refine BxX ?_ | refine NxX ?_ | refine NxR ?_ | refine BxR ?_ | refine Ev.block ?_ | refine Ev.skip ?_ | refine Ev.exit ?_ | refine Ev.ret ?_ | refine EvOps.nil ?_ | refine EvPlan.nil ?_
   | (with_reducible refine BxO ?_ ?_; · decide)
   )
  all_goals
    refine lsA (rl := [.tmp 4]) rfl (hv := by
      simp only [leaveV, packV, strip, stripAgg, stripCell, hdrop, Nat.reduceLeDiff, List.map_cons, List.map_nil, show cx.grow 75 = false from rfl, show cx.keep 75 = false from rfl, show cx.frz 75 = false from rfl, if_false, if_true, Bool.false_eq_true]
      rw [hH]; unfold endsB letP digP; congr 2; first | exact decide_eq_decide.2 (by omega) | exact (decide_eq_true (by omega)).symm | exact (decide_eq_false (by omega)).symm)
end Go.Proofs.YtklcmgodhpediaaGreatDoor.L
/- Tokens taken. -/
namespace Go.Proofs.YtklcmgodhpediaaGreatDoor.L
open Go Go.Vm Go.Proofs Go.Proofs.YtklcmgodhpediaaGreatDoor

structure Tok where
  kind : Int
  text : List UInt8
  num : Int
  place : Int
def Tok.v (t : Tok) : V := .agg [.int .i64 t.kind, .str t.text, .int .u64 t.num, .int .i64 t.place]
theorem appTF {t : Tok} {tip : Tip} {H : List (Nat × Ob)} {n : Nat} : appendV cx ⟨H, n⟩ 58 (.sl .full []) (.sl tip [t.v]) = some (.sl (.own n) [t.v], ⟨(n, .tip 4) :: H, n + 1⟩) := by
  have hz : zeroOk cx 68 4 = true := by decide +kernel
  have hb : byOf cx 68 = 40 := by decide +kernel
  have e : [t.v].map stripAgg = [t.v] := rfl
  simp only [appendV, tyE, addedV, szE, Tok.v, ncE, List.length_cons, List.length_nil, hz, hb]
  rfl
theorem appTO {l : List Tok} {t : Tok} {tip : Tip} {H : List (Nat × Ob)} {n k : Nat} (hl : l.length ≤ 1000000) (h0 : l ≠ []) : appendV cx ⟨(k, .tip 4) :: H, n⟩ 58 (.sl (.own k) (l.map Tok.v)) (.sl tip [t.v]) = some (.sl (.own n) ((l ++ [t]).map Tok.v), ⟨(n, .tip 4) :: H, n + 1⟩) := by
  have hz : zeroOk cx 68 4 = true := by decide +kernel
  have hb : byOf cx 68 = 40 := by decide +kernel
  have hs : szOk 4 (l.map Tok.v) = true := by cases l <;> rfl
  have hs2 : szOk 4 [t.v] = true := rfl
  have hc : 0 < 4 ∧ True ∧ True ∧ ((l.map Tok.v).length + [t.v].length) * byOf cx 68 ≤ 2 ^ 47 ∧ (l.map Tok.v).length + [t.v].length ≤ 2 ^ 47 := by
    refine ⟨by omega, trivial, trivial, ?_, ?_⟩ <;> simp [hb] <;> omega
  simp only [appendV, tyE, addedV, hs, hs2, if_true, List.isEmpty_cons, Bool.false_eq_true, if_false, hz]
  rw [if_pos hc]
  simp only [hgE, beq_self_eq_true, if_true, hdel, List.map_append, List.map_cons, List.map_nil]
  rfl

theorem appF4 {a c d : Int} {b : List UInt8} {tip : Tip} {H : List (Nat × Ob)} {n : Nat} : appendV cx ⟨H, n⟩ 58 (.sl .full []) (.sl tip [(.agg [.int .i64 a, .str b, .int .u64 c, .int .i64 d])]) = some (.sl (.own n) [(.agg [.int .i64 a, .str b, .int .u64 c, .int .i64 d])], ⟨(n, .tip 4) :: H, n + 1⟩) := appTF (t := ⟨a, b, c, d⟩)
theorem appO4 {a c d : Int} {b : List UInt8} {l : List Tok} {tip : Tip} {H : List (Nat × Ob)} {n k : Nat} (hl : l.length ≤ 1000000) (h0 : l ≠ []) : appendV cx ⟨(k, .tip 4) :: H, n⟩ 58 (.sl (.own k) (l.map Tok.v)) (.sl tip [(.agg [.int .i64 a, .str b, .int .u64 c, .int .i64 d])]) = some (.sl (.own n) ((l ++ [Tok.mk a b c d]).map Tok.v), ⟨(n, .tip 4) :: H, n + 1⟩) := appTO (t := ⟨a, b, c, d⟩) hl h0
theorem beqN (n : Nat) : (n + 1 == 0) = false := by simp
theorem beqS0 {n : Nat} (h : n ≠ 0) : (n == 0) = false := by simpa using h
theorem bs4 (a : Int) (b : List UInt8) (c d : Int) : buildSliceV cx 58 1 [(0, (.agg [.int .i64 a, .str b, .int .u64 c, .int .i64 d]))] = some (.sl .full [(.agg [.int .i64 a, .str b, .int .u64 c, .int .i64 d])]) := by rfl
set_option maxHeartbeats 4000000 in
theorem take0 (sx : List UInt8) (a k sz nm : Int) (tx : List UInt8) (n : Nat)  (ha : 0 ≤ a) (ha2 : a ≤ 1000000) (hz : 0 ≤ sz) (hz2 : sz ≤ 1000000) :
    FnS cx 54 [.ptr 0 0, .int .i64 k, .int .i64 sz, .str tx, .int .u64 nm] ⟨[(0, .cells [.str sx, .int .i64 a, .sl .full []])], n + 1⟩ (.tup []) ⟨[(n + 1, .tip 4), (0, .cells [.str sx, .int .i64 (a + sz), .sl (.own (n + 1)) [(Tok.mk k tx nm a).v]])], n + 2⟩ := by
  refine goS Tryz.func54 rfl rfl rfl rfl ?_
  intro t ht
  have a0 : tget t 0 = .ptr 0 0 := ht 0 _ rfl
  have a1 : tget t 1 = .int .i64 k := ht 1 _ rfl
  have a2 : tget t 2 = .int .i64 sz := ht 2 _ rfl
  have a3 : tget t 3 = .str tx := ht 3 _ rfl
  have a4 : tget t 4 = .int .u64 nm := ht 4 _ rfl
  clear ht
  have ex := And.intro @a0 (And.intro @a1 (And.intro @a2 (And.intro @a3 (And.intro @a4 (And.intro @bs4 (And.intro @beqN @appF4))))))
  repeat' (first
   | (with_reducible refine isO ?_); first | refine mvA (h := ?_) | refine asA (h := ?_) | refine quA (h := ?_) | refine wnA (h := ?_)
   | (with_reducible refine isP ?_); first | refine dqA (h := ?_) | refine dwA (i := 14) (l := []) (h := ?_) | refine dnA (i := 17) (l := []) (h := ?_)
   | (with_reducible refine isC ?_); first | refine ctA (h := ?_) | refine cfA (h := ?_) | refine cdA (h1 := fun _ => ?_) (h0 := fun _ => ?_) | refine cbA (h1 := fun _ => ?_) (h0 := fun _ => ?_)
   | (with_reducible refine isR ?_); first
     | refine Ev.drawn (by decide +kernel) (l := [0, 1, 2, 3, 4, 5, 6, 7, 8, 9, 10, 11, 12, 13, 14, 15, 16, 17]) (by decide +kernel) ?_
   | with_reducible first | refine Ev.seq ?_ | refine Ev.ops ?_ | refine NxE ?_ | refine BxN ?_ | refine BxX ?_ | refine NxX ?_ | refine NxR ?_ | refine BxR ?_ | refine Ev.block ?_ | refine Ev.skip ?_ | refine Ev.exit ?_ | refine Ev.ret ?_ | refine EvOps.nil ?_ | refine EvPlan.nil ?_
   | (with_reducible refine BxO ?_ ?_; · decide)
   )
  refine lsA (rl := []) rfl (hv := by
      simp only [leaveV, packV, strip, stripAgg, stripCell, hdrop, Nat.reduceLeDiff, List.map_cons, List.map_nil, show cx.grow 54 = false from rfl, show cx.keep 54 = true from rfl, show cx.frz 54 = false from rfl, if_false, if_true, Bool.false_eq_true]
      first | done | rfl)
set_option maxHeartbeats 4000000 in
theorem take1 (sx : List UInt8) (a k sz nm : Int) (tx : List UInt8) (n : Nat) (l : List Tok) (hl : l.length ≤ 1000000) (h0 : l ≠ []) (h00 : n ≠ 0) (ha : 0 ≤ a) (ha2 : a ≤ 1000000) (hz : 0 ≤ sz) (hz2 : sz ≤ 1000000) :
    FnS cx 54 [.ptr 0 0, .int .i64 k, .int .i64 sz, .str tx, .int .u64 nm] ⟨[(n, .tip 4), (0, .cells [.str sx, .int .i64 a, .sl (.own n) (l.map Tok.v)])], n + 1⟩ (.tup []) ⟨[(n + 1, .tip 4), (0, .cells [.str sx, .int .i64 (a + sz), .sl (.own (n + 1)) ((l ++ [Tok.mk k tx nm a]).map Tok.v)])], n + 2⟩ := by
  refine goS Tryz.func54 rfl rfl rfl rfl ?_
  intro t ht
  have a0 : tget t 0 = .ptr 0 0 := ht 0 _ rfl
  have a1 : tget t 1 = .int .i64 k := ht 1 _ rfl
  have a2 : tget t 2 = .int .i64 sz := ht 2 _ rfl
  have a3 : tget t 3 = .str tx := ht 3 _ rfl
  have a4 : tget t 4 = .int .u64 nm := ht 4 _ rfl
  clear ht
  have ex := And.intro @a0 (And.intro @a1 (And.intro @a2 (And.intro @a3 (And.intro @a4 (And.intro @bs4 (And.intro @beqN (And.intro @appO4 (beqS0 h00))))))))
  repeat' (first
   | (with_reducible refine isO ?_); first | refine mvA (h := ?_) | refine asA (h := ?_) | refine quA (h := ?_) | refine wnA (h := ?_)
   | (with_reducible refine isP ?_); first | refine dqA (h := ?_) | refine dwA (i := 14) (l := []) (h := ?_) | refine dnA (i := 17) (l := []) (h := ?_)
   | (with_reducible refine isC ?_); first | refine ctA (h := ?_) | refine cfA (h := ?_) | refine cdA (h1 := fun _ => ?_) (h0 := fun _ => ?_) | refine cbA (h1 := fun _ => ?_) (h0 := fun _ => ?_)
   | (with_reducible refine isR ?_); first
     | refine Ev.drawn (by decide +kernel) (l := [0, 1, 2, 3, 4, 5, 6, 7, 8, 9, 10, 11, 12, 13, 14, 15, 16, 17]) (by decide +kernel) ?_
   | with_reducible first | refine Ev.seq ?_ | refine Ev.ops ?_ | refine NxE ?_ | refine BxN ?_ | refine BxX ?_ | refine NxX ?_ | refine NxR ?_ | refine BxR ?_ | refine Ev.block ?_ | refine Ev.skip ?_ | refine Ev.exit ?_ | refine Ev.ret ?_ | refine EvOps.nil ?_ | refine EvPlan.nil ?_
   | (with_reducible refine BxO ?_ ?_; · decide)
   )
  refine lsA (rl := []) rfl (hv := by
      simp only [leaveV, packV, strip, stripAgg, stripCell, hdrop, Nat.reduceLeDiff, List.map_cons, List.map_nil, show cx.grow 54 = false from rfl, show cx.keep 54 = true from rfl, show cx.frz 54 = false from rfl, if_false, if_true, Bool.false_eq_true]
      first | done | rfl)
end Go.Proofs.YtklcmgodhpediaaGreatDoor.L
