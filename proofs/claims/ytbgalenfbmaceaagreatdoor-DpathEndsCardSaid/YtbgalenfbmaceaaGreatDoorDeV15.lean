/- A class of one tuple without terms: what a State finds. -/
import Derived.Test.YtbgalenfbmaceaaGreatDoorDeV14
import Derived.Test.YtbgalenfbmaceaaGreatDoorN26
set_option linter.unusedSimpArgs false
set_option linter.unusedVariables false
set_option maxRecDepth 1000000
namespace Go.Proofs.YtbgalenfbmaceaaGreatDoor.D
open Go Go.Vm Go.Proofs Go.Proofs.YtbgalenfbmaceaaGreatDoor

theorem pv38 {cs : List V} (h : cs.length = 49) : partV cw 38 cs 0 = some (.agg cs) := by
  have e1 : cw.P.underlying 38 = some _ := tyX.1
  have e2 : szOf cw 38 = some 49 := by decide +kernel
  simp only [partV, e1, e2, isAggT, if_true]
  rw [if_pos (by omega), List.drop_zero, List.take_of_length_le (by omega)]
theorem bnQ : (∀ n a b, binV cw n .neq 73 (.ptr a b) .nilptr = some (.bool true)) ∧ (∀ n b, binV cw n .neq 97 (.map b) .nilmap = some (.bool true)) := ⟨fun _ _ _ => by rfl, fun _ _ => by rfl⟩
theorem z77 : zeroV cw 77 = some (.agg [.int .i64 0, .sl .full [], .int .i64 0]) := by rfl
theorem bd77z : buildV cw 77 [] = some (.agg [.int .i64 0, .sl .full [], .int .i64 0]) := by rfl
def luF (o : Option (List (V × V))) (k : List UInt8) : Option V :=
  match o with
  | some es => (findV (.str k) es).map fun r => r.getD (.sl .full [])
  | none => none
theorem z109 : zeroV cw 109 = some (.sl .full []) := by rfl
theorem luR : (∀ (H : List (Nat × Ob)) (q : Nat) (k : List UInt8), lookupV cw H 104 (.map q) (.str k) false = luF ((hget H q).bind obMap) k) ∧ (∀ (v : V), luF (some [(.str [], v)]) [] = some v) ∧ (∀ es, obMap (.map es) = some es) := by
  refine ⟨fun H q k => ?_, fun v => by rfl, fun _ => rfl⟩
  simp only [lookupV, tyE, Vm.keyT, z109, if_true, hgetM, luF]
  cases (hget H q).bind obMap with
  | none => rfl
  | some es =>
    simp only
    cases findV (.str k) es with
    | none => rfl
    | some r => cases r <;> rfl
theorem madeC {H : List (Nat × Ob)} {n c a b : Nat} (h : hget H c = some (.cells [.map a, .map b])) (hw : hdrop n H = H) : FnS cw 22 [.ptr c 0] ⟨H, n⟩ (.bool true) ⟨H, n⟩ := by
  refine goS Tryz.func22 rfl rfl rfl rfl ?_
  intro t ht
  have a0 : tget t 0 = .ptr c 0 := ht 0 _ rfl
  clear ht
  have ex := And.intro @a0 (And.intro @h (And.intro @hpB (And.intro @hpE @bnQ)))
  repeat' (first
   | (with_reducible refine isO ?_); first | refine mvA (h := ?_) | refine asA (h := ?_) | refine quA (h := ?_)
   | (with_reducible refine isG ?_); first | refine stA (h := ?_) | refine srA (h := ?_) | refine swA (h := ?_) | refine s1A (h := ?_) | refine s0A (h := ?_) | refine sgA (h1 := fun _ => ?_) (h0 := fun _ => ?_) | refine sbA (h1 := fun _ => ?_) (h0 := fun _ => ?_)
   | (with_reducible refine isC ?_); first | refine ctA (h := ?_) | refine cfA (h := ?_) | refine cdA (h1 := fun _ => ?_) (h0 := fun _ => ?_) | refine cbA (h1 := fun _ => ?_) (h0 := fun _ => ?_)
   | with_reducible first | refine Ev.seq ?_ | refine Ev.ops ?_ | refine NxE ?_ | refine BxN ?_ | refine BxX ?_ | refine NxX ?_ | refine NxR ?_ | refine BxR ?_ | refine Ev.block ?_ | refine Ev.skip ?_ | refine Ev.exit ?_ | refine Ev.ret ?_ | refine EvOps.nil ?_ | refine EvPlan.nil ?_
   | (with_reducible refine BxO ?_ ?_; · decide)
   )
  all_goals refine lsA (rl := [.tmp 2]) rfl (hv := by
      simp only [leaveV, packV, strip, stripAgg, stripCell, List.map_cons, List.map_nil, show cw.grow 22 = false from rfl, show cw.keep 22 = false from rfl, show cw.frz 22 = false from rfl, if_false, if_true, Bool.false_eq_true]
      (try simp (disch := omega) only [hpW, hpA, hw])
      first | done | rfl)
theorem copiedR (id : Int) (st : St) : FnS cw 48 [.agg [.int .i64 0, .sl .none [], .int .i64 id]] st (.agg [.int .i64 0, .sl .none [], .int .i64 id]) st := ⟨Vm.Fn.ofG (n := 100) (by kernel_rfl) ⟨rfl, rfl⟩⟩
theorem mk8 : IntKind.i64.wrap (8 * ((0 : Nat) : Int)) = 0 := by decide
theorem sz5 : szOf cw 5 = some 1 := by decide +kernel
theorem zb5 : (zeroV cw 5).bind cellsOf = some [.int .u8 0] := by rfl
theorem cv117 : ∀ (H : List (Nat × Ob)) (b : Nat), convV cw ((b, .cells []) :: H) 117 9 (.msl b 0 0 0) = some (.str []) := fun H b => by
  have e : hget ((b, Ob.cells []) :: H) b = some (.cells []) := by simp [hget]
  simp only [convV, tyE, e]
  rfl
theorem seenS {H : List (Nat × Ob)} {n p q : Nat} {cs : List V} {i : Int} (h : hget H p = some (.cells [.sl .full [], .map q, .int .i64 i])) (hp : p < n) (hw : hdrop n H = H) : FnS cw 47 [.ptr p 0, .agg cs] ⟨H, n⟩ (.tup [.str [], .bool true]) ⟨H, n + 1 + 1⟩ := by
  refine goS Tryz.func47 rfl rfl rfl rfl ?_
  intro t ht
  have a0 : tget t 0 = .ptr p 0 := ht 0 _ rfl
  have a1 : tget t 1 = .agg cs := ht 1 _ rfl
  clear ht
  have ex := And.intro @a0 (And.intro @a1 (And.intro @h (And.intro @hpB (And.intro @hpE (And.intro @zvE (And.intro ((List.length_nil (α := V))) @mk8))))))
  repeat' (first
   | (with_reducible refine isO ?_); first | refine mvA (h := ?_) | refine asA (h := ?_) | refine mkS (m := 0) (by rfl) (by simp only [↓evP, ↓tgP, ↓reduceIte, Nat.reduceEqDiff, reduceCtorEq, List.map_cons, List.map_nil, List.nil_append, List.append_nil, List.toList_toArray, a0]; rfl) Tryz.underlying117 sz5 zb5 (by decide) (by decide) (by decide) (by decide) ?_ | refine quA (h := ?_) | refine wnA (h := ?_)
   | (with_reducible refine isC ?_); first | refine ctA (h := ?_) | refine cfA (h := ?_) | refine cdA (h1 := fun _ => ?_) (h0 := fun _ => ?_) | refine cbA (h1 := fun _ => ?_) (h0 := fun _ => ?_)
   | with_reducible first | refine Ev.seq ?_ | refine Ev.ops ?_ | refine NxE ?_ | refine BxN ?_ | refine BxX ?_ | refine NxX ?_ | refine NxR ?_ | refine BxR ?_ | refine Ev.block ?_ | refine Ev.skip ?_ | refine Ev.exit ?_ | refine Ev.ret ?_ | refine EvOps.nil ?_ | refine EvPlan.nil ?_
   | (with_reducible refine BxO ?_ ?_; · decide)
   )
  refine loopT (fun r t st => r = 0 ∧ tget t 6 = .msl (n + 1) 0 0 0 ∧ tget t 21 = .sl .full [] ∧ tget t 22 = .int .i64 0 ∧ tget t 23 = .int .i64 0 ∧ st = ⟨(n + 1, .cells []) :: (n, .cells cs) :: H, n + 1 + 1⟩) (n := 0) ?_ ?_
  · refine ⟨rfl, ?_, ?_, ?_, ?_, rfl⟩
    · simp only [↓evP, ↓tgP, ↓reduceIte, Nat.reduceEqDiff, reduceCtorEq, List.map_cons, List.map_nil, List.nil_append, List.append_nil, List.toList_toArray, a0]
    · simp only [↓evP, ↓tgP, ↓reduceIte, Nat.reduceEqDiff, reduceCtorEq, List.map_cons, List.map_nil, List.nil_append, List.append_nil, List.toList_toArray, a0]
    · simp only [↓evP, ↓tgP, ↓reduceIte, Nat.reduceEqDiff, reduceCtorEq, List.map_cons, List.map_nil, List.nil_append, List.append_nil, List.toList_toArray, a0]; rfl
    · simp only [↓evP, ↓tgP, ↓reduceIte, Nat.reduceEqDiff, reduceCtorEq, List.map_cons, List.map_nil, List.nil_append, List.append_nil, List.toList_toArray, a0]
  clear a0 a1
  rintro r t st ⟨rfl, c6, c21, c22, c23, rfl⟩
  have ex := And.intro @c6 (And.intro @c21 (And.intro @c22 (And.intro @c23 (And.intro @h (And.intro @hpB (And.intro @hpE (And.intro @zvE @cv117)))))))
  repeat' (first
   | (with_reducible refine isO ?_); first | refine mvA (h := ?_) | refine asA (h := ?_) | refine quA (h := ?_) | refine wnA (h := ?_)
   | (with_reducible refine isC ?_); first | refine ctA (h := ?_) | refine cfA (h := ?_) | refine cdA (h1 := fun _ => ?_) (h0 := fun _ => ?_) | refine cbA (h1 := fun _ => ?_) (h0 := fun _ => ?_)
   | with_reducible first | refine Ev.seq ?_ | refine Ev.ops ?_ | refine NxE ?_ | refine BxN ?_ | refine BxX ?_ | refine NxX ?_ | refine NxR ?_ | refine BxR ?_ | refine Ev.block ?_ | refine Ev.skip ?_ | refine Ev.exit ?_ | refine Ev.ret ?_ | refine EvOps.nil ?_ | refine EvPlan.nil ?_
   | (with_reducible refine BxO ?_ ?_; · decide)
   )
  all_goals refine lsA (rl := [.tmp 4, .tmp 5]) rfl (hv := by
      simp only [leaveV, packV, strip, stripAgg, stripCell, List.map_cons, List.map_nil, show cw.grow 47 = false from rfl, show cw.keep 47 = false from rfl, show cw.frz 47 = false from rfl, if_false, if_true, Bool.false_eq_true]
      (try simp (disch := omega) only [hpW, hpA, hw])
      first | done | rfl)

set_option maxHeartbeats 4000000 in
theorem findS {H : List (Nat × Ob)} {n c a b p q tp : Nat} {id i : Int} {cs : List V} (hcs : cs.length = 49) (hw : hdrop n H = H) (hc : hget H c = some (.cells [.map a, .map b])) (ha : hget H a = some (.map [(.str [], .ptr p 0)])) (hp : hget H p = some (.cells [.sl .full [], .map q, .int .i64 i])) (hq : hget H q = some (.map [(.str [], .sl (.own tp) [.agg [.int .i64 0, .sl .none [], .int .i64 id]])]))
    (l1 : a < n) (l2 : p < n) (l3 : q < n) (l4 : c < n) (n1 : p ≠ a) (n2 : q ≠ a) (n3 : c ≠ a) : FnS cw 30 [.ptr c 0, .agg cs] ⟨H, n⟩ (.tup [.agg [.int .i64 0, .sl .none [], .int .i64 id], .bool true]) ⟨H, n + 1 + 1 + 1 + 1 + 1 + 1 + 1⟩ := by
  have hld := pv38 hcs
  refine goS Tryz.func30 rfl rfl rfl rfl ?_
  intro t ht
  have a0 : tget t 0 = .ptr c 0 := ht 0 _ rfl
  have a1 : tget t 1 = .agg cs := ht 1 _ rfl
  clear ht
  have ex := And.intro @a0 (And.intro @a1 (And.intro @hc (And.intro @hpB (And.intro @hpE (And.intro @zvE (And.intro @z77 @bd77z))))))
  repeat' (first
   | (with_reducible refine isO ?_); first | refine mvA (h := ?_) | refine asA (h := ?_) | refine rngS Tryz.underlying96 (by (simp only [↓evP, ↓tgP, ↓reduceIte, Nat.reduceEqDiff, reduceCtorEq, List.map_cons, List.map_nil, List.nil_append, List.append_nil, List.toList_toArray, a0]); first | done | with_reducible rfl) (mb := a) (es := [(.str [], .ptr p 0)]) (by simp (disch := omega) only [hpE, ha]) (Nat.le_refl 1) ?_ | refine quA (h := ?_) | refine wnA (h := ?_) | refine caA (hc := (madeC (a := a) (b := b) (by simp (disch := omega) only [hpE, hc]) (by simp (disch := omega) only [hpW]))) (h := ?_)
   | (with_reducible refine isG ?_); first | refine stA (h := ?_) | refine srA (h := ?_) | refine swA (h := ?_) | refine s1A (h := ?_) | refine s0A (h := ?_) | refine sgA (h1 := fun _ => ?_) (h0 := fun _ => ?_) | refine sbA (h1 := fun _ => ?_) (h0 := fun _ => ?_)
   | (with_reducible refine isC ?_); first | refine ctA (h := ?_) | refine cfA (h := ?_) | refine cdA (h1 := fun _ => ?_) (h0 := fun _ => ?_) | refine cbA (h1 := fun _ => ?_) (h0 := fun _ => ?_)
   | with_reducible first | refine Ev.seq ?_ | refine Ev.ops ?_ | refine NxE ?_ | refine BxN ?_ | refine BxX ?_ | refine NxX ?_ | refine NxR ?_ | refine BxR ?_ | refine Ev.block ?_ | refine Ev.skip ?_ | refine Ev.exit ?_ | refine Ev.ret ?_ | refine EvOps.nil ?_ | refine EvPlan.nil ?_
   | (with_reducible refine BxO ?_ ?_; · decide)
   )
  refine loopT (fun r t st => ((r = 1 ∧ tget t 7 = .bool false ∧ st = ⟨(n + 1 + 1 + 1, .iter1 a false) :: (n + 1 + 1, .cells [.int .i64 0, .sl .full [], .int .i64 0]) :: (n + 1, .cells [.int .i64 0, .sl .full [], .int .i64 0]) :: (n, .cells cs) :: hset H a (.pin1 [(.str [], .ptr p 0)] (n + 1 + 1 + 1)), n + 1 + 1 + 1 + 1⟩) ∨ (r = 0 ∧ tget t 7 = .bool true ∧ st = ⟨(n + 1 + 1 + 1 + 1 + 1 + 1, .cells [.int .i64 0, .sl .none [], .int .i64 id]) :: (n + 1 + 1 + 1, .iter1 a true) :: (n + 1 + 1, .cells [.int .i64 0, .sl .none [], .int .i64 id]) :: (n + 1, .cells [.int .i64 0, .sl .full [], .int .i64 0]) :: (n, .cells cs) :: hset H a (.pin1 [(.str [], .ptr p 0)] (n + 1 + 1 + 1)), n + 1 + 1 + 1 + 1 + 1 + 1 + 1⟩)) ∧ tget t 22 = .ptr (n + 1 + 1 + 1) 0 ∧ tget t 3 = .ptr n 0 ∧ tget t 4 = .ptr (n + 1) 0 ∧ tget t 6 = .ptr (n + 1 + 1) 0) (n := 1) ?_ ?_
  · refine ⟨.inl ⟨rfl, ?_, by simp (disch := omega) only [hpE]⟩, ?_, ?_, ?_, ?_⟩
    · simp only [↓evP, ↓tgP, ↓reduceIte, Nat.reduceEqDiff, reduceCtorEq, List.map_cons, List.map_nil, List.nil_append, List.append_nil, List.toList_toArray, a0]
    · simp only [↓evP, ↓tgP, ↓reduceIte, Nat.reduceEqDiff, reduceCtorEq, List.map_cons, List.map_nil, List.nil_append, List.append_nil, List.toList_toArray, a0]
    · simp only [↓evP, ↓tgP, ↓reduceIte, Nat.reduceEqDiff, reduceCtorEq, List.map_cons, List.map_nil, List.nil_append, List.append_nil, List.toList_toArray, a0]
    · simp only [↓evP, ↓tgP, ↓reduceIte, Nat.reduceEqDiff, reduceCtorEq, List.map_cons, List.map_nil, List.nil_append, List.append_nil, List.toList_toArray, a0]
    · simp only [↓evP, ↓tgP, ↓reduceIte, Nat.reduceEqDiff, reduceCtorEq, List.map_cons, List.map_nil, List.nil_append, List.append_nil, List.toList_toArray, a0]
  clear a0 a1
  rintro r t st ⟨⟨rfl, c7, rfl⟩ | ⟨rfl, c7, rfl⟩, c22, c3, c4, c6⟩
  · skip
    have ex := And.intro @c7 (And.intro @c22 (And.intro @c3 (And.intro @c4 (And.intro @c6 (And.intro @hld (And.intro @hpB (And.intro @hpE (And.intro @hpA (And.intro @zvE (And.intro @z77 (And.intro @hp (And.intro @hq @luR))))))))))))
    repeat' (first
     | (with_reducible refine isO ?_); first | refine mvA (h := ?_) | refine asA (h := ?_) | refine nxt1 (mb := a) (e1 := .str []) (e2 := .ptr p 0) c22 (by simp (disch := omega) only [hpE]) (by simp (disch := omega) only [hpE]; exact hgS H _ ha) ?_ | refine ent1 (mb := a) (e1 := .str []) (e2 := .ptr p 0) (by (simp only [↓evP, ↓tgP, ↓reduceIte, Nat.reduceEqDiff, reduceCtorEq, List.map_cons, List.map_nil, List.nil_append, List.append_nil, List.toList_toArray, c22]); first | done | with_reducible rfl) (by simp (disch := omega) only [hpE]) (by simp (disch := omega) only [hpE]; exact hgS H _ ha) ?_ | refine quA (h := ?_) | refine wnA (h := ?_) | refine caA (hc := (seenS (q := q) (i := i) (by simp (disch := omega) only [hpE, hpA, hp]) (by omega) (by simp (disch := omega) only [hpW]))) (h := ?_)
     | (with_reducible refine isG ?_); first | refine stA (h := ?_) | refine srA (h := ?_) | refine swA (h := ?_) | refine s1A (h := ?_) | refine s0A (h := ?_) | refine sgA (h1 := fun _ => ?_) (h0 := fun _ => ?_) | refine sbA (h1 := fun _ => ?_) (h0 := fun _ => ?_)
     | (with_reducible refine isC ?_); first | refine ctA (h := ?_) | refine cfA (h := ?_) | refine cdA (h1 := fun _ => ?_) (h0 := fun _ => ?_) | refine cbA (h1 := fun _ => ?_) (h0 := fun _ => ?_)
     | with_reducible first | refine Ev.seq ?_ | refine Ev.ops ?_ | refine NxE ?_ | refine BxN ?_ | refine BxX ?_ | refine NxX ?_ | refine NxR ?_ | refine BxR ?_ | refine Ev.block ?_ | refine Ev.skip ?_ | refine Ev.exit ?_ | refine Ev.ret ?_ | refine EvOps.nil ?_ | refine EvPlan.nil ?_
     | (with_reducible refine BxO ?_ ?_; · decide)
     )
    refine ⟨0, by omega, rfl, .inr ⟨rfl, ?_, rfl⟩, ?_, ?_, ?_, ?_⟩
    · simp only [↓evP, ↓tgP, ↓reduceIte, Nat.reduceEqDiff, reduceCtorEq, List.map_cons, List.map_nil, List.nil_append, List.append_nil, List.toList_toArray, c7]
    · simp only [↓evP, ↓tgP, ↓reduceIte, Nat.reduceEqDiff, reduceCtorEq, List.map_cons, List.map_nil, List.nil_append, List.append_nil, List.toList_toArray, c22]
    · simp only [↓evP, ↓tgP, ↓reduceIte, Nat.reduceEqDiff, reduceCtorEq, List.map_cons, List.map_nil, List.nil_append, List.append_nil, List.toList_toArray, c3]
    · simp only [↓evP, ↓tgP, ↓reduceIte, Nat.reduceEqDiff, reduceCtorEq, List.map_cons, List.map_nil, List.nil_append, List.append_nil, List.toList_toArray, c4]
    · simp only [↓evP, ↓tgP, ↓reduceIte, Nat.reduceEqDiff, reduceCtorEq, List.map_cons, List.map_nil, List.nil_append, List.append_nil, List.toList_toArray, c6]
  · skip
    have ex := And.intro @c7 (And.intro @c22 (And.intro @c3 (And.intro @c4 (And.intro @c6 (And.intro @hld (And.intro @hpB (And.intro @hpE (And.intro @hpA (And.intro @zvE @z77)))))))))
    repeat' (first
     | (with_reducible refine isO ?_); first | refine mvA (h := ?_) | refine asA (h := ?_) | refine nxt0 (mb := a) (es := [(.str [], .ptr p 0)]) c22 (by simp (disch := omega) only [hpE]) (by simp (disch := omega) only [hpE]; exact hgS H _ ha) ?_ | refine quA (h := ?_) | refine wnA (h := ?_) | refine caA (hc := (copiedR _ _)) (h := ?_)
     | (with_reducible refine isG ?_); first | refine stA (h := ?_) | refine srA (h := ?_) | refine swA (h := ?_) | refine s1A (h := ?_) | refine s0A (h := ?_) | refine sgA (h1 := fun _ => ?_) (h0 := fun _ => ?_) | refine sbA (h1 := fun _ => ?_) (h0 := fun _ => ?_)
     | (with_reducible refine isC ?_); first | refine ctA (h := ?_) | refine cfA (h := ?_) | refine cdA (h1 := fun _ => ?_) (h0 := fun _ => ?_) | refine cbA (h1 := fun _ => ?_) (h0 := fun _ => ?_)
     | with_reducible first | refine Ev.seq ?_ | refine Ev.ops ?_ | refine NxE ?_ | refine BxN ?_ | refine BxX ?_ | refine NxX ?_ | refine NxR ?_ | refine BxR ?_ | refine Ev.block ?_ | refine Ev.skip ?_ | refine Ev.exit ?_ | refine Ev.ret ?_ | refine EvOps.nil ?_ | refine EvPlan.nil ?_
     | (with_reducible refine BxO ?_ ?_; · decide)
     )
    all_goals refine lsA (rl := [.cell 4 77, .tmp 5]) rfl (hv := by
      simp only [leaveV, packV, strip, stripAgg, stripCell, List.map_cons, List.map_nil, show cw.grow 30 = false from rfl, show cw.keep 30 = false from rfl, show cw.frz 30 = false from rfl, if_false, if_true, Bool.false_eq_true]
      (try simp (disch := omega) only [hpW, hpA, hw, hpE, hsI H a _ ha])
      first | done | rfl)
end Go.Proofs.YtbgalenfbmaceaaGreatDoor.D
