/- A run: to and fro until the budget ends it. -/
import Derived.Test.YtbgalenfbmaceaaGreatDoorDeV18
set_option linter.unusedSimpArgs false
set_option linter.unusedVariables false
set_option maxRecDepth 1000000
namespace Go.Proofs.YtbgalenfbmaceaaGreatDoor.D
open Go Go.Vm Go.Proofs Go.Proofs.YtbgalenfbmaceaaGreatDoor

/-- What a memory keeps. -/
def Keeps (B H : List (Nat × Ob)) : Prop := ∀ p ∈ B, hget H p.1 = some p.2
def Plain (B : List (Nat × Ob)) : Prop := ∀ p ∈ B, p.1 < 32 ∧ ∀ z, p.2 ≠ .tip z
def LT (n : Nat) (H : List (Nat × Ob)) : Prop := ∀ p ∈ H, p.1 < n
theorem LT.drop {n : Nat} {H : List (Nat × Ob)} (h : LT n H) : hdrop n H = H := hdrop_of_lt h
theorem LT.cons {n i : Nat} {o : Ob} {H : List (Nat × Ob)} (h : LT n H) (hi : i < n) : LT n ((i, o) :: H) := fun p hp => by
  rcases List.mem_cons.1 hp with rfl | hp
  · exact hi
  · exact h p hp
theorem LT.le {n m : Nat} {H : List (Nat × Ob)} (h : LT n H) (hi : n ≤ m) : LT m H := fun p hp => Nat.lt_of_lt_of_le (h p hp) hi
theorem LT.set {n : Nat} : ∀ {H : List (Nat × Ob)} {a : Nat} {o : Ob}, LT n H → LT n (hset H a o)
  | [], _, _, _ => fun p hp => by cases hp
  | (i, oi) :: r, a, o, h => by
    have h2 : LT n r := fun p hp => h p (List.mem_cons_of_mem _ hp)
    have h1 : i < n := h (i, oi) List.mem_cons_self
    by_cases hi : i = a
    · subst hi; simp only [hset, beq_self_eq_true, if_true]; exact h2.cons h1
    · have : (i == a) = false := by simpa using hi
      simp only [hset, this, Bool.false_eq_true, if_false]; exact (LT.set h2).cons h1
theorem LT.del {n : Nat} : ∀ {H : List (Nat × Ob)} {a : Nat}, LT n H → LT n (hdel H a)
  | [], _, _ => fun p hp => by cases hp
  | (i, oi) :: r, a, h => by
    have h2 : LT n r := fun p hp => h p (List.mem_cons_of_mem _ hp)
    have h1 : i < n := h (i, oi) List.mem_cons_self
    by_cases hi : i = a
    · subst hi; simp only [hdel, beq_self_eq_true, if_true]; exact h2
    · have : (i == a) = false := by simpa using hi
      simp only [hdel, this, Bool.false_eq_true, if_false]; exact (LT.del h2).cons h1
/-- The sent ones, as a run has them. -/
def SOk (S : V) (xs : List V) (H : List (Nat × Ob)) (n : Nat) : Prop := (S = .sl .full [] ∧ xs = []) ∨ ∃ T, S = .sl (.own T) xs ∧ hget H T = some (.tip 51) ∧ T < n ∧ szOk 51 xs = true
theorem SOk.step {S : V} {xs cs : List V} {H : List (Nat × Ob)} {n : Nat} (h : SOk S xs H n) (hl : xs.length ≤ 4096) (hcs : cs.length = 49) (hst : cs.map stripCell = cs) (hn : LT n H) :
    ∃ H0 xs', AP S xs' cs H H0 n ∧ xs'.length = xs.length + 1 ∧ szOk 51 xs' = true ∧ (∀ b o, (∀ z, o ≠ .tip z) → hget H b = some o → hget H0 b = some o) ∧ LT n H0 := by
  rcases h with ⟨rfl, rfl⟩ | ⟨T, rfl, h1, h2, h3⟩
  · exact ⟨H, [.agg (.bool false :: .int .i64 7 :: cs)], AP.full hcs hst H n, rfl, by simp [szOk, ncells, hcs], fun _ _ _ h => h, hn⟩
  · refine ⟨hdel H T, xs ++ [.agg (.bool false :: .int .i64 7 :: cs)], AP.own hcs hst h3 hl h1 h2, by simp, ?_, fun b o ho hb => ?_, hn.del⟩
    · cases xs with
      | nil => simp [szOk, ncells, hcs]
      | cons x xs => simpa [szOk] using h3
    · rw [hdN H (fun e => by subst e; rw [h1] at hb; cases hb; exact ho 51 rfl)]; exact hb
theorem SOk.keep {S : V} {xs : List V} {H H2 : List (Nat × Ob)} {n m : Nat} (h : SOk S xs H n) (hk : ∀ T, T < n → hget H T = some (.tip 51) → hget H2 T = some (.tip 51)) (hm : n ≤ m) : SOk S xs H2 m := by
  rcases h with ⟨rfl, rfl⟩ | ⟨T, rfl, h1, h2, h3⟩
  · exact .inl ⟨rfl, rfl⟩
  · exact .inr ⟨T, rfl, hk T h2 h1, by omega, h3⟩
theorem tip_ne {H : List (Nat × Ob)} {T b : Nat} {cs : List V} (h : hget H T = some (.tip 51)) (h2 : hget H b = some (.cells cs)) : T ≠ b := fun e => by subst e; rw [h] at h2; cases h2
/-- What is sent. -/
theorem SOk.own {xs : List V} {H : List (Nat × Ob)} {n T : Nat} (h1 : hget H T = some (.tip 51)) (h2 : T < n) (h3 : szOk 51 xs = true) : SOk (.sl (.own T) xs) xs H n := .inr ⟨T, rfl, h1, h2, h3⟩
def FindsAll (B : List (Nat × Ob)) (cs : List V) (tt : Nat) (x : Int) (ac : V) : Prop := ∀ (H : List (Nat × Ob)) (n : Nat) (S goes : V), Keeps B H → 34 ≤ n → LT n H → hget H 33 = some (.cells [.ptr 2 0, .ptr tt 0, S, goes, .bool false]) → FnS cw 14 [.ptr 33 0, .int .i64 x, .agg cs] ⟨H, n⟩ ac ⟨H, n + 1 + 1 + 1 + 1 + 1 + 1 + 1 + 1 + 1⟩

set_option maxHeartbeats 16000000 in
theorem listRun {B H : List (Nat × Ob)} {n tt : Nat} {x y : Int} {cs : List V} (hcs : cs.length = 49) (hst : cs.map stripCell = cs) (hB : Plain B) (hK : Keeps B H) (hn : 34 ≤ n) (hw : LT n H) (hr : hget H 33 = some (.cells [.ptr 2 0, .ptr tt 0, .sl .full [], .int .i64 0, .bool false]))
    (hfa : FindsAll B cs tt x (.sl .none [.agg [.int .i64 4, .int .i64 0, .int .i64 0, .int .u64 0, .int .u64 0, .int .i64 y, .int .i64 0, .sl .full [], .sl .full [], .int .u64 0, .int .u32 0, .int .u32 0, .int .u32 0, .int .u32 0, .int .u32 0]])) (hfb : FindsAll B cs tt y (.sl .none [.agg [.int .i64 5, .int .i64 0, .int .i64 0, .int .u64 0, .int .u64 0, .int .i64 0, .int .i64 0, .sl .none [actOutF], .sl .full [], .int .u64 0, .int .u32 0, .int .u32 0, .int .u32 0, .int .u32 0, .int .u32 0], .agg [.int .i64 4, .int .i64 0, .int .i64 0, .int .u64 0, .int .u64 0, .int .i64 x, .int .i64 0, .sl .full [], .sl .full [], .int .u64 0, .int .u32 0, .int .u32 0, .int .u32 0, .int .u32 0, .int .u32 0]])) :
    Vm.Fn cw 13 [.ptr 33 0, .sl .none [.agg [.int .i64 4, .int .i64 0, .int .i64 0, .int .u64 0, .int .u64 0, .int .i64 y, .int .i64 0, .sl .full [], .sl .full [], .int .u64 0, .int .u32 0, .int .u32 0, .int .u32 0, .int .u32 0, .int .u32 0]], .agg cs] ⟨H, n⟩ fun v st' => v = .tup [] ∧ ∃ tip xs, hget st'.H 33 = some (.cells [.ptr 2 0, .ptr tt 0, .sl tip xs, .int .i64 4096, .bool true]) ∧ xs.length = 2048 := by
  have ht49 : cs.take 49 = cs := List.take_of_length_le (by omega)
  have hdz : cs.drop 49 = [] := List.drop_eq_nil_of_le (by omega)
  have han := List.append_nil cs
  refine goI Tryz.func13 rfl rfl rfl rfl ?_
  intro t ht
  have a0 : tget t 0 = .ptr 33 0 := ht 0 _ rfl
  have a1 : tget t 1 = .sl .none [.agg [.int .i64 4, .int .i64 0, .int .i64 0, .int .u64 0, .int .u64 0, .int .i64 y, .int .i64 0, .sl .full [], .sl .full [], .int .u64 0, .int .u32 0, .int .u32 0, .int .u32 0, .int .u32 0, .int .u32 0]] := ht 1 _ rfl
  have a2 : tget t 2 = .agg cs := ht 2 _ rfl
  clear ht
  have ex := And.intro @a0 (And.intro @a1 (And.intro @a2 (And.intro @hpB @hpE)))
  repeat' (first
   | (with_reducible refine isO ?_); first | refine mvA (h := ?_) | refine asA (h := ?_) | refine quA (h := ?_) | refine wnA (h := ?_)
   | (with_reducible refine isC ?_); first | refine ctA (h := ?_) | refine cfA (h := ?_) | refine cdA (h1 := fun _ => ?_) (h0 := fun _ => ?_) | refine cbA (h1 := fun _ => ?_) (h0 := fun _ => ?_)
   | with_reducible refine Ev.seq ?_
   | refine EvL.cons ?_
   | refine EvL.nil ?_
   | with_reducible first | refine Ev.ops ?_ | refine NxE ?_ | refine BxN ?_ | refine BxX ?_ | refine NxX ?_ | refine NxR ?_ | refine BxR ?_ | refine NxG ?_ | refine BxG ?_ | refine GxR ?_ | refine GxN ?_ | refine GxX ?_ | refine Ev.goto ?_ | refine Ev.block ?_ | refine Ev.skip ?_ | refine Ev.exit ?_ | refine Ev.ret ?_ | refine Ev.label ?_ | refine EvOps.nil ?_ | refine EvPlan.nil ?_
   | (with_reducible refine BxO ?_ ?_; · decide)
   | refine GxJ (by rfl) (ih _ _ ?_)
   )
  refine scope_loop (l := 0) (by rfl) (by rfl) (by rfl) (fun m t st => ∃ (k : Nat) (H : List (Nat × Ob)) (nn nb : Nat) (S : V) (xs : List V), m = 4097 - k ∧ k ≤ 4096 ∧ st = ⟨H, nn⟩ ∧ 34 ≤ nb ∧ nb < nn ∧ LT nn H ∧ Keeps B H ∧ hget H nb = some (.cells cs) ∧ hget H 33 = some (.cells [.ptr 2 0, .ptr tt 0, S, .int .i64 (k : Nat), .bool false]) ∧ SOk S xs H nn ∧ xs.length = k / 2 ∧ tget t 0 = .ptr 33 0 ∧ tget t 1 = (if k % 2 = 0 then .sl .none [.agg [.int .i64 4, .int .i64 0, .int .i64 0, .int .u64 0, .int .u64 0, .int .i64 y, .int .i64 0, .sl .full [], .sl .full [], .int .u64 0, .int .u32 0, .int .u32 0, .int .u32 0, .int .u32 0, .int .u32 0]] else .sl .none [.agg [.int .i64 5, .int .i64 0, .int .i64 0, .int .u64 0, .int .u64 0, .int .i64 0, .int .i64 0, .sl .none [actOutF], .sl .full [], .int .u64 0, .int .u32 0, .int .u32 0, .int .u32 0, .int .u32 0, .int .u32 0], .agg [.int .i64 4, .int .i64 0, .int .i64 0, .int .u64 0, .int .u64 0, .int .i64 x, .int .i64 0, .sl .full [], .sl .full [], .int .u64 0, .int .u32 0, .int .u32 0, .int .u32 0, .int .u32 0, .int .u32 0]]) ∧ tget t 5 = .ptr nb 0) ?_ ?_
  · refine EvL.nil ⟨rfl, _, 0, _, _, n, _, [], rfl, by omega, rfl, hn, by omega, (hw.le (Nat.le_succ _)).cons (by omega), fun p hp => ?_, by simp (disch := omega) only [hpE], ?_, .inl ⟨rfl, rfl⟩, rfl, ?_, ?_, ?_⟩
    · have := (hB p hp).1
      simp (disch := omega) only [hpE]; exact hK p hp
    · simp (disch := omega) only [hpE, hr]; rfl
    · simp only [↓evP, ↓tgP, ↓reduceIte, Nat.reduceEqDiff, reduceCtorEq, List.map_cons, List.map_nil, List.nil_append, List.append_nil, List.toList_toArray, a0]
    · simp only [↓evP, ↓tgP, ↓reduceIte, Nat.reduceEqDiff, reduceCtorEq, List.map_cons, List.map_nil, List.nil_append, List.append_nil, List.toList_toArray, a1]
    · simp only [↓evP, ↓tgP, ↓reduceIte, Nat.reduceEqDiff, reduceCtorEq, List.map_cons, List.map_nil, List.nil_append, List.append_nil, List.toList_toArray, a0]
  clear a0 a1 a2
  rintro m t st ⟨k, H, nn, nb, S, xs, rfl, hk, rfl, hb1, hb2, hlt, hK, hb, hr, hS, hxl, c0, c1, c5⟩ ih
  rcases Nat.mod_two_eq_zero_or_one k with hpar | hpar
  · rw [if_pos hpar] at c1
    have ex := And.intro @c0 (And.intro @c1 (And.intro @c5 (And.intro @hpB @hpE)))
    repeat' (first
     | (with_reducible refine isO ?_); first | refine mvA (h := ?_) | refine asA (h := ?_) | refine quA (h := ?_) | refine wnA (h := ?_)
     | (with_reducible refine isC ?_); first | refine ctA (h := ?_) | refine cfA (h := ?_) | refine cdA (h1 := fun _ => ?_) (h0 := fun _ => ?_) | refine cbA (h1 := fun _ => ?_) (h0 := fun _ => ?_)
     | with_reducible refine Ev.seq ?_
     | refine EvL.cons ?_
     | refine EvL.nil ?_
     | with_reducible first | refine Ev.ops ?_ | refine NxE ?_ | refine BxN ?_ | refine BxX ?_ | refine NxX ?_ | refine NxR ?_ | refine BxR ?_ | refine NxG ?_ | refine BxG ?_ | refine GxR ?_ | refine GxN ?_ | refine GxX ?_ | refine Ev.goto ?_ | refine Ev.block ?_ | refine Ev.skip ?_ | refine Ev.exit ?_ | refine Ev.ret ?_ | refine Ev.label ?_ | refine EvOps.nil ?_ | refine EvPlan.nil ?_
     | (with_reducible refine BxO ?_ ?_; · decide)
     | refine GxJ (by rfl) (ih _ _ ?_)
     )
    refine loopT (fun q t st => q = 0 ∧ tget t 11 = .int .i64 0 ∧ st = ⟨H, nn⟩ ∧ tget t 0 = .ptr 33 0 ∧ tget t 5 = .ptr nb 0 ∧ tget t 9 = .sl .none [.agg [.int .i64 4, .int .i64 0, .int .i64 0, .int .u64 0, .int .u64 0, .int .i64 y, .int .i64 0, .sl .full [], .sl .full [], .int .u64 0, .int .u32 0, .int .u32 0, .int .u32 0, .int .u32 0, .int .u32 0]] ∧ tget t 10 = .int .i64 1) (n := 0) ?_ ?_
    · refine ⟨rfl, ?_, rfl, ?_, ?_, ?_, ?_⟩
      · simp only [↓evP, ↓tgP, ↓reduceIte, Nat.reduceEqDiff, reduceCtorEq, List.map_cons, List.map_nil, List.nil_append, List.append_nil, List.toList_toArray, c0]
      · simp only [↓evP, ↓tgP, ↓reduceIte, Nat.reduceEqDiff, reduceCtorEq, List.map_cons, List.map_nil, List.nil_append, List.append_nil, List.toList_toArray, c0]
      · simp only [↓evP, ↓tgP, ↓reduceIte, Nat.reduceEqDiff, reduceCtorEq, List.map_cons, List.map_nil, List.nil_append, List.append_nil, List.toList_toArray, c5]
      · simp only [↓evP, ↓tgP, ↓reduceIte, Nat.reduceEqDiff, reduceCtorEq, List.map_cons, List.map_nil, List.nil_append, List.append_nil, List.toList_toArray, c1]
      · simp only [↓evP, ↓tgP, ↓reduceIte, Nat.reduceEqDiff, reduceCtorEq, List.map_cons, List.map_nil, List.nil_append, List.append_nil, List.toList_toArray, c0]; rfl
    clear c0 c1 c5
    rintro q t st ⟨rfl, c11, rfl, c0, c5, c9, c10⟩
    rcases Nat.lt_or_ge k 4096 with hk2 | hk2
    · have hge : decide ((k : Int) ≥ 4096) = false := by simp; omega
      have hwk : IntKind.i64.wrap ((k : Int) + 1) = ((k + 1 : Nat) : Int) := by rw [wI64 (by omega) (by omega)]; rfl
      have hgs := fun o => hgS H (a := 33) o hr
      have hfd := hfb ((nn, .cells [.int .i64 4, .int .i64 0, .int .i64 0, .int .u64 0, .int .u64 0, .int .i64 y, .int .i64 0, .sl .full [], .sl .full [], .int .u64 0, .int .u32 0, .int .u32 0, .int .u32 0, .int .u32 0, .int .u32 0]) :: hset H 33 (.cells [.ptr 2 0, .ptr tt 0, S, .int .i64 ((k + 1 : Nat) : Int), .bool false])) (nn + 1) S (.int .i64 ((k + 1 : Nat) : Int)) (fun p hp => by
        have := (hB p hp).1
        simp (disch := omega) only [hpE, hpA]; exact hK p hp) (by omega) ((hlt.set.le (by omega)).cons (by omega)) (by simp (disch := omega) only [hpE, hgs])
      have ex := And.intro @c0 (And.intro @c5 (And.intro @c9 (And.intro @c10 (And.intro @c11 (And.intro @hr (And.intro @hb (And.intro @hgs (And.intro @hge (And.intro @hwk (And.intro @ht49 (And.intro @hdz (And.intro @han (And.intro @hcs (And.intro @hpB (And.intro @hpE (And.intro @hpA @zvE))))))))))))))))
      repeat' (first
       | (with_reducible refine isO ?_); first | refine mvA (h := ?_) | refine asA (h := ?_) | refine quA (h := ?_) | refine wnA (h := ?_) | refine caA (hc := hfd) (h := ?_)
       | (with_reducible refine isC ?_); first | refine ctA (h := ?_) | refine cfA (h := ?_) | refine cdA (h1 := fun _ => ?_) (h0 := fun _ => ?_) | refine cbA (h1 := fun _ => ?_) (h0 := fun _ => ?_)
       | with_reducible refine Ev.seq ?_
       | refine EvL.cons ?_
       | refine EvL.nil ?_
       | with_reducible first | refine Ev.ops ?_ | refine NxE ?_ | refine BxN ?_ | refine BxX ?_ | refine NxX ?_ | refine NxR ?_ | refine BxR ?_ | refine NxG ?_ | refine BxG ?_ | refine GxR ?_ | refine GxN ?_ | refine GxX ?_ | refine Ev.goto ?_ | refine Ev.block ?_ | refine Ev.skip ?_ | refine Ev.exit ?_ | refine Ev.ret ?_ | refine Ev.label ?_ | refine EvOps.nil ?_ | refine EvPlan.nil ?_
       | (with_reducible refine BxO ?_ ?_; · decide)
       | refine GxJ (by rfl) (ih _ _ ?_)
       )
      refine ⟨4097 - (k + 1), by omega, k + 1, _, _, nb, S, xs, rfl, by omega, rfl, hb1, by omega, (hlt.set.le (by omega)).cons (by omega), fun p hp => ?_, by simp (disch := omega) only [hpE, hpA, hb], by simp (disch := omega) only [hpE, hgs], hS.keep (fun T hT h => ?_) (by omega), by omega, ?_, ?_, ?_⟩
      · have := (hB p hp).1
        simp (disch := omega) only [hpE, hpA]; exact hK p hp
      · have := tip_ne h hr
        simp (disch := omega) only [hpE, hpA]; exact h
      · simp only [↓evP, ↓tgP, ↓reduceIte, Nat.reduceEqDiff, reduceCtorEq, List.map_cons, List.map_nil, List.nil_append, List.append_nil, List.toList_toArray, c0]
      · rw [if_neg (by omega)]; simp only [↓evP, ↓tgP, ↓reduceIte, Nat.reduceEqDiff, reduceCtorEq, List.map_cons, List.map_nil, List.nil_append, List.append_nil, List.toList_toArray, c0]; first | done | rfl
      · simp only [↓evP, ↓tgP, ↓reduceIte, Nat.reduceEqDiff, reduceCtorEq, List.map_cons, List.map_nil, List.nil_append, List.append_nil, List.toList_toArray, c5]
    · obtain rfl : k = 4096 := by omega
      have hge : decide (((4096 : Nat) : Int) ≥ 4096) = true := by decide
      have hgs := fun o => hgS H (a := 33) o hr
      have ex := And.intro @c0 (And.intro @c5 (And.intro @c9 (And.intro @c10 (And.intro @c11 (And.intro @hr (And.intro @hb (And.intro @hgs (And.intro @hge (And.intro @ht49 (And.intro @hdz (And.intro @han (And.intro @hcs (And.intro @hpB (And.intro @hpE (And.intro @hpA @zvE)))))))))))))))
      repeat' (first
       | (with_reducible refine isO ?_); first | refine mvA (h := ?_) | refine asA (h := ?_) | refine quA (h := ?_) | refine wnA (h := ?_)
       | (with_reducible refine isC ?_); first | refine ctA (h := ?_) | refine cfA (h := ?_) | refine cdA (h1 := fun _ => ?_) (h0 := fun _ => ?_) | refine cbA (h1 := fun _ => ?_) (h0 := fun _ => ?_)
       | with_reducible refine Ev.seq ?_
       | refine EvL.cons ?_
       | refine EvL.nil ?_
       | with_reducible first | refine Ev.ops ?_ | refine NxE ?_ | refine BxN ?_ | refine BxX ?_ | refine NxX ?_ | refine NxR ?_ | refine BxR ?_ | refine NxG ?_ | refine BxG ?_ | refine GxR ?_ | refine GxN ?_ | refine GxX ?_ | refine Ev.goto ?_ | refine Ev.block ?_ | refine Ev.skip ?_ | refine Ev.exit ?_ | refine Ev.ret ?_ | refine Ev.label ?_ | refine EvOps.nil ?_ | refine EvPlan.nil ?_
       | (with_reducible refine BxO ?_ ?_; · decide)
       | refine GxJ (by rfl) (ih _ _ ?_)
       )
      refine ⟨rfl, [], rfl, ?_⟩
      show V.tup [] = V.tup [] ∧ ∃ tip xs, hget ((nn, _) :: hset H 33 _) 33 = _ ∧ _
      refine ⟨rfl, ?_⟩
      rcases hS with ⟨rfl, rfl⟩ | ⟨T, rfl, h1, h2, h3⟩
      · simp at hxl
      · exact ⟨.own T, xs, by simp (disch := omega) only [hpE, hgs]; rfl, by omega⟩
  · rw [if_neg (by omega)] at c1
    obtain ⟨H0, xs', hap, hxl', hso, hkp, hlt0⟩ := hS.step (by omega) hcs hst hlt
    have hr0 := hkp 33 _ (by simp) hr
    have hb0 := hkp nb _ (by simp) hb
    have hlt2 : LT (nn + 1) ((nn, .cells [.int .i64 5, .int .i64 0, .int .i64 0, .int .u64 0, .int .u64 0, .int .i64 0, .int .i64 0, .sl .none [actOutF], .sl .full [], .int .u64 0, .int .u32 0, .int .u32 0, .int .u32 0, .int .u32 0, .int .u32 0]) :: H) := (hlt.le (by omega)).cons (by omega)
    have hone := oneC (H := (nn, .cells [.int .i64 5, .int .i64 0, .int .i64 0, .int .u64 0, .int .u64 0, .int .i64 0, .int .i64 0, .sl .none [actOutF], .sl .full [], .int .u64 0, .int .u32 0, .int .u32 0, .int .u32 0, .int .u32 0, .int .u32 0]) :: H) (H0 := (nn, .cells [.int .i64 5, .int .i64 0, .int .i64 0, .int .u64 0, .int .u64 0, .int .i64 0, .int .i64 0, .sl .none [actOutF], .sl .full [], .int .u64 0, .int .u32 0, .int .u32 0, .int .u32 0, .int .u32 0, .int .u32 0]) :: H0) (n := nn + 1) (r := 33) (pt := 2) (tt := tt) (S := S) (goes := .int .i64 (k : Nat)) (xs := xs') hcs hst hlt2.drop (by omega) (by simp (disch := omega) only [hpE, hr]) (by simp (disch := omega) only [hpE, hr0])
      (hap.ext [(nn, .cells [.int .i64 5, .int .i64 0, .int .i64 0, .int .u64 0, .int .u64 0, .int .i64 0, .int .i64 0, .sl .none [actOutF], .sl .full [], .int .u64 0, .int .u32 0, .int .u32 0, .int .u32 0, .int .u32 0, .int .u32 0])] (m := nn + 1) (mem1 (Nat.le_refl _)) (by omega))
    simp (disch := omega) only [hpE, actClone'] at hone
    have ex := And.intro @c0 (And.intro @c1 (And.intro @c5 (And.intro @hpB @hpE)))
    repeat' (first
     | (with_reducible refine isO ?_); first | refine mvA (h := ?_) | refine asA (h := ?_) | refine quA (h := ?_) | refine wnA (h := ?_)
     | (with_reducible refine isC ?_); first | refine ctA (h := ?_) | refine cfA (h := ?_) | refine cdA (h1 := fun _ => ?_) (h0 := fun _ => ?_) | refine cbA (h1 := fun _ => ?_) (h0 := fun _ => ?_)
     | with_reducible refine Ev.seq ?_
     | refine EvL.cons ?_
     | refine EvL.nil ?_
     | with_reducible first | refine Ev.ops ?_ | refine NxE ?_ | refine BxN ?_ | refine BxX ?_ | refine NxX ?_ | refine NxR ?_ | refine BxR ?_ | refine NxG ?_ | refine BxG ?_ | refine GxR ?_ | refine GxN ?_ | refine GxX ?_ | refine Ev.goto ?_ | refine Ev.block ?_ | refine Ev.skip ?_ | refine Ev.exit ?_ | refine Ev.ret ?_ | refine Ev.label ?_ | refine EvOps.nil ?_ | refine EvPlan.nil ?_
     | (with_reducible refine BxO ?_ ?_; · decide)
     | refine GxJ (by rfl) (ih _ _ ?_)
     )
    refine loopT (fun q t st => ((q = 1 ∧ tget t 11 = .int .i64 0 ∧ st = ⟨H, nn⟩) ∨ (q = 0 ∧ tget t 11 = .int .i64 1 ∧ st = ⟨(nn + 1 + 1 + 1 + 1 + 1 + 1 + 1 + 1 + 1, .tip 51) :: (nn, .cells [.int .i64 5, .int .i64 0, .int .i64 0, .int .u64 0, .int .u64 0, .int .i64 0, .int .i64 0, .sl .none [actOutF], .sl .full [], .int .u64 0, .int .u32 0, .int .u32 0, .int .u32 0, .int .u32 0, .int .u32 0]) :: hset (hset H0 33 (.cells [.ptr 2 0, .ptr tt 0, .sl (.own (nn + 1 + 1 + 1 + 1 + 1 + 1 + 1 + 1 + 1)) xs', .int .i64 (k : Nat), .bool false])) nb (.cells cs), nn + 1 + 1 + 1 + 1 + 1 + 1 + 1 + 1 + 1 + 1⟩)) ∧ tget t 0 = .ptr 33 0 ∧ tget t 5 = .ptr nb 0 ∧ tget t 9 = .sl .none [.agg [.int .i64 5, .int .i64 0, .int .i64 0, .int .u64 0, .int .u64 0, .int .i64 0, .int .i64 0, .sl .none [actOutF], .sl .full [], .int .u64 0, .int .u32 0, .int .u32 0, .int .u32 0, .int .u32 0, .int .u32 0], .agg [.int .i64 4, .int .i64 0, .int .i64 0, .int .u64 0, .int .u64 0, .int .i64 x, .int .i64 0, .sl .full [], .sl .full [], .int .u64 0, .int .u32 0, .int .u32 0, .int .u32 0, .int .u32 0, .int .u32 0]] ∧ tget t 10 = .int .i64 2) (n := 1) ?_ ?_
    · refine ⟨.inl ⟨rfl, ?_, rfl⟩, ?_, ?_, ?_, ?_⟩
      · simp only [↓evP, ↓tgP, ↓reduceIte, Nat.reduceEqDiff, reduceCtorEq, List.map_cons, List.map_nil, List.nil_append, List.append_nil, List.toList_toArray, c0]
      · simp only [↓evP, ↓tgP, ↓reduceIte, Nat.reduceEqDiff, reduceCtorEq, List.map_cons, List.map_nil, List.nil_append, List.append_nil, List.toList_toArray, c0]
      · simp only [↓evP, ↓tgP, ↓reduceIte, Nat.reduceEqDiff, reduceCtorEq, List.map_cons, List.map_nil, List.nil_append, List.append_nil, List.toList_toArray, c5]
      · simp only [↓evP, ↓tgP, ↓reduceIte, Nat.reduceEqDiff, reduceCtorEq, List.map_cons, List.map_nil, List.nil_append, List.append_nil, List.toList_toArray, c1]
      · simp only [↓evP, ↓tgP, ↓reduceIte, Nat.reduceEqDiff, reduceCtorEq, List.map_cons, List.map_nil, List.nil_append, List.append_nil, List.toList_toArray, c0]; rfl
    clear c0 c1 c5
    rintro q t st ⟨⟨rfl, c11, rfl⟩ | ⟨rfl, c11, rfl⟩, c0, c5, c9, c10⟩
    · skip
      have ex := And.intro @c0 (And.intro @c5 (And.intro @c9 (And.intro @c10 (And.intro @c11 (And.intro @ht49 (And.intro @hdz (And.intro @han (And.intro @hcs (And.intro @hpB (And.intro @hpE (And.intro @hpA (And.intro @zvE (And.intro @hb @hb0)))))))))))))
      repeat' (first
       | (with_reducible refine isO ?_); first | refine mvA (h := ?_) | refine asA (h := ?_) | refine quA (h := ?_) | refine wnA (h := ?_) | refine caA (hc := hone) (h := ?_)
       | (with_reducible refine isC ?_); first | refine ctA (h := ?_) | refine cfA (h := ?_) | refine cdA (h1 := fun _ => ?_) (h0 := fun _ => ?_) | refine cbA (h1 := fun _ => ?_) (h0 := fun _ => ?_)
       | with_reducible refine Ev.seq ?_
       | refine EvL.cons ?_
       | refine EvL.nil ?_
       | with_reducible first | refine Ev.ops ?_ | refine NxE ?_ | refine BxN ?_ | refine BxX ?_ | refine NxX ?_ | refine NxR ?_ | refine BxR ?_ | refine NxG ?_ | refine BxG ?_ | refine GxR ?_ | refine GxN ?_ | refine GxX ?_ | refine Ev.goto ?_ | refine Ev.block ?_ | refine Ev.skip ?_ | refine Ev.exit ?_ | refine Ev.ret ?_ | refine Ev.label ?_ | refine EvOps.nil ?_ | refine EvPlan.nil ?_
       | (with_reducible refine BxO ?_ ?_; · decide)
       | refine GxJ (by rfl) (ih _ _ ?_)
       )
      refine ⟨0, by omega, rfl, .inr ⟨rfl, ?_, rfl⟩, ?_, ?_, ?_, ?_⟩
      · simp only [↓evP, ↓tgP, ↓reduceIte, Nat.reduceEqDiff, reduceCtorEq, List.map_cons, List.map_nil, List.nil_append, List.append_nil, List.toList_toArray, c11]
      · simp only [↓evP, ↓tgP, ↓reduceIte, Nat.reduceEqDiff, reduceCtorEq, List.map_cons, List.map_nil, List.nil_append, List.append_nil, List.toList_toArray, c0]
      · simp only [↓evP, ↓tgP, ↓reduceIte, Nat.reduceEqDiff, reduceCtorEq, List.map_cons, List.map_nil, List.nil_append, List.append_nil, List.toList_toArray, c5]
      · simp only [↓evP, ↓tgP, ↓reduceIte, Nat.reduceEqDiff, reduceCtorEq, List.map_cons, List.map_nil, List.nil_append, List.append_nil, List.toList_toArray, c9]
      · simp only [↓evP, ↓tgP, ↓reduceIte, Nat.reduceEqDiff, reduceCtorEq, List.map_cons, List.map_nil, List.nil_append, List.append_nil, List.toList_toArray, c10]
    · have hge : decide ((k : Int) ≥ 4096) = false := by simp; omega
      have hwk : IntKind.i64.wrap ((k : Int) + 1) = ((k + 1 : Nat) : Int) := by rw [wI64 (by omega) (by omega)]; rfl
      have hgs := fun o => hgS H0 (a := 33) o hr0
      have hgb : ∀ o o', hget (hset (hset H0 33 o) nb o') nb = some o' := fun o o' => hgS _ (o' := .cells cs) _ (by rw [hgN _ _ (by omega)]; exact hb0)
      have hgt : ∀ a o o', a ≠ nb → hget (hset (hset H0 33 o) nb o') a = hget (hset H0 33 o) a := fun a o o' h => hgN _ _ h
      obtain ⟨H3, hH3⟩ : ∃ H3, hset (hset (hset H0 33 (.cells [.ptr 2 0, .ptr tt 0, .sl (.own (nn + 1 + 1 + 1 + 1 + 1 + 1 + 1 + 1 + 1)) xs', .int .i64 (k : Nat), .bool false])) nb (.cells cs)) 33 (.cells [.ptr 2 0, .ptr tt 0, .sl (.own (nn + 1 + 1 + 1 + 1 + 1 + 1 + 1 + 1 + 1)) xs', .int .i64 ((k + 1 : Nat) : Int), .bool false]) = H3 := ⟨_, rfl⟩
      have hlt3 : LT nn H3 := by rw [← hH3]; exact hlt0.set.set.set
      have hr3 : hget H3 33 = some (.cells [.ptr 2 0, .ptr tt 0, .sl (.own (nn + 1 + 1 + 1 + 1 + 1 + 1 + 1 + 1 + 1)) xs', .int .i64 ((k + 1 : Nat) : Int), .bool false]) := by rw [← hH3]; exact hgS _ (o' := (.cells [.ptr 2 0, .ptr tt 0, .sl (.own (nn + 1 + 1 + 1 + 1 + 1 + 1 + 1 + 1 + 1)) xs', .int .i64 (k : Nat), .bool false])) _ (by rw [hgN _ _ (by omega)]; exact hgs _)
      have hb3 : hget H3 nb = some (.cells cs) := by rw [← hH3, hgN _ _ (by omega)]; exact hgb _ _
      have hK3 : Keeps B H3 := fun p hp => by
        have h1 := hB p hp
        rw [← hH3, hgN _ _ (by omega), hgN _ _ (by omega), hgN _ _ (by omega)]
        exact hkp _ _ h1.2 (hK p hp)
      have hfd := hfa ((nn + 1 + 1 + 1 + 1 + 1 + 1 + 1 + 1 + 1 + 1, .cells [.int .i64 4, .int .i64 0, .int .i64 0, .int .u64 0, .int .u64 0, .int .i64 x, .int .i64 0, .sl .full [], .sl .full [], .int .u64 0, .int .u32 0, .int .u32 0, .int .u32 0, .int .u32 0, .int .u32 0]) :: (nn + 1 + 1 + 1 + 1 + 1 + 1 + 1 + 1 + 1, .tip 51) :: (nn, .cells [.int .i64 5, .int .i64 0, .int .i64 0, .int .u64 0, .int .u64 0, .int .i64 0, .int .i64 0, .sl .none [actOutF], .sl .full [], .int .u64 0, .int .u32 0, .int .u32 0, .int .u32 0, .int .u32 0, .int .u32 0]) :: H3) (nn + 1 + 1 + 1 + 1 + 1 + 1 + 1 + 1 + 1 + 1 + 1) (.sl (.own (nn + 1 + 1 + 1 + 1 + 1 + 1 + 1 + 1 + 1)) xs') (.int .i64 ((k + 1 : Nat) : Int)) (fun p hp => by
        have := (hB p hp).1
        simp (disch := omega) only [hpE]; exact hK3 p hp) (by omega) ((((hlt3.le (by omega)).cons (by omega)).cons (by omega)).cons (by omega)) (by simp (disch := omega) only [hpE, hr3])
      have ex := And.intro @c0 (And.intro @c5 (And.intro @c9 (And.intro @c10 (And.intro @c11 (And.intro @hgs (And.intro @hgb (And.intro @hgt (And.intro @hr3 (And.intro @hb3 (And.intro @hge (And.intro @hwk (And.intro @ht49 (And.intro @hdz (And.intro @han (And.intro @hcs (And.intro @hpB (And.intro @hpE @zvE)))))))))))))))))
      have exd := @hH3
      repeat' (first
       | (with_reducible refine isO ?_); first | refine mvA (h := ?_) | refine asA (h := ?_) | refine quA (h := ?_) | refine wnA (h := ?_) | refine caA (hc := hfd) (h := ?_)
       | (with_reducible refine isC ?_); first | refine ctA (h := ?_) | refine cfA (h := ?_) | refine cdA (h1 := fun _ => ?_) (h0 := fun _ => ?_) | refine cbA (h1 := fun _ => ?_) (h0 := fun _ => ?_)
       | with_reducible refine Ev.seq ?_
       | refine EvL.cons ?_
       | refine EvL.nil ?_
       | with_reducible first | refine Ev.ops ?_ | refine NxE ?_ | refine BxN ?_ | refine BxX ?_ | refine NxX ?_ | refine NxR ?_ | refine BxR ?_ | refine NxG ?_ | refine BxG ?_ | refine GxR ?_ | refine GxN ?_ | refine GxX ?_ | refine Ev.goto ?_ | refine Ev.block ?_ | refine Ev.skip ?_ | refine Ev.exit ?_ | refine Ev.ret ?_ | refine Ev.label ?_ | refine EvOps.nil ?_ | refine EvPlan.nil ?_
       | (with_reducible refine BxO ?_ ?_; · decide)
       | refine GxJ (by rfl) (ih _ _ ?_)
       )
      refine ⟨4097 - (k + 1), by omega, k + 1, _, _, nb, .sl (.own (nn + 1 + 1 + 1 + 1 + 1 + 1 + 1 + 1 + 1)) xs', xs', rfl, by omega, rfl, hb1, by omega, (((hlt3.le (by omega)).cons (by omega)).cons (by omega)).cons (by omega), fun p hp => ?_, by simp (disch := omega) only [hpE, hb3], by simp (disch := omega) only [hpE, hr3], SOk.own (by simp (disch := omega) only [hpE]) (by omega) hso, by omega, ?_, ?_, ?_⟩
      · have := (hB p hp).1
        simp (disch := omega) only [hpE]; exact hK3 p hp
      · simp only [↓evP, ↓tgP, ↓reduceIte, Nat.reduceEqDiff, reduceCtorEq, List.map_cons, List.map_nil, List.nil_append, List.append_nil, List.toList_toArray, c0]
      · rw [if_pos (by omega)]; simp only [↓evP, ↓tgP, ↓reduceIte, Nat.reduceEqDiff, reduceCtorEq, List.map_cons, List.map_nil, List.nil_append, List.append_nil, List.toList_toArray, c0]; first | done | rfl
      · simp only [↓evP, ↓tgP, ↓reduceIte, Nat.reduceEqDiff, reduceCtorEq, List.map_cons, List.map_nil, List.nil_append, List.append_nil, List.toList_toArray, c5]
end Go.Proofs.YtbgalenfbmaceaaGreatDoor.D
