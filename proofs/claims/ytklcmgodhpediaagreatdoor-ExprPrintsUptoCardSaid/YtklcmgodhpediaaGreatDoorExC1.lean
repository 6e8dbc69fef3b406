/- The text of a comparison. -/
import Derived.Test.YtklcmgodhpediaaGreatDoorExS1
set_option linter.unusedSimpArgs false
set_option linter.unusedVariables false
set_option maxRecDepth 100000
namespace Go.Proofs.YtklcmgodhpediaaGreatDoor
open Go Go.Vm Go.Proofs

theorem lenA (a b : List UInt8) : (a ++ b).length = a.length + b.length := List.length_append
def opT (o : Int) : List UInt8 := if o = 1 then [61, 61] else if o = 2 then [33, 61] else if o = 3 then [60] else if o = 4 then [60, 61] else if o = 5 then [62] else if o = 6 then [62, 61] else []
def opsM : List (V × V) := [(.str [61, 61], .int .i64 1), (.str [33, 61], .int .i64 2), (.str [60], .int .i64 3), (.str [60, 61], .int .i64 4), (.str [62], .int .i64 5), (.str [62, 61], .int .i64 6)]
theorem opsM_get {i : Nat} {e : V × V} (h : opsM[i]? = some e) : i < 6 ∧ e = (.str (opT ((i : Int) + 1)), .int .i64 ((i : Int) + 1)) := by
  have hi := (List.getElem?_eq_some_iff.1 h).1
  have hi : i < 6 := hi
  have : i = 0 ∨ i = 1 ∨ i = 2 ∨ i = 3 ∨ i = 4 ∨ i = 5 := by omega
  rcases this with rfl | rfl | rfl | rfl | rfl | rfl <;> exact ⟨by omega, (Option.some.inj h).symm⟩
theorem opsS (cs : List V) : FnS cx 64 [] ⟨[(0, .cells cs)], 1⟩ (.map 1) ⟨[(1, .map opsM), (0, .cells cs)], 2⟩ := ⟨Fn.ofG (n := 50) (by kernel_rfl) ⟨rfl, rfl⟩⟩
theorem filt_le : ∀ (l s : List Nat) (b : Nat), (l.filter fun x => decide (x ∉ s ++ [b])).length ≤ (l.filter fun x => decide (x ∉ s)).length
  | [], _, _ => Nat.le_refl _
  | a :: l, s, b => by
    have ih := filt_le l s b
    rw [List.filter_cons, List.filter_cons]
    by_cases h1 : a ∈ s
    · have h2 : a ∈ s ++ [b] := List.mem_append_left _ h1
      rw [if_neg (by simp [h2]), if_neg (by simp [h1])]
      exact ih
    · rw [if_pos (c := decide (a ∉ s) = true) (by simp [h1])]
      split <;> simp only [List.length_cons] <;> omega
theorem filt_lt : ∀ (l s : List Nat) (b : Nat), b ∈ l → b ∉ s → (l.filter fun x => decide (x ∉ s ++ [b])).length < (l.filter fun x => decide (x ∉ s)).length
  | [], _, _, h, _ => by cases h
  | a :: l, s, b, h, hs => by
    rw [List.filter_cons, List.filter_cons]
    by_cases hab : a = b
    · subst hab
      have := filt_le l s a
      rw [if_neg (by simp), if_pos (by simp [hs])]
      simp only [List.length_cons]
      omega
    · have ih := filt_lt l s b (by cases h with | head => exact absurd rfl hab | tail _ h => exact h) hs
      by_cases h1 : a ∈ s
      · have h2 : a ∈ s ++ [b] := List.mem_append_left _ h1
        rw [if_neg (by simp [h2]), if_neg (by simp [h1])]
        exact ih
      · rw [if_pos (by simp [h1, hab]), if_pos (by simp [h1])]
        simp only [List.length_cons]
        omega
def curL (b0 : Nat) (o : Int) (seen : List Nat) : List UInt8 := if b0 ∈ seen then opT o else []
theorem curL_hit {b0 : Nat} {o : Int} {seen : List Nat} : curL b0 o (seen ++ [b0]) = opT o := by unfold curL; rw [if_pos (by simp)]
theorem curL_miss {b0 b : Nat} {o : Int} {seen : List Nat} (h : b ≠ b0) : curL b0 o (seen ++ [b]) = curL b0 o seen := by
  unfold curL
  by_cases h1 : b0 ∈ seen
  · rw [if_pos h1, if_pos (List.mem_append_left _ h1)]
  · rw [if_neg h1, if_neg (by simp [h1, Ne.symm h])]
theorem opT_len (o : Int) : (opT o).length ≤ 2 := by
  unfold opT
  repeat' split
  all_goals simp
def cmpL (nm : List UInt8) (o : Int) (hv : List UInt8) (al m : Int) (hm : List UInt8) : List UInt8 :=
  if m = al then nm ++ [32] ++ opT o ++ [32] ++ hv else nm ++ [32] ++ opT o ++ [32] ++ hv ++ ([32, 47, 32] ++ hm)

set_option maxHeartbeats 4000000 in
theorem comparisonS (k f o v m : Int) (z : Bool) (ps : List E) (nm hv hm : List UInt8) (al : Int) (h1 : 1 ≤ o) (h6 : o ≤ 6) (l1 : nm.length ≤ 1000) (l2 : hv.length ≤ 1000) (l3 : hm.length ≤ 1000)
    (hn : ∀ st, FnS cx 65 [.int .i64 f] st (.str nm) st) (hx : ∀ st, FnS cx 66 [.int .u64 v] st (.str hv) st) (hy : ∀ st, FnS cx 66 [.int .u64 m] st (.str hm) st) (ha : ∀ st, FnS cx 42 [.int .i64 f] st (.int .u64 al) st) (st : St) :
    FnS cx 36 [E.c (.mk k f o v m z ps)] st (.str (cmpL nm o hv al m hm)) st := by
  have hu := unown_c (.mk k f o v m z ps)
  have hp := E.pure (.mk k f o v m z ps)
  have hol := opT_len o
  refine goP Tryz.func36 rfl rfl rfl rfl ?_ ?_
  · simp only [List.map_cons, List.map_nil, hu, pureVs, hp, Bool.and_self]
  intro t ht
  have a0 : tget t 0 = E.c (.mk k f o v m z ps) := ht 0 _ (by simp only [List.map_cons, hu]; rfl)
  clear ht
  rw [E.c] at a0
  have ex := @a0
  repeat' (first
   | (with_reducible refine isO ?_); first | refine mvA (h := ?_) | refine asA (h := ?_) | refine quA (h := ?_) | refine caA (hc := opsS _) (h := ?_)
   | (with_reducible refine isP ?_); first | refine dqA (h := ?_)
   | (with_reducible refine isC ?_); first | refine ctA (h := ?_) | refine cfA (h := ?_) | refine cdA (h1 := fun _ => ?_) (h0 := fun _ => ?_) | refine cbA (h1 := fun _ => ?_) (h0 := fun _ => ?_)
   | (with_reducible refine isR ?_); first
     | refine Ev.drawn (by decide +kernel) (l := [0, 1, 4, 7, 8, 2, 3, 5, 6, 9, 10, 11]) (by decide +kernel) ?_
     | refine Ev.drawn (by decide +kernel) (l := [0, 1, 2, 3, 4, 5]) (by decide +kernel) ?_
   | with_reducible first | refine Ev.seq ?_ | refine Ev.ops ?_ | refine NxE ?_ | refine BxN ?_ | refine BxX ?_ | refine NxX ?_ | refine NxR ?_ | refine BxR ?_ | refine Ev.block ?_ | refine Ev.skip ?_ | refine Ev.exit ?_ | refine Ev.ret ?_ | refine EvOps.nil ?_ | refine EvPlan.nil ?_
   | (with_reducible refine BxO ?_ ?_; · decide)
   )
  refine EvOps.range (es := opsM) (mb := 1) Tryz.underlying101 (by simp only [↓evP, ↓tgP, ↓reduceIte, Nat.reduceEqDiff, reduceCtorEq, List.map_cons, List.map_nil, List.nil_append, List.append_nil, List.toList_toArray, a0]) (by rfl) (fun bs ck hbl hnd => ?_)
  refine EvOps.nil ?_
  have hbl : bs.length = 6 := hbl
  have hi0 : (o - 1).toNat < bs.length := by omega
  have hb0 : bs[(o - 1).toNat]? = some (bs.getD (o - 1).toNat 0) := by rw [List.getD_eq_getElem?_getD, List.getElem?_eq_getElem hi0]; rfl
  generalize bs.getD (o - 1).toNat 0 = b0 at hb0
  have ex := @a0
  repeat' (first
   | (with_reducible refine isO ?_); first | refine mvA (h := ?_) | refine asA (h := ?_) | refine quA (h := ?_)
   | (with_reducible refine isP ?_); first | refine dqA (h := ?_)
   | (with_reducible refine isC ?_); first | refine ctA (h := ?_) | refine cfA (h := ?_) | refine cdA (h1 := fun _ => ?_) (h0 := fun _ => ?_) | refine cbA (h1 := fun _ => ?_) (h0 := fun _ => ?_)
   | (with_reducible refine isR ?_); first
     | refine Ev.drawn (by decide +kernel) (l := [0, 1, 4, 7, 8, 2, 3, 5, 6, 9, 10, 11]) (by decide +kernel) ?_
     | refine Ev.drawn (by decide +kernel) (l := [0, 1, 2, 3, 4, 5]) (by decide +kernel) ?_
   | with_reducible first | refine Ev.seq ?_ | refine Ev.ops ?_ | refine NxE ?_ | refine BxN ?_ | refine BxX ?_ | refine NxX ?_ | refine NxR ?_ | refine BxR ?_ | refine Ev.block ?_ | refine Ev.skip ?_ | refine Ev.exit ?_ | refine Ev.ret ?_ | refine EvOps.nil ?_ | refine EvPlan.nil ?_
   | (with_reducible refine BxO ?_ ?_; · decide)
   )
  refine loopT (fun r t st => ∃ seen : List Nat, r = (bs.filter fun x => decide (x ∉ seen)).length ∧ tget t 1 = .ptr 0 0 ∧ tget t 8 = .ptr 2 0 ∧ tget t 3 = .str (curL b0 o seen) ∧ st = ⟨[(2, .iter 1 ck seen), (1, .pin opsM bs ck), (0, .cells [.int .i64 k, .int .i64 f, .int .i64 o, .int .u64 v, .int .u64 m, .sl (tipB z) (E.cs ps)])], 3⟩) (n := (bs.filter fun x => decide (x ∉ ([] : List Nat))).length) ?_ ?_
  · refine ⟨[], rfl, ?_, ?_, ?_, rfl⟩
    · simp only [↓evP, ↓tgP, ↓reduceIte, Nat.reduceEqDiff, reduceCtorEq, List.map_cons, List.map_nil, List.nil_append, List.append_nil, List.toList_toArray, a0]
    · simp only [↓evP, ↓tgP, ↓reduceIte, Nat.reduceEqDiff, reduceCtorEq, List.map_cons, List.map_nil, List.nil_append, List.append_nil, List.toList_toArray, a0]
    · simp only [↓evP, ↓tgP, ↓reduceIte, Nat.reduceEqDiff, reduceCtorEq, List.map_cons, List.map_nil, List.nil_append, List.append_nil, List.toList_toArray, a0]; simp [curL, ofScalar]
  rintro r t st ⟨seen, rfl, c1, c8, c3, rfl⟩
  have ex := And.intro @c1 (And.intro @c8 @c3)
  repeat' (first
   | (with_reducible refine isO ?_); first | refine mvA (h := ?_) | refine asA (h := ?_) | refine quA (h := ?_)
   | (with_reducible refine isP ?_); first | refine dqA (h := ?_)
   | (with_reducible refine isC ?_); first | refine ctA (h := ?_) | refine cfA (h := ?_) | refine cdA (h1 := fun _ => ?_) (h0 := fun _ => ?_) | refine cbA (h1 := fun _ => ?_) (h0 := fun _ => ?_)
   | (with_reducible refine isR ?_); first
     | refine Ev.drawn (by decide +kernel) (l := [0, 1, 4, 7, 8, 2, 3, 5, 6, 9, 10, 11]) (by decide +kernel) ?_
     | refine Ev.drawn (by decide +kernel) (l := [0, 1, 2, 3, 4, 5]) (by decide +kernel) ?_
   | with_reducible first | refine Ev.seq ?_ | refine Ev.ops ?_ | refine NxE ?_ | refine BxN ?_ | refine BxX ?_ | refine NxX ?_ | refine NxR ?_ | refine BxR ?_ | refine Ev.block ?_ | refine Ev.skip ?_ | refine Ev.exit ?_ | refine Ev.ret ?_ | refine EvOps.nil ?_ | refine EvPlan.nil ?_
   | (with_reducible refine BxO ?_ ?_; · decide)
   )
  refine EvOps.next (ib := 2) (mb := 1) (ck := ck) (bs := bs) (es := opsM) (seen := seen) (by simp only [↓evP, ↓tgP, ↓reduceIte, Nat.reduceEqDiff, reduceCtorEq, List.map_cons, List.map_nil, List.nil_append, List.append_nil, List.toList_toArray, c8]) (by rfl) (by rfl) (fun i b e hb he hns => ?_) (fun hall => ?_)
  · obtain ⟨hi6, rfl⟩ := opsM_get he
    simp only [tsE, hset, beq_self_eq_true, if_true, Nat.reduceBEq, Bool.false_eq_true, if_false]
    have ex := And.intro @c1 (And.intro @c8 @c3)
    repeat' (first
     | (with_reducible refine isO ?_); first | refine mvA (h := ?_) | refine asA (h := ?_) | refine quA (h := ?_)
     | (with_reducible refine isP ?_); first | refine dqA (h := ?_)
     | (with_reducible refine isC ?_); first | refine ctA (h := ?_) | refine cfA (h := ?_) | refine cdA (h1 := fun _ => ?_) (h0 := fun _ => ?_) | refine cbA (h1 := fun _ => ?_) (h0 := fun _ => ?_)
     | (with_reducible refine isR ?_); first
       | refine Ev.drawn (by decide +kernel) (l := [0, 1, 4, 7, 8, 2, 3, 5, 6, 9, 10, 11]) (by decide +kernel) ?_
       | refine Ev.drawn (by decide +kernel) (l := [0, 1, 2, 3, 4, 5]) (by decide +kernel) ?_
     | with_reducible first | refine Ev.seq ?_ | refine Ev.ops ?_ | refine NxE ?_ | refine BxN ?_ | refine BxX ?_ | refine NxX ?_ | refine NxR ?_ | refine BxR ?_ | refine Ev.block ?_ | refine Ev.skip ?_ | refine Ev.exit ?_ | refine Ev.ret ?_ | refine EvOps.nil ?_ | refine EvPlan.nil ?_
     | (with_reducible refine BxO ?_ ?_; · decide)
     )
    refine EvOps.entry (ib := 2) (mb := 1) (ck := ck) (i := i) (b := b) (seen := seen) (bs := bs) (es := opsM) (by simp only [↓evP, ↓tgP, ↓reduceIte, Nat.reduceEqDiff, reduceCtorEq, List.map_cons, List.map_nil, List.nil_append, List.append_nil, List.toList_toArray, c8]) (by rfl) (by rfl) hb he ?_
    simp only [tsE]
    have ex := And.intro @c1 (And.intro @c8 @c3)
    repeat' (first
     | (with_reducible refine isO ?_); first | refine mvA (h := ?_) | refine asA (h := ?_) | refine quA (h := ?_)
     | (with_reducible refine isP ?_); first | refine dqA (h := ?_)
     | (with_reducible refine isC ?_); first | refine ctA (h := ?_) | refine cfA (h := ?_) | refine cdA (h1 := fun _ => ?_) (h0 := fun _ => ?_) | refine cbA (h1 := fun _ => ?_) (h0 := fun _ => ?_)
     | (with_reducible refine isR ?_); first
       | refine Ev.drawn (by decide +kernel) (l := [0, 1, 4, 7, 8, 2, 3, 5, 6, 9, 10, 11]) (by decide +kernel) ?_
       | refine Ev.drawn (by decide +kernel) (l := [0, 1, 2, 3, 4, 5]) (by decide +kernel) ?_
     | with_reducible first | refine Ev.seq ?_ | refine Ev.ops ?_ | refine NxE ?_ | refine BxN ?_ | refine BxX ?_ | refine NxX ?_ | refine NxR ?_ | refine BxR ?_ | refine Ev.block ?_ | refine Ev.skip ?_ | refine Ev.exit ?_ | refine Ev.ret ?_ | refine EvOps.nil ?_ | refine EvPlan.nil ?_
     | (with_reducible refine BxO ?_ ?_; · decide)
     )
    all_goals refine ⟨_, filt_lt bs seen b (List.mem_of_getElem? hb) hns, rfl, seen ++ [b], rfl, ?_, ?_, ?_, rfl⟩
    all_goals first
      | (simp only [↓evP, ↓tgP, ↓reduceIte, Nat.reduceEqDiff, reduceCtorEq, List.map_cons, List.map_nil, List.nil_append, List.append_nil, List.toList_toArray, c1]; done)
      | (simp only [↓evP, ↓tgP, ↓reduceIte, Nat.reduceEqDiff, reduceCtorEq, List.map_cons, List.map_nil, List.nil_append, List.append_nil, List.toList_toArray, c8]; done)
      | skip
    · rename_i hio
      have hii : i = (o - 1).toNat := by omega
      subst hii
      obtain rfl : b = b0 := Option.some.inj (hb.symm.trans hb0)
      simp only [↓evP, ↓tgP, ↓reduceIte, Nat.reduceEqDiff, reduceCtorEq, List.map_cons, List.map_nil, List.nil_append, List.append_nil, List.toList_toArray, c3]
      rw [hio, curL_hit]
    · rename_i hio
      have hne : b ≠ b0 := by
        rintro rfl
        have := (List.getElem?_inj (by omega) hnd).1 (hb.trans hb0.symm)
        omega
      simp only [↓evP, ↓tgP, ↓reduceIte, Nat.reduceEqDiff, reduceCtorEq, List.map_cons, List.map_nil, List.nil_append, List.append_nil, List.toList_toArray, c3]
      rw [curL_miss hne]
  · simp only [tsE]
    have hcur : curL b0 o seen = opT o := by
      unfold curL
      rw [if_pos (hall b0 (List.mem_of_getElem? hb0))]
    rw [hcur] at c3
    have ex := And.intro @c1 (And.intro @c8 (And.intro @c3 @lenA))
    repeat' (first
     | (with_reducible refine isO ?_); first | refine mvA (h := ?_) | refine asA (h := ?_) | refine quA (h := ?_) | refine caA (hc := hx _) (h := ?_) | refine caA (hc := hy _) (h := ?_)
     | (with_reducible refine isP ?_); first | refine dqA (h := ?_) | refine dcA (i := 2) (l := [8]) (hc := hn _) (h := ?_) | refine dcA (i := 9) (l := []) (hc := hx _) (h := ?_) | refine dcA (i := 9) (l := []) (hc := hy _) (h := ?_) | refine dcA (i := 4) (l := [1]) (hc := ha _) (h := ?_)
     | (with_reducible refine isC ?_); first | refine ctA (h := ?_) | refine cfA (h := ?_) | refine cdA (h1 := fun _ => ?_) (h0 := fun _ => ?_) | refine cbA (h1 := fun _ => ?_) (h0 := fun _ => ?_)
     | (with_reducible refine isR ?_); first
       | refine Ev.drawn (by decide +kernel) (l := [0, 1, 4, 7, 8, 2, 3, 5, 6, 9, 10, 11]) (by decide +kernel) ?_
       | refine Ev.drawn (by decide +kernel) (l := [0, 1, 2, 3, 4, 5]) (by decide +kernel) ?_
     | with_reducible first | refine Ev.seq ?_ | refine Ev.ops ?_ | refine NxE ?_ | refine BxN ?_ | refine BxX ?_ | refine NxX ?_ | refine NxR ?_ | refine BxR ?_ | refine Ev.block ?_ | refine Ev.skip ?_ | refine Ev.exit ?_ | refine Ev.ret ?_ | refine EvOps.nil ?_ | refine EvPlan.nil ?_
     | (with_reducible refine BxO ?_ ?_; · decide)
     )
    · rename_i hne
      refine lfA (rl := [.tmp 2]) rfl (hv := by
      simp only [packV, strip, stripAgg, stripCell, List.map_cons, List.map_nil]
      unfold cmpL; rw [if_neg hne]; rfl) (hp := rfl)
    · rename_i hne
      refine lfA (rl := [.tmp 2]) rfl (hv := by
      simp only [packV, strip, stripAgg, stripCell, List.map_cons, List.map_nil]
      unfold cmpL; rw [if_pos (by omega)]) (hp := rfl)
end Go.Proofs.YtklcmgodhpediaaGreatDoor
