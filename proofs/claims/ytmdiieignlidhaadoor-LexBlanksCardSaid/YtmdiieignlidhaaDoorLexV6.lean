/- Tokens taken. -/
import Derived.Test.YtmdiieignlidhaaDoorLexV5
set_option linter.unusedSimpArgs false
set_option linter.unusedVariables false
set_option maxRecDepth 100000
namespace Go.Proofs.YtmdiieignlidhaaDoor
open Go Go.Vm Go.Proofs

structure Tok where
  kind : Int
  text : List UInt8
  num : Int
  place : Int
def Tok.v (t : Tok) : V := .agg [.int .i64 t.kind, .str t.text, .int .u64 t.num, .int .i64 t.place]
/-- The reader, behind so many tokens. -/
def outV (n : Nat) (l : List Tok) : V := if l.isEmpty then .sl .full [] else .sl (.own n) (l.map Tok.v)
/-- The reader's memory. -/
def rdH (sx : List UInt8) (a : Int) : Nat → List Tok → List (Nat × Ob)
  | _, [] => [(0, .cells [.str sx, .int .i64 a, .sl .full []])]
  | n, t :: l => [(n, .tip 4), (0, .cells [.str sx, .int .i64 a, .sl (.own n) ((t :: l).map Tok.v)])]

theorem bsTok (a : Int) (b : List UInt8) (c d : Int) : buildSliceV cx 22 1 [(0, .agg [.int .i64 a, .str b, .int .u64 c, .int .i64 d])] = some (.sl .full [(Tok.mk a b c d).v]) := by rfl
theorem appTF {t : Tok} {tip : Tip} {H : List (Nat × Ob)} {n : Nat} : appendV cx ⟨H, n⟩ 22 (.sl .full []) (.sl tip [t.v]) = some (.sl (.own n) [t.v], ⟨(n, .tip 4) :: H, n + 1⟩) := by
  have hz : zeroOk cx 30 4 = true := by decide +kernel
  have hb : byOf cx 30 = 40 := by decide +kernel
  have e : [t.v].map stripAgg = [t.v] := rfl
  simp only [appendV, tyE, addedV, szE, Tok.v, ncE, List.length_cons, List.length_nil, hz, hb]
  rfl
theorem appTO {l : List Tok} {t : Tok} {tip : Tip} {H : List (Nat × Ob)} {n k : Nat} (hl : l.length ≤ 1000000) (h0 : l ≠ []) : appendV cx ⟨(k, .tip 4) :: H, n⟩ 22 (.sl (.own k) (l.map Tok.v)) (.sl tip [t.v]) = some (.sl (.own n) ((l ++ [t]).map Tok.v), ⟨(n, .tip 4) :: H, n + 1⟩) := by
  have hz : zeroOk cx 30 4 = true := by decide +kernel
  have hb : byOf cx 30 = 40 := by decide +kernel
  have hs : szOk 4 (l.map Tok.v) = true := by cases l <;> rfl
  have hs2 : szOk 4 [t.v] = true := rfl
  have hc : 0 < 4 ∧ True ∧ True ∧ ((l.map Tok.v).length + [t.v].length) * byOf cx 30 ≤ 2 ^ 47 ∧ (l.map Tok.v).length + [t.v].length ≤ 2 ^ 47 := by
    refine ⟨by omega, trivial, trivial, ?_, ?_⟩ <;> simp [hb] <;> omega
  simp only [appendV, tyE, addedV, hs, hs2, if_true, List.isEmpty_cons, Bool.false_eq_true, if_false, hz]
  rw [if_pos hc]
  simp only [hgE, beq_self_eq_true, if_true, hdel, List.map_append, List.map_cons, List.map_nil]
  rfl


theorem appF4 {a c d : Int} {b : List UInt8} {tip : Tip} {H : List (Nat × Ob)} {n : Nat} : appendV cx ⟨H, n⟩ 22 (.sl .full []) (.sl tip [(.agg [.int .i64 a, .str b, .int .u64 c, .int .i64 d])]) = some (.sl (.own n) [(.agg [.int .i64 a, .str b, .int .u64 c, .int .i64 d])], ⟨(n, .tip 4) :: H, n + 1⟩) := appTF (t := ⟨a, b, c, d⟩)
theorem appO4 {a c d : Int} {b : List UInt8} {l : List Tok} {tip : Tip} {H : List (Nat × Ob)} {n k : Nat} (hl : l.length ≤ 1000000) (h0 : l ≠ []) : appendV cx ⟨(k, .tip 4) :: H, n⟩ 22 (.sl (.own k) (l.map Tok.v)) (.sl tip [(.agg [.int .i64 a, .str b, .int .u64 c, .int .i64 d])]) = some (.sl (.own n) ((l ++ [Tok.mk a b c d]).map Tok.v), ⟨(n, .tip 4) :: H, n + 1⟩) := appTO (t := ⟨a, b, c, d⟩) hl h0
theorem beqN (n : Nat) : (n + 1 == 0) = false := by simp
theorem beqS0 {n : Nat} (h : n ≠ 0) : (n == 0) = false := by simpa using h
theorem bs4 (a : Int) (b : List UInt8) (c d : Int) : buildSliceV cx 22 1 [(0, (.agg [.int .i64 a, .str b, .int .u64 c, .int .i64 d]))] = some (.sl .full [(.agg [.int .i64 a, .str b, .int .u64 c, .int .i64 d])]) := by rfl
theorem tokE (t : Tok) : t.v = .agg [.int .i64 t.kind, .str t.text, .int .u64 t.num, .int .i64 t.place] := rfl
set_option maxHeartbeats 4000000 in
theorem take0 (sx : List UInt8) (a k sz nm : Int) (tx : List UInt8) (n : Nat)  (ha : 0 ≤ a) (ha2 : a ≤ 1000000) (hz : 0 ≤ sz) (hz2 : sz ≤ 1000000) :
    FnS cx 24 [.ptr 0 0, .int .i64 k, .int .i64 sz, .str tx, .int .u64 nm] ⟨[(0, .cells [.str sx, .int .i64 a, .sl .full []])], n + 1⟩ (.tup []) ⟨[(n + 1, .tip 4), (0, .cells [.str sx, .int .i64 (a + sz), .sl (.own (n + 1)) [(Tok.mk k tx nm a).v]])], n + 2⟩ := by
  refine goS Tryd.func24 rfl rfl rfl rfl ?_
  intro t ht
  have a0 : tget t 0 = .ptr 0 0 := ht 0 _ rfl
  have a1 : tget t 1 = .int .i64 k := ht 1 _ rfl
  have a2 : tget t 2 = .int .i64 sz := ht 2 _ rfl
  have a3 : tget t 3 = .str tx := ht 3 _ rfl
  have a4 : tget t 4 = .int .u64 nm := ht 4 _ rfl
  clear ht
  have ex := And.intro @a0 (And.intro @a1 (And.intro @a2 (And.intro @a3 (And.intro @a4 (And.intro @bs4 (And.intro @beqN @appF4))))))
  repeat' (first
   | (with_reducible refine isO ?_); first
     | refine mvA (h := ?_)
     | refine asA (h := ?_)
     | refine quA (h := ?_)
     | refine wnA (h := ?_)
   | (with_reducible refine isP ?_); first
     | refine dqA (h := ?_)
     | refine dwA (i := 14) (l := []) (h := ?_)
     | refine dnA (i := 17) (l := []) (h := ?_)
   | (with_reducible refine isC ?_); first
     | refine ctA (h := ?_)
     | refine cfA (h := ?_)
     | refine cdA (h1 := fun _ => ?_) (h0 := fun _ => ?_)
     | refine cbA (h1 := fun _ => ?_) (h0 := fun _ => ?_)
   | (with_reducible refine isR ?_); first
     | refine Ev.drawn (by decide +kernel) (l := [0, 1, 2, 3, 4, 5, 6, 7, 8, 9, 10, 11, 12, 13, 14, 15, 16, 17]) (by decide +kernel) ?_
   | with_reducible refine Ev.seq ?_
   | with_reducible refine Ev.ops ?_
   | with_reducible refine NxE ?_
   | with_reducible refine BxN ?_
   | with_reducible refine BxX ?_
   | with_reducible refine NxX ?_
   | with_reducible refine NxR ?_
   | with_reducible refine BxR ?_
   | with_reducible refine NxG ?_
   | with_reducible refine BxG ?_
   | with_reducible refine GxR ?_
   | with_reducible refine GxN ?_
   | with_reducible refine GxX ?_
   | with_reducible refine Ev.goto ?_
   | with_reducible refine Ev.block ?_
   | with_reducible refine Ev.skip ?_
   | with_reducible refine Ev.exit ?_
   | with_reducible refine Ev.ret ?_
   | with_reducible refine Ev.label ?_
   | with_reducible refine EvOps.nil ?_
   | with_reducible refine EvPlan.nil ?_
   | (with_reducible refine BxO ?_ ?_; · decide)
   )
  refine lsA (rl := []) rfl (hv := by
      simp only [leaveV, packV, strip, stripAgg, stripCell, hdrop, Nat.reduceLeDiff, List.map_cons, List.map_nil, show cx.grow 24 = false from rfl, show cx.keep 24 = true from rfl, show cx.frz 24 = false from rfl, if_false, if_true, Bool.false_eq_true]
      first | done | rfl)
set_option maxHeartbeats 4000000 in
theorem take1 (sx : List UInt8) (a k sz nm : Int) (tx : List UInt8) (n : Nat) (l : List Tok) (hl : l.length ≤ 1000000) (h0 : l ≠ []) (h00 : n ≠ 0) (ha : 0 ≤ a) (ha2 : a ≤ 1000000) (hz : 0 ≤ sz) (hz2 : sz ≤ 1000000) :
    FnS cx 24 [.ptr 0 0, .int .i64 k, .int .i64 sz, .str tx, .int .u64 nm] ⟨[(n, .tip 4), (0, .cells [.str sx, .int .i64 a, .sl (.own n) (l.map Tok.v)])], n + 1⟩ (.tup []) ⟨[(n + 1, .tip 4), (0, .cells [.str sx, .int .i64 (a + sz), .sl (.own (n + 1)) ((l ++ [Tok.mk k tx nm a]).map Tok.v)])], n + 2⟩ := by
  refine goS Tryd.func24 rfl rfl rfl rfl ?_
  intro t ht
  have a0 : tget t 0 = .ptr 0 0 := ht 0 _ rfl
  have a1 : tget t 1 = .int .i64 k := ht 1 _ rfl
  have a2 : tget t 2 = .int .i64 sz := ht 2 _ rfl
  have a3 : tget t 3 = .str tx := ht 3 _ rfl
  have a4 : tget t 4 = .int .u64 nm := ht 4 _ rfl
  clear ht
  have ex := And.intro @a0 (And.intro @a1 (And.intro @a2 (And.intro @a3 (And.intro @a4 (And.intro @bs4 (And.intro @beqN (And.intro @appO4 (beqS0 h00))))))))
  repeat' (first
   | (with_reducible refine isO ?_); first
     | refine mvA (h := ?_)
     | refine asA (h := ?_)
     | refine quA (h := ?_)
     | refine wnA (h := ?_)
   | (with_reducible refine isP ?_); first
     | refine dqA (h := ?_)
     | refine dwA (i := 14) (l := []) (h := ?_)
     | refine dnA (i := 17) (l := []) (h := ?_)
   | (with_reducible refine isC ?_); first
     | refine ctA (h := ?_)
     | refine cfA (h := ?_)
     | refine cdA (h1 := fun _ => ?_) (h0 := fun _ => ?_)
     | refine cbA (h1 := fun _ => ?_) (h0 := fun _ => ?_)
   | (with_reducible refine isR ?_); first
     | refine Ev.drawn (by decide +kernel) (l := [0, 1, 2, 3, 4, 5, 6, 7, 8, 9, 10, 11, 12, 13, 14, 15, 16, 17]) (by decide +kernel) ?_
   | with_reducible refine Ev.seq ?_
   | with_reducible refine Ev.ops ?_
   | with_reducible refine NxE ?_
   | with_reducible refine BxN ?_
   | with_reducible refine BxX ?_
   | with_reducible refine NxX ?_
   | with_reducible refine NxR ?_
   | with_reducible refine BxR ?_
   | with_reducible refine NxG ?_
   | with_reducible refine BxG ?_
   | with_reducible refine GxR ?_
   | with_reducible refine GxN ?_
   | with_reducible refine GxX ?_
   | with_reducible refine Ev.goto ?_
   | with_reducible refine Ev.block ?_
   | with_reducible refine Ev.skip ?_
   | with_reducible refine Ev.exit ?_
   | with_reducible refine Ev.ret ?_
   | with_reducible refine Ev.label ?_
   | with_reducible refine EvOps.nil ?_
   | with_reducible refine EvPlan.nil ?_
   | (with_reducible refine BxO ?_ ?_; · decide)
   )
  refine lsA (rl := []) rfl (hv := by
      simp only [leaveV, packV, strip, stripAgg, stripCell, hdrop, Nat.reduceLeDiff, List.map_cons, List.map_nil, show cx.grow 24 = false from rfl, show cx.keep 24 = true from rfl, show cx.frz 24 = false from rfl, if_false, if_true, Bool.false_eq_true]
      first | done | rfl)
end Go.Proofs.YtmdiieignlidhaaDoor
